/- A part. -/
import Derived.Test.YthjdfjlhjnihfaaGreatA0
import Derived.Test.YthjdfjlhjnihfaaGreatN23
namespace Go.Proofs.YthjdfjlhjnihfaaGreat.Lin
set_option linter.all false
structure Pb (d:Nat) (ps:List (Nat × V)) (u:Under):Prop where
 lines:ps.map (·.2)=u.lines
 lt:∀ q∈ps,q.1<d
 diag:∀ q∈ps,at_ q.2 q.1≠0
 apart:ps.Pairwise fun q q'=>at_ q.2 q'.1=0/\at_ q'.2 q.1=0
 rays:∀ r∈u.rays,∀ q∈ps,at_ r q.1=0
 contL:∀ l∈u.lines,content l=1
 contR:∀ r∈u.rays,content r=1
section
variable {d:Nat} {ps:List (Nat × V)}
theorem A4 {α β:Type} (f:α->β) (l:List α) (i:Nat):(l.map f).eraseIdx i=(l.eraseIdx i).map f:=by
 simp [UW,List.map_take,List.map_drop]
theorem ya:∀ (l:List (Nat × V)),(l.map fun _=>(0:Int)).sum=0
 | []=>rfl
 | _ :: l=>by simp [ya l]
theorem JR (hlen:∀ q∈ps,q.2.length=d) (hdiag:∀ q∈ps,at_ q.2 q.1≠0) (hap:ps.Pairwise fun q q'=>at_ q.2 q'.1=0/\at_ q'.2 q.1=0) {x:V} (hx:Spn d (· ∈ ps.map (·.2)) x) (hz:∀ q∈ps,at_ x q.1=0):∀ i,at_ x i=0:=by
 have hnd:ps.Nodup:=hap.imp_of_mem fun {q q'} hq hq' h e=>by
  subst e; exact hdiag q hq h.1
 have hoff:∀ q∈ps,∀ q'∈ps,q≠q'->at_ q.2 q'.1=0:=fun q hq q' hq' hne=>by
  obtain ⟨i,hi⟩:=Tf hq
  obtain ⟨j,hj⟩:=Tf hq'
  obtain ⟨hi',rfl⟩:=SI.1 hi
  obtain ⟨hj',rfl⟩:=SI.1 hj
  rcases Vh i j with hlt | heq | hlt
  ·exact (Tl.1 hap i j hi' hj' hlt).1
  ·subst heq; exact absurd rfl hne
  ·exact (Tl.1 hap j i hj' hi' hlt).2
 have hLl:∀ l,l∈ps.map (·.2)->l.length=d:=fun l hl=>by
  obtain ⟨q,hq,rfl⟩:=Sy.1 hl
  exact hlen q hq
 have key:∀ {x:V},Spn d (· ∈ ps.map (·.2)) x->∃ k:Int,0<k/\∃ c:Nat × V->Int,(∀ i,k*at_ x i=(ps.map fun q=>c q*at_ q.2 i).sum):=by
  intro x hx
  induction hx with
  | zero=>exact ⟨1,by omega,fun _=>0,fun i=>by rw [ic]; simp only [Xc,Xd]; exact (ya ps).symm⟩
  | @line x l n hx hl ih =>
   obtain ⟨k,hk,c,hc⟩:=ih
   obtain ⟨q0,hq0,rfl⟩:=Sy.1 hl
   refine ⟨k,hk,fun r=>c r+(if r=q0 then k*n else 0),fun i=>?_⟩
   rw [al ((hx.length hLl (fun r h=>h.elim)).trans (hlen q0 hq0).symm)]
   have e:∀ (G:List (Nat × V)),G.Nodup->(G.map fun r=>(c r+(if r=q0 then k*n else 0))*at_ r.2 i).sum=(G.map fun r=>c r*at_ r.2 i).sum+(if q0∈G then k*n*at_ q0.2 i else 0):=by
    intro G
    induction G with
    | nil=>intro _; simp
    | cons g G ihG =>
     intro hg
     obtain ⟨hg1,hg2⟩:=Vc.1 hg
     simp only [SA,VB,ihG hg2]
     by_cases hgl:g=q0
     ·subst hgl
      simp only [if_pos rfl,SX,true_or,if_true,hg1,if_false]
      grind
     ·have:¬ q0=g:=fun e=>hgl e.symm
      simp only [if_neg hgl,SX,this,false_or]
      grind
   rw [e ps hnd,if_pos hq0,<- hc i]
   grind
  | ray c hc hx hr ih=>exact hr.elim
  | @div x j hj hl hx ih =>
   obtain ⟨k,hk,c,hc⟩:=ih
   exact ⟨k*j,Ug hk hj,c,fun i=>by rw [<- hc i,aA]; grind⟩
 obtain ⟨k,hk,c,hc⟩:=key hx
 have hc0:∀ q∈ps,c q=0:=fun q hq=>by
  have e1:=hc q.1
  rw [hz q hq] at e1
  have e2:∀ (G:List (Nat × V)),(∀ g∈G,g∈ps)->G.Nodup->(G.map fun s=>c s*at_ s.2 q.1).sum=if q∈G then c q*at_ q.2 q.1 else 0:=by
   intro G
   induction G with
   | nil=>intro _ _; simp
   | cons g G ihG =>
    intro hG hg
    obtain ⟨hg1,hg2⟩:=Vc.1 hg
    simp only [SA,VB,ihG (fun x hx=>hG x (SE _ hx)) hg2]
    by_cases hgr:g=q
    ·subst hgr
     simp [hg1]
    ·have hrg:¬ q=g:=fun e=>hgr e.symm
     rw [hoff g (hG g (SK ..)) q hq hgr]
     simp [hrg]
  rw [e2 ps (fun g hg=>hg) hnd,if_pos hq] at e1
  rcases SZ.1 (show c q*at_ q.2 q.1=0 by omega) with h1 | h1
  ·exact h1
  ·exact absurd h1 (hdiag q hq)
 intro i
 have e1:=hc i
 have:(ps.map fun q=>c q*at_ q.2 i)=ps.map fun _=>(0:Int):=Uq fun q hq=>by rw [hc0 q hq]; simp
 rw [this,ya] at e1
 rcases SZ.1 e1 with h1 | h1
 ·omega
 ·exact h1
theorem CF {i:Nat} (hi:i<d):content (unitV d i)=1:=by
 have h1:(content (unitV d i):Int) ∣ 1:=by
  have:=MP (x:=unitV d i) (i:=i) (by rw [mA hi]; simp)
  rw [mA hi,if_pos rfl] at this
  exact content_dvd this
 have:=VC.2 h1
 simpa using this
theorem JT (d:Nat):Pb d ((List.range d).map fun i=>(i,unitV d i)) (startU d):=by
 refine ⟨by simp [startU,UN,XQ],fun q hq=>?_,fun q hq=>?_,?_,fun r hr=>(by cases hr),fun l hl=>?_,fun r hr=>(by cases hr)⟩
 ·obtain ⟨i,hi,rfl⟩:=Sy.1 hq
  exact TM.1 hi
 ·obtain ⟨i,hi,rfl⟩:=Sy.1 hq
  rw [mA (TM.1 hi)]; simp
 ·refine TT.2 (Vl (fun {i j} hi hj hlt=>?_) VZ)
  have hi:=TM.1 hi
  have hj:=TM.1 hj
  simp only
  rw [mA hi,mA hj,if_neg (by omega),if_neg (by omega)]
  exact ⟨rfl,rfl⟩
 ·obtain ⟨i,hi,rfl⟩:=Sy.1 hl
  exact CF (TM.1 hi)
theorem PI (a u:V) (i:Nat):at_ (upV a u) i=0 ↔ at_ u i=0:=by
 unfold upV
 split
 ·rw [aA]; omega
 ·exact Wl
theorem Oz {u:Under} {a:V} {E:V->Prop} (hdd:DD d E (· ∈ u.done) (· ∈ u.lines) u.rays) (h:Pb d ps u) (eq:Bool):∃ ps',Pb d ps' (addU a eq u):=by
 have hlen:∀ q∈ps,q.2.length=d:=fun q hq=>hdd.lenL q.2 (by rw [<- h.lines]; exact Ur hq)
 unfold addU
 split
 ·rename_i hn
  have hal:∀ x,x∈u.lines->dot a x=0:=fun x hx=>by
   have:=UX.1 hn x hx
   simpa using this
  refine ⟨ps,h.lines,h.lt,h.diag,h.apart,fun r hr q hq=>?_,h.contL,fun r hr=>?_⟩
  ·rcases mem_cutL.1 hr with ⟨i,r,h1,h2,rfl⟩ | ⟨i,r,h1,h2,⟨h3,rfl⟩ | ⟨k,n,h3,h4,h5,rfl⟩⟩
   ·exact h.rays _ (SL h1) q hq
   ·exact h.rays _ (SL h1) q hq
   ·rw [(jX q.1).1]
    unfold mx
    rw [al ((hdd.lenR _ (SL h1)).trans (hdd.lenR _ (SL h3)).symm),h.rays _ (SL h1) q hq,h.rays _ (SL h3) q hq]; simp
  ·rcases mem_cutL.1 hr with ⟨i,r,h1,h2,rfl⟩ | ⟨i,r,h1,h2,⟨h3,rfl⟩ | ⟨k,n,h3,h4,h5,rfl⟩⟩
   ·exact h.contR _ (SL h1)
   ·exact h.contR _ (SL h1)
   ·refine ik ?_
    have hr:=SL h1
    have hn':=SL h3
    obtain ⟨b,hb,hne⟩:=hdd.off r hr
    have hm:dot b (mx a r n)≠0:=fun e=>hne ((lC (hdd.keep r hr) (hdd.keep n hn') h2 h4 hb).1 e).1
    apply Um
    intro hno
    have hz:∀ i,at_ (mx a r n) i=0:=fun i=>V6.1 fun e=>hno ⟨i,e⟩
    refine hm ?_
    rw [(Gp (fD (hdd.keep r hr) (hdd.keep n hn') h2 h4).len).2 hz,ml]
 ·rename_i i hi
  obtain ⟨hi1,hi2,-⟩:=To.1 hi
  have hl:u.lines.getD i []=u.lines[i]:=by simp [Ss,hi1]
  rw [hl]
  have hne:dot a u.lines[i]≠0:=by simpa using hi2
  have hips:i<ps.length:=by have:=congrArg List.length h.lines; simp at this; omega
  have hli:u.lines[i]=(ps[i]).2:=by
   have:(ps.map (·.2))[i]? = u.lines[i]?:=by rw [h.lines]
   rw [Tt,Sv hips,Sv hi1] at this
   simpa using this.symm
  have hull:(u.lines[i]).length=d:=hdd.lenL _ (Sx hi1)
  generalize hv:upV a u.lines[i]=v
  have hvl:v.length=d:=by
   rw [<- hv]; unfold upV; split
   ·exact ai hull
   ·exact hull
  have hpos:0<dot a v:=by
   rw [<- hv]; unfold upV
   split
   ·rw [dot_scl]; omega
   ·omega
  have hvz:∀ t,at_ v t=0 ↔ at_ (ps[i]).2 t=0:=fun t=>by rw [<- hv,PI,hli]
  have hvq:∀ q∈ps.eraseIdx i,at_ v q.1=0:=fun q hq=>by
   obtain ⟨j,hji,hj⟩:=Vu.1 hq
   obtain ⟨hj',rfl⟩:=SI.1 hj
   rw [hvz]
   rcases Nat.lt_or_gt_of_ne hji with hlt | hlt
   ·exact (Tl.1 h.apart j i hj' hips hlt).2
   ·exact (Tl.1 h.apart i j hips hj' hlt).1
  have hfz:∀ x:V,x.length=d->∀ t,at_ v t=0->(at_ (foldV a v x) t=0 ↔ at_ x t=0):=fun x hx t ht=>by
   unfold foldV
   rw [(jX t).1]
   unfold mv
   rw [al (hx.trans hvl.symm),ht]
   constructor
   ·intro e
    rcases SZ.1 (show dot a v*at_ x t=0 by omega) with h1 | h1
    ·omega
    ·exact h1
   ·intro e; rw [e]; simp
  have hfc:∀ x:V,x.length=d->(∃ t,at_ v t=0/\at_ x t≠0)->content (foldV a v x)=1:=fun x hx ⟨t,ht,hxt⟩=>by
   have:at_ (foldV a v x) t≠0:=fun e=>hxt ((hfz x hx t ht).1 e)
   unfold foldV at this ⊢
   exact ik ⟨t,fun e=>this ((jX t).1.2 e)⟩
  refine ⟨(ps.eraseIdx i).map fun q=>(q.1,foldV a v q.2),?_,?_,?_,?_,?_,?_,?_⟩
  ·simp only [UN,<- h.lines]
   rw [A4,UN]
   rfl
  ·intro q hq
   obtain ⟨q0,hq0,rfl⟩:=Sy.1 hq
   exact h.lt q0 (Te hq0)
  ·intro q hq
   obtain ⟨q0,hq0,rfl⟩:=Sy.1 hq
   have hm:=Te hq0
   exact fun e=>h.diag q0 hm ((hfz q0.2 (hlen q0 hm) q0.1 (hvq q0 hq0)).1 e)
  ·refine TT.2 ((h.apart.sublist (List.eraseIdx_sublist ps i)).imp_of_mem fun {q q'} hq hq' hqq=>?_)
   exact ⟨(hfz q.2 (hlen q (Te hq)) q'.1 (hvq q' hq')).2 hqq.1,(hfz q'.2 (hlen q' (Te hq')) q.1 (hvq q hq)).2 hqq.2⟩
  ·intro r hr q hq
   obtain ⟨q0,hq0,rfl⟩:=Sy.1 hq
   rcases SQ.1 hr with hr | hr
   ·obtain ⟨r0,hr0,rfl⟩:=Sy.1 hr
    exact (hfz r0 (hdd.lenR r0 hr0) q0.1 (hvq q0 hq0)).2 (h.rays r0 hr0 q0 (Te hq0))
   ·cases eq
    ·simp at hr; subst hr; exact hvq q0 hq0
    ·simp at hr
  ·intro l hl
   obtain ⟨x,hx,rfl⟩:=Sy.1 hl
   rw [<- h.lines,A4] at hx
   obtain ⟨q,hq,rfl⟩:=Sy.1 hx
   have hm:=Te hq
   exact hfc q.2 (hlen q hm) ⟨q.1,hvq q hq,h.diag q hm⟩
  ·intro r hr
   rcases SQ.1 hr with hr | hr
   ·obtain ⟨r0,hr0,rfl⟩:=Sy.1 hr
    have hr0l:=hdd.lenR r0 hr0
    obtain ⟨b,hb,hn⟩:=hdd.off r0 hr0
    have hvb:dot b v=0:=by
     have hz:=hdd.lineI _ (Sx hi1) b hb
     rw [<- hv]; unfold upV
     split
     ·rw [dot_scl,hz]; simp
     ·exact hz
    unfold foldV
    refine ik ?_
    apply Um
    intro hno
    have hz:∀ t,at_ (mv a v r0) t=0:=fun t=>V6.1 fun e=>hno ⟨t,e⟩
    have e:=uT (a:=a) hvl hr0l b
    rw [(Gp (br hvl hr0l)).2 hz,ml,hvb] at e
    rcases SZ.1 (show dot a v*dot b r0=0 by omega) with h1 | h1
    ·omega
    ·exact hn h1
   ·cases eq
    ·simp at hr
     subst hr
     have:=h.contL _ (Sx hi1)
     rw [<- hv]; unfold upV
     split
     ·rw [wF]; exact this
     ·exact this
    ·simp at hr
theorem Mv {M:Nat} (hd:0<d) (hM:0<M) {u:Under} {Es:List V} (hdd:DD d (· ∈ Es) (· ∈ u.done) (· ∈ u.lines) u.rays) (h:Pb d ps u) (hE:∀ e∈Es,e.length=d/\Bd M e) (hI:∀ i∈u.done,i.length=d/\Bd M i) :
  (∀ l∈u.lines,Bd ((2*d*M)^2^d) l)/\(∀ r∈u.rays,Bd ((2*d*M)^2^d) r):=by
 have hlen:∀ q∈ps,q.2.length=d:=fun q hq=>hdd.lenL q.2 (by rw [<- h.lines]; exact Ur hq)
 have hunit:∀ {t:Nat},t<d->(unitV d t).length=d/\Bd M (unitV d t):=fun {t} ht=>⟨by simp [unitV,kM],fun i=>by rw [mA ht]; split <;> simp <;> omega⟩
 have hdu:∀ {t:Nat} {x:V},t<d->x.length=d->dot (unitV d t) x=at_ x t:=fun {t x} ht hx=>by
  have key:∀ (n t:Nat) (x:V),t<n->x.length=n->dot (unitV n t) x=at_ x t:=by
   intro n
   induction n with
   | zero=>intro t x h; omega
   | succ n ih =>
    intro t x ht hx
    cases x with
    | nil=>simp at hx
    | cons a x =>
     cases t with
     | zero =>
      have:dot (kM n) x=0:=by rw [dot_comm,ml]
      simp [unitV,kM,TV,dot,at_] at this ⊢
      omega
     | succ t =>
      have:=ih t x (by omega) (by simpa using hx)
      simp [unitV,kM,TV,dot,at_] at this ⊢
      exact this
  exact key d t x ht hx
 have hLz:∀ {x:V},Spn d (· ∈ u.lines) x->(∀ q∈ps,at_ x q.1=0)->∀ i,at_ x i=0:=fun hx hz=>JR hlen h.diag h.apart (by rw [h.lines]; exact hx) hz
 constructor
 ·intro l hl
  rw [<- h.lines] at hl
  obtain ⟨q0,hq0,rfl⟩:=Sy.1 hl
  have hql:=hlen q0 hq0
  have hqm:q0.2∈u.lines:=by rw [<- h.lines]; exact hl
  refine Hz hd hM (S:=Es++u.done++(ps.filter fun q=>!decide (q.1=q0.1)).map fun q=>unitV d q.1) (fun a ha=>?_) hql (h.contL _ hqm) (fun s hs=>?_) (fun x hx hz=>?_)
  ·rcases SQ.1 ha with ha | ha
   ·rcases SQ.1 ha with ha | ha
    ·exact hE a ha
    ·exact hI a ha
   ·obtain ⟨q,hq,rfl⟩:=Sy.1 ha
    exact hunit (h.lt q (SO.1 hq).1)
  ·rcases SQ.1 hs with hs | hs
   ·rcases SQ.1 hs with hs | hs
    ·exact hdd.lineE _ hqm s hs
    ·exact hdd.lineI _ hqm s hs
   ·obtain ⟨q,hq,rfl⟩:=Sy.1 hs
    obtain ⟨hq1,hq2⟩:=SO.1 hq
    rw [hdu (h.lt q hq1) hql]
    have hne:q≠q0:=fun e=>by subst e; simp at hq2
    obtain ⟨i,hi⟩:=Tf hq1
    obtain ⟨j,hj⟩:=Tf hq0
    obtain ⟨hi',rfl⟩:=SI.1 hi
    obtain ⟨hj',rfl⟩:=SI.1 hj
    rcases Vh i j with hlt | heq | hlt
    ·exact (Tl.1 h.apart i j hi' hj' hlt).2
    ·subst heq; exact absurd rfl hne
    ·exact (Tl.1 h.apart j i hj' hi' hlt).1
  ·have hxs:Spn d (· ∈ u.lines) x:=hdd.lines x hx (fun e he=>hz e (by simp [he])) (fun i hi=>hz i (by simp [hi]))
   refine ⟨at_ q0.2 q0.1,at_ x q0.1,h.diag q0 hq0,?_⟩
   have hy:=hLz (x:=mix (at_ q0.2 q0.1) x (-(at_ x q0.1)) q0.2) (Yq hdd.lenL hxs (dY hql hqm) _ _) (fun q hq=>by
    rw [al (hx.trans hql.symm)]
    by_cases hq0':q.1=q0.1
    ·rw [hq0']; grind
    ·have h1:at_ x q.1=0:=by
      have:=hz (unitV d q.1) (Uh _ (Ur (f:=fun q=>unitV d q.1) (SO.2 ⟨hq,by simp [hq0']⟩)))
      rw [hdu (h.lt q hq) hx] at this; exact this
     have h2:at_ q0.2 q.1=0:=by
      have hne:q≠q0:=fun e=>hq0' (by rw [e])
      obtain ⟨i,hi⟩:=Tf hq
      obtain ⟨j,hj⟩:=Tf hq0
      obtain ⟨hi',rfl⟩:=SI.1 hi
      obtain ⟨hj',rfl⟩:=SI.1 hj
      rcases Vh i j with hlt | heq | hlt
      ·exact (Tl.1 h.apart i j hi' hj' hlt).2
      ·subst heq; exact absurd rfl hne
      ·exact (Tl.1 h.apart j i hj' hi' hlt).1
     rw [h1,h2]; simp)
   refine aJ (by rw [ai hx,ai hql]) fun i=>?_
   have:=hy i
   rw [al (hx.trans hql.symm)] at this
   rw [aA,aA]; grind
 ·intro r hr
  have hrk:=hdd.keep r hr
  refine Hz hd hM (S:=Es++(u.done.filter fun i=>decide (dot i r=0))++ps.map fun q=>unitV d q.1) (fun a ha=>?_) hrk.len (h.contR r hr) (fun s hs=>?_) (fun x hx hz=>?_)
  ·rcases SQ.1 ha with ha | ha
   ·rcases SQ.1 ha with ha | ha
    ·exact hE a ha
    ·exact hI a (SO.1 ha).1
   ·obtain ⟨q,hq,rfl⟩:=Sy.1 ha
    exact hunit (h.lt q hq)
  ·rcases SQ.1 hs with hs | hs
   ·rcases SQ.1 hs with hs | hs
    ·exact hrk.eq s hs
    ·simpa using (SO.1 hs).2
   ·obtain ⟨q,hq,rfl⟩:=Sy.1 hs
    rw [hdu (h.lt q hq) hrk.len]
    exact h.rays r hr q hq
  ·
   have ⟨n,hn0,hn⟩:∃ n:Int,0<=n/\∀ i∈u.done,dot i r≠0->0<=n*dot i r+dot i x:=by
    have key:∀ (l:List V),(∀ i∈l,0<=dot i r)->∃ n:Int,0<=n/\∀ i∈l,dot i r≠0->0<=n*dot i r+dot i x:=by
     intro l
     induction l with
     | nil=>intro _; exact ⟨0,by omega,fun i hi=>by cases hi⟩
     | cons a l ih =>
      intro hl
      obtain ⟨n,hn,hl'⟩:=ih fun i hi=>hl i (SE _ hi)
      refine ⟨n+(dot a x).natAbs,by omega,fun i hi hne=>?_⟩
      have h0:=hl i hi
      have hpos:1<=dot i r:=by omega
      have e:(n+((dot a x).natAbs:Int))*dot i r=n*dot i r+(dot a x).natAbs*dot i r:=by grind
      rw [e]
      have g1:((dot a x).natAbs:Int)*1<=(dot a x).natAbs*dot i r:=Int.mul_le_mul_of_nonneg_left hpos (by omega)
      rcases SX.1 hi with rfl | hi
      ·have g2:=Tg hn h0
       omega
      ·have:=hl' i hi hne
       omega
    exact key u.done fun i hi=>hrk.ge i hi
   have hxz:∀ i∈u.done,dot i r=0->dot i x=0:=fun i hi h0=>hz i (by simp [hi,h0])
   have hy:Keep d (· ∈ Es) (· ∈ u.done) (mix n r 1 x):=by
    refine ⟨mix_length hrk.len hx,fun e he=>?_,fun i hi=>?_⟩
    ·rw [bg _ _ _ (hrk.len.trans hx.symm),hrk.eq e he,hz e (by simp [he])]; simp
    ·rw [bg _ _ _ (hrk.len.trans hx.symm)]
     by_cases h0:dot i r=0
     ·rw [h0,hxz i hi h0]; simp
     ·have:=hn i hi h0; omega
   obtain ⟨k,c,hk,hc,hsp⟩:=hdd.ext r hr _ hy fun i hi h0=>by
    rw [bg _ _ _ (hrk.len.trans hx.symm),h0,hxz i hi h0]; simp
   have hy0:=hLz hsp fun q hq=>by
    rw [al (hy.len.trans hrk.len.symm),al (hrk.len.trans hx.symm),h.rays r hr q hq]
    have:=hz (unitV d q.1) (Uh _ (Ur (f:=fun q:Nat × V=>unitV d q.1) hq))
    rw [hdu (h.lt q hq) hx] at this
    rw [this]; simp
   refine ⟨k,c-k*n,by omega,aJ (by rw [ai hx,ai hrk.len]) fun i=>?_⟩
   have:=hy0 i
   rw [al (hy.len.trans hrk.len.symm),al (hrk.len.trans hx.symm)] at this
   rw [aA,aA]; grind
end
end Go.Proofs.YthjdfjlhjnihfaaGreat.Lin
namespace Go.Proofs.YthjdfjlhjnihfaaGreat.Ev
open Go Nn
set_option linter.all false
theorem OB {x y a:AV} (ha:One a):ia [x,y] [((1,1),a)]=some (.agg [x,a]):=by
 simp [ia,cX,ha.1,ha.2]
theorem aR (T0:Tm) (Vs:List AV) (u v w x:Nat × Option Nat):ct T0 Vs [u,v,w,x]=((((List.replicate T0.length .undef).set u.1 (lY T0 Vs u)).set v.1 (lY T0 Vs v)).set w.1 (lY T0 Vs w)).set x.1 (lY T0 Vs x):=rfl
section
variable {tab:Nat->Option aw} {f n:Nat} {res:List (Nat × Option (Option Nat))} {body:ACode} {H:Heap} {Q:AV->Heap->Prop}
theorem RO {a b c d e:AV} (hf:tab f=some ⟨5,n,res,body,none⟩) (hn:5<=n) (h:∀ T:Tm,T.length=n->ad T 0=a->ad T 1=b->ad T 2=c->ad T 3=d->ad T 4=e->WC tab false body T H (uE res Q)):Ans tab (.fn f [a,b,c,d,e]) H Q :=
 nH hf rfl rfl hn fun T hl g=>h T hl (g 0 (by simp)) (g 1 (by simp)) (g 2 (by simp)) (g 3 (by simp)) (g 4 (by simp))
end
theorem mi {H:Heap} (hw:Wf H) {v:AV} {l:List Int} (hs:RowV H v l) {i:Nat} (hi:i<l.length):∃ w,cp H w (l[i]).natAbs/\Ldd H (some 2) (ap v (i*2)) (.agg [.bool (decide (l[i]<0)),w])/\co 2 v (.int .i64 (i:Int))=some (ap v (i*2)):=by
 obtain ⟨w,h1,h2,-,-⟩:=jM hs hi
 exact ⟨w,h1,Yd hw h2,Yl hs .i64 i hi⟩
def BoxI (H:Heap) (b:Nat) (z:Int):Prop:=∃ q,H.get b=some (.cells [.bool (decide (z<0)),q] aa true)/\cp H q z.natAbs
theorem BoxI.mono {H H':Heap} (hs:Sub H H') {b:Nat} {z:Int} (h:BoxI H b z):BoxI H' b z:=by
 obtain ⟨q,h1,h2⟩:=h; exact ⟨q,hs.get _ _ h1,h2.mono hs⟩
def BoxR (H:Heap) (b:Nat) (l:List Int):Prop:=∃ q,H.get b=some (.cells [q] af true)/\RowV H q l
theorem BoxR.mono {H H':Heap} (hs:Sub H H') {b:Nat} {l:List Int} (h:BoxR H b l):BoxR H' b l:=by
 obtain ⟨q,h1,h2⟩:=h; exact ⟨q,hs.get _ _ h1,h2.mono hs⟩
section
variable {tab:Nat->Option aw} {H:Heap} {s:AV}
theorem BN (C:Code tab) (hw:Wf H) {i:Int} {a:AV} {b:Nat} {x y:Int} (ha:IntV H a x) (hb:BoxI H b y) (hx:MuI x) (hy:MuI y) :
  Ans tab (.fn lp [.int .i64 i,a,.ptr b 0]) H fun v H'=>IntV H' v (x*y)/\Kp H H':=by
 obtain ⟨p,rfl,hp⟩:=ha
 obtain ⟨q,hb,hq⟩:=hb
 have op:=hp.one
 have lb:=hw _ _ hb
 refine lU C.q134 zU fun T hl g0 g1 g2=>?_
 refine zW (cr hl g0 g1 g2 hb) ?_
 refine XX (lZ C zF ⟨p,rfl,hp.mono (zG H)⟩ ⟨q,rfl,hq.mono (zG H)⟩ hx hy) ?_
 rintro v H2 ⟨⟨w,rfl,hr⟩,hk2⟩
 obtain ⟨k2,_,w2⟩:=zT H zK hk2
 have ow:=hr.one
 have d1:=hk2.get (b:=H.next+1) (e:=.cells [.bool false,.nilSl] aa true) (cR)
 have lt1:=w2 _ _ d1
 have m1:NoTy [ae] H2 (H.next+1):=Yg d1 zU
 refine zW (cr hl g0 g1 g2 d1) ?_
 exact ⟨⟨w,rfl,Yn (E:=bT cm) zS hr⟩,zK⟩
theorem sN (C:Code tab) (hw:Wf H) {a:AV} {l:List Int} {y:Int} (hs:RowV H s l) (ha:IntV H a y) (h64:l.length<=64) (hl':∀ z∈l,MuI z) (hy:MuI y) :
  Ans tab (.fn l8 [s,a]) H fun v H'=>∃ r,v=.tup [r,.int .i64 0]/\RowV H' r (Lin.scl y l)/\Kp H H'/\Fr H r:=by
 obtain ⟨q,rfl,hq⟩:=ha
 have oq:=hq.one
 have os:=hs.one
 refine bz C.q116 zU fun T hl g0 g1=>?_
 refine zW (aC hl g0 g1) ?_
 refine XW (gh C (d:=l.length) zF (Qe hs (zG H) (by refine uv ?_; rfl)) (by simp) (by simp) h64 fun r hr=>?_) fun H2 hk2=>?_
 ·simp at hr; subst hr; exact ⟨rfl,fun z hz=>(hl' z hz).sm⟩
 obtain ⟨k2,_,w2⟩:=zT H zK hk2
 have b0:=hk2.get (b:=H.next) (e:=.cells [.bool (decide (y<0)),q] aa true) (cR)
 refine zW (aV hl g0 g1 @b0) ?_
 refine XW (fc C zF ⟨q,rfl,hq.mono (zG H)⟩ hy.sm) fun H3 hk3=>?_
 obtain ⟨k3,_,w3⟩:=zT H zK hk3
 have c0:=hk3.get (b:=H.next) b0
 refine zW (aC hl g0 g1) ?_
 refine XX (vU C zF (hs.mono (zG H)) zO (fun _ z=>z*y) fun i hi H' w hk hv=>?_) ?_
 ·exact BN C hk.wf hv ⟨q,hk.get (b:=H.next) (zV c0),hq.mono (X8 (H:=H) (X9 zK hk))⟩ (hl' _ (Sx hi)) hy
 ·rintro v H4 ⟨hr,hk4,hf4⟩
  obtain ⟨k4,_,_⟩:=zT H zK hk4
  have e:l.mapIdx (fun _ z=>z*y)=Lin.scl y l:=by
   apply Uy <;> simp [Lin.scl,XN]
  rw [e] at hr
  refine zW (aC hl g0 g1) ?_
  exact ⟨_,rfl,hr,zK,fun b hb=>SM k3.le (SM (S9 _ _) (hf4 b hb))⟩
theorem Ix (C:Code tab) (hw:Wf H) {a:AV} {l:List Int} {y:Int} (hs:RowV H s l) (ha:IntV H a y) (h64:l.length<=64) (hl':∀ z∈l,MuI z) (hy:MuI y) :
  Ans tab (.fn l8 [s,a]) H fun v H'=>∃ r,v=.tup [r,.int .i64 0]/\RowV H' r (Lin.scl y l)/\Kp H H':=(sN C hw hs ha h64 hl' hy).mono fun _ _ ⟨r,h1,h2,h3,_⟩=>⟨r,h1,h2,h3⟩
theorem Kw {l m:List Int} (h:l.length=m.length) (g:Int->Int->Int):l.mapIdx (fun i z=>g z (m.getD i 0))=List.zipWith g l m:=by
 apply Uy
 ·simp [h]
 ·intro i h1 h2
  have hi:i<m.length:=by simp at h1; omega
  simp [hi]
theorem Fm (C:Code tab) (hw:Wf H) {i:Nat} {a:AV} {bm bn b:Nat} {x m n:Int} {l:List Int} (hi:i<l.length) (ha:IntV H a x) (hm:BoxI H bm m) (hn:BoxI H bn n) (hb:BoxR H b l) (hx:MuI x) (hmm:MuI m) (hnn:MuI n) (hy:MuI l[i]) (hp1:eU (m*x)) (hp2:eU (n*l[i])) :
  Ans tab (.fn nW [.int .i64 (i:Int),a,.ptr bm 0,.ptr bn 0,.ptr b 0]) H fun v H'=>IntV H' v (m*x+n*l[i])/\Kp H H':=by
 obtain ⟨p,rfl,hp⟩:=ha
 obtain ⟨q,hb,hq⟩:=hb
 obtain ⟨mq,hmb,hmq⟩:=hm
 obtain ⟨nq,hnb,hnq⟩:=hn
 have op:=hp.one
 have lb:=hw _ _ hb
 have lm:=hw _ _ hmb
 have ln:=hw _ _ hnb
 obtain ⟨w,hwn,L,hix⟩:=mi hw hq hi
 have Lp:=L.put
 have Ll:=L.ld
 refine RO C.q146 zU fun T hl g0 g1 g2 g3 g4=>?_
 refine zW (eW hl g0 g1 g2 g3 g4) ?_
 refine aH ?_
 refine zD (Al hl g0 g1 g2 g3 g4 hb hmb hnb hix Lp Ll) ?_
 refine XX (lZ C zF ⟨mq,rfl,hmq.mono (zG H)⟩ ⟨p,rfl,hp.mono (zG H)⟩ hmm hx) ?_
 rintro v H2 ⟨hr2,hk2⟩
 obtain ⟨k2,_,w2⟩:=zT H zK hk2
 have L2:=L.mono k2
 have Lp2:=L2.put
 have Ll2:=L2.ld
 have hb2:=k2.get hb
 have hnb2:=k2.get hnb
 have hmb2:=k2.get hmb
 refine zD (Fd hl g0 g1 g2 g3 g4 hb hmb hnb hix Lp Ll Lp2 Ll2 hb2 hnb2 hmb2) ?_
 refine XX (lZ C zF ⟨nq,rfl,hnq.mono (zG H)⟩ ⟨w,rfl,hwn.mono (zG H)⟩ hnn hy) ?_
 rintro v3 H3 ⟨hr3,hk3⟩
 obtain ⟨k3,_,w3⟩:=zT H zK hk3
 refine zD (Fd hl g0 g1 g2 g3 g4 hb hmb hnb hix Lp Ll Lp2 Ll2 hb2 hnb2 hmb2) ?_
 refine XX (GQ C zF (hr2.mono hk3.sub) hr3 hp1 hp2) ?_
 rintro v4 H4 ⟨⟨r,rfl,hr⟩,hk4⟩
 obtain ⟨k4,_,w4⟩:=zT H zK hk4
 have orr:=hr.one
 have d1:=hk4.get (b:=H.next+1) (hk3.get (b:=H.next+1) (hk2.get (b:=H.next+1) (e:=.cells [.bool false,.nilSl] aa true) (cR)))
 have lt1:=w4 _ _ d1
 have m1:NoTy [ae] H4 (H.next+1):=Yg d1 zU
 refine zD (BC hl g0 g1 g2 g3 g4 hb hmb hnb hix Lp Ll Lp2 Ll2 hb2 hnb2 hmb2 d1) ?_
 exact ⟨⟨r,rfl,Yn (E:=bT cm) zS hr⟩,zK⟩
theorem GR (C:Code tab) (hw:Wf H) {vm vn a b:AV} {m n:Int} {x y:List Int} (hm:IntV H vm m) (hn:IntV H vn n) (ha:RowV H a x) (hb:RowV H b y) (hxy:x.length=y.length) (h64:x.length<=64) (hmm:MuI m) (hnn:MuI n) (hx':∀ z∈x,MuI z/\eU (m*z)) (hy':∀ z∈y,MuI z/\eU (n*z)) :
  Ans tab (.fn uJ [vm,a,vn,b]) H fun v H'=>∃ r,v=.tup [r,.int .i64 0]/\RowV H' r (Lin.mix m x n y)/\Kp H H':=by
 obtain ⟨mq,rfl,hmq⟩:=hm
 obtain ⟨nq,rfl,hnq⟩:=hn
 have om:=hmq.one
 have on:=hnq.one
 have oa:=ha.one
 have ob:=hb.one
 refine Or C.q133 zU fun T hl g0 g1 g2 g3=>?_
 refine zW (cr hl g0 g1 g2 g3) ?_
 refine XW (fc C zF ⟨mq,rfl,hmq.mono (zG H)⟩ hmm.sm) fun H2 hk2=>?_
 obtain ⟨k2,_,w2⟩:=zT H zK hk2
 have b0:=hk2.get (b:=H.next) (e:=.cells [.bool (decide (m<0)),mq] aa true) (cR)
 have b1:=hk2.get (b:=H.next+1) (e:=.cells [.bool (decide (n<0)),nq] aa true) (cR)
 have b2:=hk2.get (b:=H.next+2) (e:=.cells [b] af true) (cR)
 refine zW (eW hl g0 g1 g2 g3 b1) ?_
 refine XW (fc C zF ⟨nq,rfl,hnq.mono (zG H)⟩ hnn.sm) fun H3 hk3=>?_
 obtain ⟨k3,_,w3⟩:=zT H zK hk3
 have c0:=hk3.get (b:=H.next) b0
 have c1:=hk3.get (b:=H.next+1) b1
 have c2:=hk3.get (b:=H.next+2) b2
 have lt2:=w3 _ _ c2
 refine zW (eW hl g0 g1 g2 g3 @c2) ?_
 refine XW (gh C (d:=x.length) zF (Ar ha hb (zG H) (by refine uv ?_; rfl)) (by simp) (by simp) h64 fun r hr=>?_) fun H4 hk4=>?_
 ·simp at hr; rcases hr with rfl | rfl
  ·exact ⟨rfl,fun z hz=>(hx' z hz).1.sm⟩
  ·exact ⟨hxy.symm,fun z hz=>(hy' z hz).1.sm⟩
 obtain ⟨k4,_,w4⟩:=zT H zK hk4
 have d0:=hk4.get (b:=H.next) (e:=.cells [.bool (decide (m<0)),mq] aa true) (zV c0)
 have d1:=hk4.get (b:=H.next+1) (e:=.cells [.bool (decide (n<0)),nq] aa true) (zV @c1)
 have d2:=hk4.get (b:=H.next+2) (e:=.cells [b] af true) (zV @c2)
 refine zW (cr hl g0 g1 g2 g3) ?_
 refine XX (xQ C zF (ha.mono (zG H)) zO (fun i z=>m*z+n*y.getD i 0) fun i hi H' w hk hv=>?_) ?_
 ·have hi2:i<y.length:=by omega
  have e:y.getD i 0=y[i]:=by simp [hi2]
  have ks:Sub H H':=X8 (H:=H) (X9 zK hk)
  show Ans tab _ H' fun v H2=>IntV H2 v (m*x[i]+n*y.getD i 0)/\Kp H' H2
  rw [e]
  exact Fm C hk.wf hi2 hv ⟨mq,hk.get (b:=H.next) (zV d0),hmq.mono ks⟩ ⟨nq,hk.get (b:=H.next+1) (zV d1),hnq.mono ks⟩ ⟨b,hk.get (b:=H.next+2) (zV d2),hb.mono ks⟩ (hx' _ (Sx hi)).1 hmm hnn (hy' _ (Sx hi2)).1 (hx' _ (Sx hi)).2 (hy' _ (Sx hi2)).2
 ·rintro v H5 ⟨hr,hk5⟩
  obtain ⟨k5,_,_⟩:=zT H zK hk5
  rw [Kw hxy (fun u v=>m*u+n*v)] at hr
  refine zW (cr hl g0 g1 g2 g3) ?_
  exact ⟨_,rfl,hr,zK⟩
def vC (a b:List Int) (j:Nat):Int:=Lin.dot (a.take j) (b.take j)
theorem Eo:∀ (a b:List Int) (x y:Int),a.length=b.length->Lin.dot (a++[x]) (b++[y])=Lin.dot a b+x*y
 | [],[],x,y,_=>by simp [Lin.dot]
 | [],_ :: _,x,y,h=>by simp at h
 | _ :: _,[],x,y,h=>by simp at h
 | u :: a,v :: b,x,y,h=>by
  have:=Eo a b x y (by simpa using h)
  simp only [UI,Lin.dot,this]
  omega
theorem vB {a b:List Int} {j:Nat} (ha:j<a.length) (hb:j<b.length):vC a b (j+1)=vC a b j+a[j]*b[j]:=by
 unfold vC
 rw [SF ha,SF hb,Eo _ _ _ _ (by simp; omega)]
theorem Ep {a b:List Int} (h:a.length=b.length):vC a b a.length=Lin.dot a b:=by
 unfold vC
 rw [S2,h,S2]
theorem NF (C:Code tab) (hw:Wf H) {a b:AV} {x y:List Int} (ha:RowV H a x) (hb:RowV H b y) (hxy:x.length=y.length) (h64:x.length<=64) (hx':∀ z∈x,MuI z) (hy':∀ z∈y,MuI z) (hp:∀ i (h:i<x.length) (h':i<y.length),eU (x[i]*y[i])) (hS:∀ j,j<=x.length->eU (vC x y j)) :
  Ans tab (.fn qL [a,b]) H fun v H'=>∃ r,v=.tup [r,.int .i64 0]/\IntV H' r (Lin.dot x y)/\Kp H H':=by
 have oa:=ha.one
 have ob:=hb.one
 refine bz C.q66 zU fun T hl g0 g1=>?_
 refine zW (aC hl g0 g1) ?_
 refine XW (gh C (d:=x.length) zF (Ar ha hb (zG H) (by refine uv ?_; rfl)) (by simp) (by simp) h64 fun r hr=>?_) fun H2 hk2=>?_
 ·simp at hr; rcases hr with rfl | rfl
  ·exact ⟨rfl,fun z hz=>(hx' z hz).sm⟩
  ·exact ⟨hxy.symm,fun z hz=>(hy' z hz).sm⟩
 obtain ⟨k2,_,w2⟩:=zT H zK hk2
 have b0:=hk2.get (b:=H.next) (e:=.cells [.bool false,.nilSl] aa true) (cR)
 refine zW (aV hl g0 g1 ha.lenV) ?_
 refine am H [] (fun j _ H'=>BoxI H' H.next (vC x y j)) (a:=0) (N:=x.length) rfl (by refine zW (aC hl g0 g1) ?_; rfl) (zV (aC hl g0 g1)) (SH _) zO (by simp only [Sr,hl]; rfl) rfl (fun j vs H' m h=>h.mono (Ys H' m)) zK ⟨.nilSl,by refine zW @b0 ?_; simp [vC,Lin.dot],by simpa [vC,Lin.dot] using fM _⟩ ?_ ?_
 ·rintro j T1 H1 _ hj hl1 hi1 hs1 hk1 ⟨q,hq0,hq⟩
  have w1:=hk1.wf
  have le_hk1:=hk1.le
  have hj2:j<y.length:=by omega
  have t14:ad T1 14=a:=(hs1.at_ 14 zU).trans (zV (aB hl g0))
  have t4:ad T1 4=.ptr H.next 0:=(hs1.at_ 4 zU).trans (zV (aC hl g0 g1))
  have t1:ad T1 1=b:=(hs1.at_ 1 zU).trans (zV (aV hl g0 g1 g1))
  obtain ⟨w,hn,hld,-,-⟩:=jM (ha.mono hk1.sub) hj
  have hix:co 2 a (.int .i64 (j:Int))=some (ap a (j*2)):=Yl ha .i64 j hj
  obtain ⟨u,hu,L,hiy⟩:=mi w1 (hb.mono hk1.sub) hj2
  have ow:=hn.one
  have lt0:=w1 _ _ hq0
  have Lp:=L.put
  have Ll:=L.ld
  have oq:=hq.one
  simp only [Sr,hl] at hl1
  refine zW (cr hl1 t14 hi1 hix hld) ?_
  refine aH ?_
  refine zD (ki hl1 t4 t1 hi1 hq0 hiy Lp Ll) ?_
  refine XX (lZ C zF ⟨w,rfl,hn.mono (zG H1)⟩ ⟨u,rfl,hu.mono (zG H1)⟩ (hx' _ (Sx hj)) (hy' _ (Sx hj2))) ?_
  rintro v H3 ⟨hr3,hk3⟩
  obtain ⟨k13,_,_⟩:=zT H1 zK hk3
  have k3:Kp H H3:=X9 hk1 k13
  have le_k3:=k3.le
  have w3:=k3.wf
  have hq3:=k13.get hq0
  refine zD (kj hl1 t4 t1 hi1 hq0 hiy Lp Ll hq3) ?_
  refine XX (GQ C zF ⟨q,rfl,hq.mono (zG H1)⟩ hr3 (hS j zO) (hp j hj hj2)) ?_
  rintro v4 H4 ⟨⟨r,rfl,hr⟩,hk4⟩
  have k4:Kp H H4:=X9 k3 hk4
  have le_k4:=k4.le
  have w4:=k4.wf
  have orr:=hr.one
  have hq4:=hk4.get hq3
  have lt04:=w4 _ _ hq4
  have m0:NoTy [ae] H4 H.next:=Yg hq4 zU
  refine zD (rM hl1 t4 t1 hi1 hq0 hiy Lp Ll hq3 hq4) ?_
  refine ⟨zK,r,?_,?_⟩
  ·rw [vB hj hj2]; exact cR
  ·rw [vB hj hj2]; exact Yn (E:=bT cm) zS hr
 ·rintro T1 H1 hl1 hs1 hk1 ⟨q,hq0,hq⟩
  have w1:=hk1.wf
  have le_hk1:=hk1.le
  have t4:ad T1 4=.ptr H.next 0:=(hs1.at_ 4 zU).trans (zV (aC hl g0 g1))
  have t5:ad T1 5=.int .i64 0:=(hs1.at_ 5 zU).trans (zV (aC hl g0 g1))
  simp only [Sr,hl] at hl1
  rw [Ep hxy] at hq0 hq
  refine zW (aV hl1 t4 t5 hq0) ?_
  exact ⟨_,rfl,⟨q,rfl,hq⟩,zK⟩
end
theorem zh {l:List Int} (h:∀ z∈l,eU z):Sm (Lin.content l):=by
 by_cases h0:Lin.content l=0
 ·rw [h0]; unfold Sm; rw [cP]; simp
 ·have hex:∃ a∈l,a≠0:=Um fun hn=>h0 (Lin.content_eq_zero.2 fun a ha=>Um fun hne=>hn ⟨a,ha,hne⟩)
  obtain ⟨a,ha,hne⟩:=hex
  have hd:=Lin.content_dvd ha
  have hle:Lin.content l<=a.natAbs:=Nat.le_of_dvd zO (VQ.1 hd)
  exact Sm.mono hle (h a ha)
theorem CG {l:List Int} {j:Nat} (hj:j<l.length):Lin.content (l.take (j+1))=Nat.gcd (Lin.content (l.take j)) (l[j]).natAbs:=by
 unfold Lin.content
 rw [SF hj,VE]
 rfl
section
variable {tab:Nat->Option aw} {H:Heap} {s:AV}
theorem C2 (C:Code tab) (hw:Wf H) {l:List Int} (hs:RowV H s l) (h64:l.length<=64) (hz:∀ z∈l,eU z) :
  Ans tab (.fn mN [s]) H fun v H'=>∃ r,v=.tup [r,.int .i64 0]/\cp H' r (Lin.content l)/\Kp H H':=by
 have os:=hs.one
 refine cQ C.q137 zU fun T hl g0=>?_
 refine zW (aB hl g0) ?_
 refine XW (gh C (d:=l.length) zF (Qe hs (zG H) (by refine uv ?_; rfl)) (by simp) (by simp) h64 fun r hr=>?_) fun H2 hk2=>?_
 ·simp at hr; subst hr; exact ⟨rfl,hz⟩
 obtain ⟨k2,_,w2⟩:=zT H zK hk2
 refine zW (aC hl g0 hs.lenV) ?_
 refine am H [2] (fun j vs H'=>∃ c,vs=[c]/\cp H' c (Lin.content (l.take j))) (a:=0) (N:=l.length) rfl (by refine zW (aB hl g0) ?_; rfl) (zV (aB hl g0)) (SH _) zO (by simp only [Sr,hl]; rfl) rfl (fun j vs H' m ⟨c,h1,h2⟩=>⟨c,h1,h2.mono (Ys H' m)⟩) zK ⟨.nilSl,by exact zV (aB hl g0),by simpa [Lin.content] using fM _⟩ ?_ ?_
 ·rintro j T1 H1 _ hj hl1 hi1 hs1 hk1 ⟨c,hv,hc⟩
  have w1:=hk1.wf
  have le_hk1:=hk1.le
  simp only [SA,SD,SB,and_true] at hv
  have t11:ad T1 11=s:=(hs1.at_ 11 zU).trans (zV (aB hl g0))
  obtain ⟨w,hn,hld,-,-⟩:=jM (hs.mono hk1.sub) hj
  have hix:co 2 s (.int .i64 (j:Int))=some (ap s (j*2)):=Yl hs .i64 j hj
  have ow:=hn.one
  simp only [Sr,hl] at hl1
  refine zW (eW hl1 t11 hi1 hix hld hv) ?_
  refine XX (Oq C zF (hc.mono (zG H1)) (hn.mono (zG H1)) (zh fun z h=>hz z (UK h)) (hz _ (Sx hj))) ?_
  rintro v H3 ⟨r,rfl,hr,hk3⟩
  obtain ⟨k3,_,w3⟩:=zT H zK hk3
  refine zW hl1 ?_
  refine ⟨zK,_,rfl,?_⟩
  rw [CG hj]
  exact hr
 ·rintro T1 H1 hl1 hs1 hk1 ⟨c,hv,hc⟩
  have w1:=hk1.wf
  have le_hk1:=hk1.le
  simp only [SA,SD,SB,and_true] at hv
  have t3:ad T1 3=.int .i64 0:=(hs1.at_ 3 zU).trans (zV (aB hl g0))
  simp only [Sr,hl] at hl1
  rw [S2] at hc
  refine zW (aC hl1 hv t3) ?_
  exact ⟨_,rfl,hc,zK⟩
theorem C0 (C:Code tab) (hw:Wf H) {i:Int} {a:AV} {x:Int} (ha:IntV H a x) (hx:eU x) :
  Ans tab (.fn mM [.int .i64 i,a]) H fun v H'=>IntV H' v x/\Kp H H':=by
 obtain ⟨p,rfl,hp⟩:=ha
 have op:=hp.one
 refine bz C.q124 zU fun T hl g0 g1=>?_
 refine zW (aC hl g0 g1) ?_
 refine aH ?_
 refine zD (aC hl g0 g1) ?_
 refine XX (jE C zF (hp.mono (zG H)) (by unfold eU Sm at hx; omega)) ?_
 rintro v H2 ⟨hr,hk2⟩
 obtain ⟨k2,_,w2⟩:=zT H zK hk2
 have orr:=hr.one
 have b0:=hk2.get (b:=H.next) (e:=.cells [.bool (decide (x<0)),p] aa true) (cR)
 have d1:=hk2.get (b:=H.next+1) (e:=.cells [.bool false,.nilSl] aa true) (cR)
 have lt1:=w2 _ _ d1
 have m1:NoTy [ae] H2 (H.next+1):=Yg d1 zU
 refine zD (cr hl g0 g1 @b0 d1) ?_
 exact ⟨⟨v,rfl,Yn (E:=bT cm) zS hr⟩,zK⟩
theorem xR (C:Code tab) (hw:Wf H) {l:List Int} (hs:RowV H s l) (hbig:l.length<1099511627776) (hz:∀ z∈l,eU z) :
  Ans tab (.fn rX [s]) H fun v H'=>RowV H' v l/\Kp H H':=by
 refine cQ C.q104 zU fun T hl g0=>?_
 refine zW (aB hl g0) ?_
 refine XX (xQ C zF (hs.mono (zG H)) hbig (fun _ z=>z) fun i hi H' w hk hv=>C0 C hk.wf hv (hz _ (Sx hi))) ?_
 rintro v H2 ⟨hr,hk2⟩
 obtain ⟨k2,_,_⟩:=zT H zK hk2
 have e:l.mapIdx (fun _ z=>z)=l:=by apply Uy <;> simp
 rw [e] at hr
 refine zW (aB hl g0) ?_
 exact ⟨hr,zK⟩
theorem BO (C:Code tab) (hw:Wf H) {i:Int} {a q:AV} {b n:Nat} {x:Int} (ha:IntV H a x) (hb:H.get b=some (.cells [q] aG true)) (hq:cp H q n) (h0:n≠0) (hd:(n:Int) ∣ x) (hx:eU x) (hn:Sm n) :
  Ans tab (.fn lq [.int .i64 i,a,.ptr b 0]) H fun v H'=>IntV H' v (x / n)/\Kp H H':=by
 obtain ⟨p,rfl,hp⟩:=ha
 have op:=hp.one
 have oq:=hq.one
 have lb:=hw _ _ hb
 refine lU C.q138 zU fun T hl g0 g1 g2=>?_
 have hb1:ia [.bool false,.nilSl] [((1,1),q)]=some (.agg [.bool false,q]):=OB oq
 refine zW (eW hl g0 g1 g2 hb hb1) ?_
 refine XX (CX C (y:=(n:Int)) zF ⟨p,rfl,hp.mono (zG H)⟩ ⟨q,by rw [decide_eq_false zO],by simpa using hq.mono (zG H)⟩ hx (by unfold eU; simpa using hn) zO ?_) ?_
 ·rw [UZ]; exact Nat.mod_eq_zero_of_dvd (VQ.1 hd)
 rintro v H2 ⟨r,rfl,⟨w,rfl,hr⟩,hk2⟩
 rw [Int.tdiv_eq_ediv_of_dvd hd] at hr ⊢
 obtain ⟨k2,_,w2⟩:=zT H zK hk2
 have ow:=hr.one
 have n2:H.next+12<=H2.next:=hk2.le
 have d1:=hk2.get (b:=H.next+1) (e:=.cells [.bool false,.nilSl] aa true) (cR)
 have f2:H2.get (H.next+9)=none:=hk2.free (show _<H.next+12 by omega) (by rw [az zO,az zO]; exact hw.fresh (b:=H.next+9) zO)
 have m1:NoTy [ae] H2 (H.next+1):=Yg d1 zU
 have m9:NoTy [ae] H2 (H.next+9):=Yf f2
 refine zW (cr hl g0 g1 g2 d1) ?_
 exact ⟨⟨w,rfl,Yn (E:=bT cm) zS hr⟩,zK⟩
theorem uw (C:Code tab) (hw:Wf H) {l:List Int} (hs:RowV H s l) (h64:l.length<=64) (hz:∀ z∈l,eU z) :
  Ans tab (.fn py [s]) H fun v H'=>∃ r,v=.tup [r,.int .i64 0]/\RowV H' r (Lin.prime l)/\Kp H H':=by
 refine cQ C.q120 zU fun T hl g0=>?_
 refine zW (aB hl g0) ?_
 refine XX (C2 C zF (hs.mono (zG H)) h64 hz) ?_
 rintro v H2 ⟨c,rfl,hc,hk2⟩
 obtain ⟨k2,_,w2⟩:=zT H zK hk2
 have oc:=hc.one
 have n2:H.next+10<=H2.next:=hk2.le
 have f2:H2.get (H.next+7)=none:=hk2.free (show _<H.next+10 by omega) (hw.fresh (b:=H.next+7) zO)
 have hlen:=bZ (Lin.content l)
 refine zW (aC hl g0 hc.lenV) ?_
 refine iteH.split (fun h=>?_) fun h=>?_
 ·have h0:Lin.content l=0:=by omega
  refine zW (aB hl g0) ?_
  refine XX (xR C zF (hs.mono (zG H)) zO hz) ?_
  rintro v H3 ⟨hr,hk3⟩
  obtain ⟨k3,_,_⟩:=zT H zK hk3
  refine zW (aB hl g0) ?_
  refine ⟨_,rfl,?_,zK⟩
  unfold Lin.prime
  rw [if_pos h0]
  exact hr
 ·have h0:Lin.content l≠0:=by omega
  refine zW (aB hl g0) ?_
  have s2:∀ m,Sub H2 (((H2.up m).put (H.next+7) (.cells [.nilSl] aG true)).put (H.next+7) (.cells [c] aG true)):=fun m=>(Ys H2 m).trans ((aP (H:=H2.up m) f2).put f2 _)
  refine XX (xQ C zF (hs.mono (zG H)) zO (fun _ z=>z / (Lin.content l:Int)) fun i hi H' w hk hv=>?_) ?_
  ·exact BO C hk.wf hv (hk.get (b:=H.next+7) (cR)) ((hc.mono (s2 _)).mono hk.sub) h0 (Lin.content_dvd (Sx hi)) (hz _ (Sx hi)) (zh hz)
  ·rintro v H4 ⟨hr,hk4⟩
   obtain ⟨k4,_,_⟩:=zT H zK hk4
   have e:l.mapIdx (fun _ z=>z / (Lin.content l:Int))=Lin.prime l:=by
    unfold Lin.prime
    rw [if_neg h0]
    apply Uy <;> simp
   rw [e] at hr
   refine zW (aB hl g0) ?_
   exact ⟨_,rfl,hr,zK⟩
def At (c:Int->Int->Int):List Int->List Int->Int
 | x :: l,y :: m=>if c x y=0 then At c l m else c x y
 | _,_=>0
theorem EE {c:Int->Int->Int}:∀ {l m:List Int} {j:Nat} (hj:j<l.length) (hj':j<m.length),(∀ k (h:k<l.length) (h':k<m.length),k<j->c l[k] m[k]=0)->c l[j] m[j]≠0->At c l m=c l[j] m[j]
 | [],m,j,hj,_,_,_=>by simp at hj
 | _ :: _,[],j,_,hj',_,_=>by simp at hj'
 | x :: l,y :: m,0,_,_,_,h1=>by
  have h1':¬ c x y=0:=h1
  show (if c x y=0 then At c l m else c x y)=_
  rw [if_neg h1']; rfl
 | x :: l,y :: m,j+1,hj,hj',h0,h1=>by
  have h1':c x y=0:=h0 0 (by simp) (by simp) zO
  show (if c x y=0 then At c l m else c x y)=_
  rw [if_pos h1']
  exact EE (by simpa using hj) (by simpa using hj') (fun k h h' hk=>h0 (k+1) (by simpa using h) (by simpa using h') zO) h1
theorem Be {c:Int->Int->Int}:∀ {l m:List Int},(∀ k (h:k<l.length) (h':k<m.length),c l[k] m[k]=0)->At c l m=0
 | [],m,_=>by cases m <;> rfl
 | _ :: _,[],_=>rfl
 | x :: l,y :: m,h0=>by
  have h1':c x y=0:=h0 0 (by simp) (by simp)
  show (if c x y=0 then At c l m else c x y)=_
  rw [if_pos h1']
  exact Be fun k h h'=>h0 (k+1) (by simpa using h) (by simpa using h')
theorem xw (C:Code tab) (hw:Wf H) {fi:Nat} {first caps:List AV} {a b:AV} {l m:List Int} (ha:RowV H a l) (hb:RowV H b m) (hlm:l.length=m.length) (hbig:l.length<1099511627776) (c:Int->Int->Int)
  (hf:∀ i (h:i<l.length) (h':i<m.length) H' u v,Kp H H'->IntV H' u l[i]->IntV H' v m[i]->Ans tab (.fn fi (first++[u,v]++caps)) H' fun r H2=>r=.int .i64 (c l[i] m[i])/\Kp H' H2) :
  Ans tab (.fn aX [a,b,.fn (.func fi) first caps]) H fun r H'=>r=.int .i64 (At c l m)/\Kp H H':=by
 refine lU C.q125 zU fun T hl g0 g1 g2=>?_
 refine zW (cr hl g0 g1 g2 ha.lenV) ?_
 refine am H [] (fun j _ _=>∀ k (h:k<l.length) (h':k<m.length),k<j->c l[k] m[k]=0) (a:=0) (N:=l.length) rfl (by refine zW (aV hl g0 g1 g2) ?_; rfl) (zV (aV hl g0 g1 g2)) (SH _) zO (by simp only [Sr,hl]; rfl) rfl (fun _ _ _ _ h=>h) zK (fun k _ _ h=>by omega) ?_ ?_
 ·intro j T1 H1 _ hj hl1 hi1 hs1 hk1 hP
  have w1:=hk1.wf
  have le_hk1:=hk1.le
  have hj2:j<m.length:=by omega
  have t11:ad T1 11=a:=(hs1.at_ 11 zU).trans (zV (aB hl g0))
  have t1:ad T1 1=b:=(hs1.at_ 1 zU).trans (zV (cr hl g0 g1 g2 g1))
  have t2:ad T1 2=.fn (.func fi) first caps:=(hs1.at_ 2 zU).trans (zV (cr hl g0 g1 g2 g2))
  obtain ⟨w,hn,hld,-,-⟩:=jM (ha.mono hk1.sub) hj
  have hix:co 2 a (.int .i64 (j:Int))=some (ap a (j*2)):=Yl ha .i64 j hj
  obtain ⟨u,hu,L,hiy⟩:=mi w1 (hb.mono hk1.sub) hj2
  have ow:=hn.one
  have ou:=hu.one
  have Lp:=L.put
  have Ll:=L.ld
  have hge:¬ m.length<=j:=by omega
  simp only [Sr,hl] at hl1
  refine zW (Al hl1 t11 t1 t2 hi1 hix hld hb.lenV hge hiy Lp Ll) ?_
  refine XW (hf j hj hj2 _ (.agg [.bool (decide (l[j]<0)),w]) (.agg [.bool (decide (m[j]<0)),u]) zK ⟨w,rfl,hn.mono (zG H1)⟩ ⟨u,rfl,hu.mono (zG H1)⟩) fun H2 hk2=>?_
  obtain ⟨k2,_,_⟩:=zT H zK hk2
  by_cases hz:c l[j] m[j]=0
  ·refine zW (aB hl1 hz) ?_
   refine ⟨zK,fun k h h' hk=>?_⟩
   by_cases e:k=j
   ·subst e; exact hz
   ·exact hP k h h' zO
  ·refine zW (aB hl1 hz) ?_
   exact ⟨by rw [EE hj hj2 hP hz],zK⟩
 ·intro T1 H1 hl1 hs1 hk1 hP
  have t0:ad T1 0=a:=(hs1.at_ 0 zU).trans (zV (aB hl g0))
  have t1:ad T1 1=b:=(hs1.at_ 1 zU).trans (zV (cr hl g0 g1 g2 g1))
  have e1:lenV a=some (.int .i64 (m.length:Int)):=by rw [ha.lenV,hlm]
  simp only [Sr,hl] at hl1
  refine zW (cr hl1 t0 t1 e1 hb.lenV) ?_
  exact ⟨by rw [Be fun k h h'=>hP k h h' h],zK⟩
theorem Fo (C:Code tab) (hw:Wf H) {a b:AV} {x y:Int} (ha:IntV H a x) (hb:IntV H b y) (hx:eU x) (hy:eU y) :
  Ans tab (.fn nX [a,b]) H fun v H'=>v=.int .i64 (iv (x-y))/\Kp H H':=by
 obtain ⟨p,rfl,hp⟩:=ha
 obtain ⟨q,rfl,hq⟩:=hb
 have op:=hp.one
 have oq:=hq.one
 refine bz C.q126 zU fun T hl g0 g1=>?_
 refine zW (aC hl g0 g1) ?_
 refine XW (Iv C zF ⟨p,rfl,hp.mono (zG H)⟩ ⟨q,rfl,hq.mono (zG H)⟩ hx hy) fun H2 hk2=>?_
 obtain ⟨k2,_,_⟩:=zT H zK hk2
 refine zW (aC hl g0 g1) ?_
 exact zK
def CJ (l m:List Int):Int:=At (fun x y=>iv (x-y)) l m
theorem NG (C:Code tab) (hw:Wf H) {a b:AV} {l m:List Int} (ha:RowV H a l) (hb:RowV H b m) (hlm:l.length=m.length) (h64:l.length<=64) (hl':∀ z∈l,eU z) (hm':∀ z∈m,eU z) :
  Ans tab (.fn uK [a,b]) H fun v H'=>v=.tup [.int .i64 (CJ l m),.int .i64 0]/\Kp H H':=by
 have oa:=ha.one
 have ob:=hb.one
 refine bz C.q105 zU fun T hl g0 g1=>?_
 refine zW (aC hl g0 g1) ?_
 refine XW (gh C (d:=l.length) zF (Ar ha hb (zG H) (by refine uv ?_; rfl)) (by simp) (by simp) h64 fun r hr=>?_) fun H2 hk2=>?_
 ·simp at hr; rcases hr with rfl | rfl
  ·exact ⟨rfl,hl'⟩
  ·exact ⟨hlm.symm,hm'⟩
 obtain ⟨k2,_,w2⟩:=zT H zK hk2
 refine zW (aC hl g0 g1) ?_
 refine XW (xw C zF (ha.mono (zG H)) (hb.mono (zG H)) hlm zO (fun x y=>iv (x-y)) fun i h h' H' u v hk hu hv=>Fo C hk.wf hu hv (hl' _ (Sx h)) (hm' _ (Sx h'))) fun H3 hk3=>?_
 obtain ⟨k3,_,_⟩:=zT H zK hk3
 refine zW (aC hl g0 g1) ?_
 exact ⟨rfl,zK⟩
end
abbrev MW (H:Heap) (v:AV) (ls:List (List (Bool × List Nat))):Prop:=xJ (rl rawE aa) af H v ls
def vK (r:List (Bool × List Nat)):Bool:=!Aj r || decide (r.length=0)
def cH (ls:List (List (Bool × List Nat))):Int :=
 if 1024<ls.length then 4 else if ls.any vK then 8 else if ls.any (fun r=>decide (r.length≠(ls.headD []).length)) then 70 else 0
theorem AN {ls:List (List (Bool × List Nat))} (h0:ls.length<=1024) {j:Nat} (hj:j<ls.length) (h:vK ls[j]=true):cH ls=8:=by
 have:ls.any vK=true:=Tj.2 ⟨_,Sx hj,h⟩
 unfold cH
 rw [if_neg zO,if_pos this]
theorem FC {ls:List (List (Bool × List Nat))} (h0:ls.length<=1024) (hb:∀ k (h:k<ls.length),vK ls[k]=false) {j:Nat} (hj:j<ls.length) (h:ls[j].length≠(ls[0]'zO).length):cH ls=70:=by
 have h1:¬ ls.any vK=true:=by
  rw [Tj]; rintro ⟨r,hr,hbr⟩
  obtain ⟨k,hk,rfl⟩:=TG hr
  rw [hb k hk] at hbr; cases hbr
 have e:ls.headD []=ls[0]'zO:=by cases ls with | nil=>simp at hj | cons a l=>rfl
 have h2:ls.any (fun r=>decide (r.length≠(ls.headD []).length))=true:=Tj.2 ⟨_,Sx hj,by rw [e]; simpa using h⟩
 unfold cH
 rw [if_neg zO,if_neg h1,if_pos h2]
theorem uD {ls:List (List (Bool × List Nat))} (h0:ls.length<=1024) (hb:∀ k (h:k<ls.length),vK ls[k]=false) (hl:∀ k (h:k<ls.length),ls[k].length=(ls[0]'zO).length):cH ls=0:=by
 have h1:¬ ls.any vK=true:=by
  rw [Tj]; rintro ⟨r,hr,hbr⟩
  obtain ⟨k,hk,rfl⟩:=TG hr
  rw [hb k hk] at hbr; cases hbr
 have h2:¬ ls.any (fun r=>decide (r.length≠(ls.headD []).length))=true:=by
  rw [Tj]; rintro ⟨r,hr,hbr⟩
  obtain ⟨k,hk,rfl⟩:=TG hr
  have e:ls.headD []=ls[0]'zO:=by cases ls with | nil=>simp at hk | cons a l=>rfl
  rw [e,hl k hk] at hbr
  simp at hbr
 unfold cH
 rw [if_neg zO,if_neg h1,if_neg h2]
section
variable {tab:Nat->Option aw} {H:Heap} {s:AV}
theorem yy {ty:Nat} {ls:List (List (Bool × List Nat))} (hs:xJ (rl rawE aa) ty H s ls) {i:Nat} (hi:i<ls.length):∃ w,SlV rawE aa H w ls[i]/\aW H none (ap s i)=some w:=Yk hs (Sv hi)
theorem rR (C:Code tab) (hw:Wf H) {ls:List (List (Bool × List Nat))} (hs:MW H s ls) (hbig:ls.length<4611686018427387904) (hb:∀ r∈ls,vJ r) :
  Ans tab (.fn kE [s]) H fun v H'=>v=.int .i64 (cH ls)/\Kp H H':=by
 refine cQ C.q98 zU fun T hl g0=>?_
 by_cases h0:1024<ls.length
 ·have e:(1024:Int)<(ls.length:Int):=by omega
  refine zW (aV hl g0 hs.lenV e) ?_
  exact ⟨by unfold cH; rw [if_pos h0],zK⟩
 ·have e:¬ (1024:Int)<(ls.length:Int):=by omega
  have h0':ls.length<=1024:=by omega
  refine zW (aV hl g0 hs.lenV e) ?_
  refine am H [] (fun j _ _=>∀ k (h:k<ls.length),k<j->vK ls[k]=false) (a:=0) (N:=ls.length) rfl (by refine zW (aB hl g0) ?_; rfl) (zV (aB hl g0)) (SH _) zO (by simp only [Sr,hl]; rfl) rfl (fun _ _ _ _ h=>h) zK (fun k _ h=>by omega) ?_ ?_
  ·intro j T1 H1 _ hj hl1 hi1 hs1 hk1 hP
   have w1:=hk1.wf
   have le_hk1:=hk1.le
   have t10:ad T1 10=s:=(hs1.at_ 10 zU).trans (zV (aB hl g0))
   obtain ⟨w,hr,hld⟩:=yy (hs.mono hk1.sub) hj
   have hix:=Ym hs .i64 j hj
   simp only [Sr,hl] at hl1
   refine zW (cr hl1 t10 hi1 hix hld) ?_
   refine XW (qC C zF (hr.mono (zG H1)) (hb _ (Sx hj))) fun H2 hk2=>?_
   obtain ⟨k2,_,_⟩:=zT H zK hk2
   cases ho:Aj ls[j] with
   | false =>
    refine zW hl1 ?_
    exact ⟨by rw [AN h0' hj (by simp [vK,ho])],zK⟩
   | true =>
    refine zW (aB hl1 hr.lenV) ?_
    refine iteH.split (fun hz=>?_) fun hz=>?_
    ·refine zW hl1 ?_
     exact ⟨by rw [AN h0' hj (by unfold vK; rw [ho,decide_eq_true zO]; rfl)],zK⟩
    ·refine zW hl1 ?_
     refine ⟨zK,fun k h hk=>?_⟩
     by_cases ek:k=j
     ·subst ek; unfold vK; rw [ho,decide_eq_false zO]; rfl
     ·exact hP k h zO
  ·intro T1 H1 hl1 hs1 hk1 hP
   have w1:=hk1.wf
   have le_hk1:=hk1.le
   have t0:ad T1 0=s:=(hs1.at_ 0 zU).trans (zV (aB hl g0))
   simp only [Sr,hl] at hl1
   refine zW (aC hl1 t0 hs.lenV) ?_
   refine am H [] (fun j _ _=>∀ k (h:k<ls.length),k<j->ls[k].length=(ls[0]'zO).length) (a:=0) (N:=ls.length) rfl (by refine zW hl1 ?_; rfl) (zV hl1) (SH _) zO (by simp only [Sr,hl1]; rfl) rfl (fun _ _ _ _ h=>h) zK (fun k _ h=>by omega) ?_ ?_
   ·intro j T2 H2 _ hj hl2 hi2 hs2 hk2 hP2
    have w2:=hk2.wf
    have le_hk2:=hk2.le
    have h00:0<ls.length:=by omega
    have t25:ad T2 25=s:=(hs2.at_ 25 zU).trans (zV (aB hl1 t0))
    have t0':ad T2 0=s:=(hs2.at_ 0 zU).trans (zV (aB hl1 t0))
    obtain ⟨w,hr,hld⟩:=yy (hs.mono hk2.sub) hj
    obtain ⟨w0,hr0,hld0⟩:=yy (hs.mono hk2.sub) h00
    have hix:=Ym hs .i64 j hj
    have hix0:co 1 s (.int .i64 0)=some (ap s 0):=Ym hs .i64 0 h00
    simp only [Sr,hl1] at hl2
    by_cases he:ls[j].length=(ls[0]'h00).length
    ·have l2:lenV w=some (.int .i64 ((ls[0]'h00).length:Int)):=by rw [hr.lenV,he]
     refine zW (rM hl2 t25 t0' hi2 hix hld hix0 hld0 l2 hr0.lenV) ?_
     refine ⟨zK,fun k h hk=>?_⟩
     by_cases ek:k=j
     ·subst ek; exact he
     ·exact hP2 k h zO
    ·refine zW (rc hl2 t25 t0' hi2 hix hld hix0 hld0 hr.lenV hr0.lenV he) ?_
     exact ⟨by rw [FC h0' (fun k h=>hP k h h) hj he],zK⟩
   ·intro T2 H2 hl2 hs2 hk2 hP2
    simp only [Sr,hl1] at hl2
    refine zW hl2 ?_
    exact ⟨by rw [uD h0' (fun k h=>hP k h h) fun k h=>hP2 k h h],zK⟩
theorem yq {ty:Nat} {ls:List (List Int)} (hs:xJ (rl intE aa) ty H s ls):xJ (rl rawE aa) ty H s (ls.map fun r=>r.map eR):=by
 obtain ⟨cells,hr,ht,hc,ha⟩:=hs
 refine ⟨cells,hr,ht,by rw [hc,SG]; rfl,fun i a hi=>?_⟩
 rw [Tt] at hi
 cases hz:ls[i]? with
 | none=>rw [hz] at hi; cases hi
 | some z =>
  rw [hz] at hi; cases hi
  obtain ⟨w,h1,h2⟩:=ha i z hz
  exact ⟨w,h1,SlV.raw h2⟩
theorem sX {r:List Int} (h64:r.length<=64) (hz:∀ z∈r,eU z):vJ (r.map eR):=by
 refine ⟨by rw [SG]; omega,fun z h=>?_⟩
 rw [Sy] at h
 obtain ⟨a,ha,rfl⟩:=h
 have:=hz a ha
 unfold eU Sm at this
 show (ag a.natAbs).length<_
 omega
theorem B5 {r:List Int} (h64:r.length<=64):Aj (r.map eR)=true:=by
 simp only [Aj,SG,List.any_map,S7,decide_eq_true_eq,TB,TY]
 exact ⟨h64,fun z _=>by simp [ET]⟩
structure vS (d:Nat) (ls:List (List Int)):Prop where
 pos:0<d
 le:d<=64
 len:∀ r∈ls,r.length=d
 sm:∀ r∈ls,∀ z∈r,eU z
theorem jQ (C:Code tab) (hw:Wf H) {d:Nat} {ls:List (List Int)} {ty:Nat} (hs:dS H s ls) (h1024:ls.length<=1024) (hok:vS d ls) :
  Ans tab (.fn kE [s]) H fun v H'=>v=.int .i64 0/\Kp H H':=by
 have h:=rR C hw (yq hs) (by rw [SG]; omega) fun r hr=>by
  rw [Sy] at hr
  obtain ⟨a,ha,rfl⟩:=hr
  exact sX (by rw [hok.len a ha]; exact hok.le) (hok.sm a ha)
 have e:cH (ls.map fun r=>r.map eR)=0:=by
  refine uD (by rw [SG]; exact h1024) (fun k hk=>?_) fun k hk=>?_
  ·rw [SG] at hk
   have hm:=Sx hk
   simp only [Vt]
   unfold vK
   rw [B5 (by rw [hok.len _ hm]; exact hok.le),decide_eq_false (by rw [SG,hok.len _ hm]; have:=hok.pos; omega)]
   rfl
  ·rw [SG] at hk
   simp only [Vt,SG]
   rw [hok.len _ (Sx hk),hok.len _ (Sx zO)]
 rw [e] at h
 exact h
theorem Dl (C:Code tab) (hw:Wf H) {a b:Nat}:Ans tab (.fn mQ [.int .i64 (a:Int),.int .i64 (b:Int)]) H fun v H'=>v=.bool (Lin.before a b)/\Kp H H':=by
 refine bz C.q135 zU fun T hl g0 g1=>?_
 by_cases h1:a=b
 ·subst h1
  refine zW (aC hl g0 g1) ?_
  exact ⟨by simp [Lin.before],zK⟩
 ·have h1':¬ (a:Int)=(b:Int):=by omega
  by_cases h2:a=0
  ·have h2i:(a:Int)=0:=by omega
   have h4:¬ (0:Int)=(b:Int):=by omega
   have h5:¬ 0=b:=by omega
   refine zW (ki hl g0 g1 h1' h1 h2i h4 h5) ?_
   exact ⟨by simp [Lin.before,h2],zK⟩
  ·have h2':¬ (a:Int)=0:=by omega
   by_cases h3:b=0
   ·have h3i:(b:Int)=0:=by omega
    refine zW (ki hl g0 g1 h1' h2' h3i h1 h2) ?_
    exact ⟨by simp [Lin.before,h2,h3],zK⟩
   ·have h3':¬ (b:Int)=0:=by omega
    refine zW (kj hl g0 g1 h1' h2' h3' h1 h2 h3) ?_
    exact ⟨by unfold Lin.before; rw [show (a != b)=true from by simpa using h1,show (a != 0)=true from by simpa using h2,show (b == 0)=false from by simpa using h3]; rfl,zK⟩
theorem Dk (C:Code tab) (hw:Wf H) {d:Nat} :
  Ans tab (.fn mO [.int .i64 (d:Int)]) H fun v H'=>v=.fn (.func fd) [] [.ptr H.next 0]/\H'.get H.next=some (.cells [.int .i64 (d:Int)] fW true)/\H.next+1<=H'.next/\Kp H H':=by
 refine cQ C.q139 zU fun T hl g0=>?_
 refine zW (aB hl g0) ?_
 exact ⟨by omega,zK⟩
theorem Jb {d k:Nat} (hk:k+1<d):(Lin.places d)[k]? = some (k+1):=by
 unfold Lin.places
 rw [S0 (by simp; omega),List.getElem?_range' zO]
 congr 1; omega
theorem Dx {d:Nat} (hd:0<d):(Lin.places d)[d-1]? = some 0:=by
 unfold Lin.places
 rw [Tn (by simp),if_neg zO]
 simp
theorem FL (C:Code tab) {H0:Heap} {lb b d:Nat} (hd:d<1099511627776) (J:Nat->Heap->Prop) (R:Heap->Prop) (hk:Kp H0 H) (h0:J 0 H) (hup:∀ k H m,J k H->J k (H.up m)) (hRup:∀ H m,R H->R (H.up m))
  (hA:∀ k H,J k H->H.get b=some (.cells [.int .i64 (d:Int)] fW true))
  (hr:∀ (k p:Nat) H,(Lin.places d)[k]? = some p->Kp H0 H->J k H->Ans tab (.round lb [.int .i64 (p:Int)]) H fun v H'=>Kp H0 H'/\((v=.bool true/\J (k+1) H')\/(v=.bool false/\R H'))) :
  Ans tab (.ent fd [.loopv lb,.ptr b 0]) H fun _ H'=>Kp H0 H'/\(J d H'\/R H'):=by
 refine Rm C.q149 zU fun T hl g0 g1=>?_
 refine zW (aC hl g0 g1) ?_
 refine bC H0 [3] (fun m vs H'=>∃ i:Nat,vs=[.int .i64 (i:Int)]/\1<=i/\i<=d+1/\(0<d->i<=d)/\(d=0->i=1)/\m=d+1-i/\J (i-1) H') d (by simp only [Sr]; exact hl) rfl zK ⟨1,by refine zW (aC hl g0 g1) ?_; rfl,Sz _,by omega,fun h=>h,fun _=>rfl,by omega,hup _ _ _ h0⟩ ?_
 rintro k T1 H1 hl1 hs1 hk1 ⟨i,hv,i1,i2,i3,i4,hm,hJ⟩
 have w1:=hk1.wf
 have le_hk1:=hk1.le
 simp only [SA,SD,SB,and_true] at hv
 have t0:ad T1 0=.loopv lb:=(hs1.at_ 0 zU).trans (zV (aB hl g0))
 have t1:ad T1 1=.ptr b 0:=(hs1.at_ 1 zU).trans (zV (aV hl g0 g1 g1))
 have hb:=hA _ _ hJ
 refine zW (cr hl1 hv t0 t1 hb) ?_
 refine iteH.split (fun h=>?_) fun h=>?_
 ·have hi:i<d:=by omega
  have hp:(Lin.places d)[i-1]? = some i:=by have:=Jb (d:=d) (k:=i-1) zO; rwa [WO i1] at this
  refine zW (aV hl1 hv t0 t1) ?_
  refine XX (hr (i-1) i _ hp zK (hup _ _ _ hJ)) ?_
  rintro v H2 ⟨hk2,⟨rfl,hJ2⟩ | ⟨rfl,hR⟩⟩
  ·rw [WO i1] at hJ2
   have e:IntKind.i64.wrap ((i:Int)+1)=((i+1:Nat):Int):=by rw [wrap_i64] <;> omega
   have w2:=hk2.wf
   have le_hk2:=hk2.le
   refine zW (aC hl1 hv e) ?_
   exact ⟨zK,d-i,by omega,i+1,rfl,by omega,by omega,fun _=>hi,fun h=>by omega,by omega,by simpa using hup _ _ _ hJ2⟩
  ·have w2:=hk2.wf
   refine zW hl1 ?_
   exact ⟨zK,.inr hR⟩
 ·have hi:¬ i<d:=by omega
  refine zW (aV hl1 t0 t1 hb) ?_
  refine iteH.split (fun h=>?_) fun h=>?_
  ·have hd0:0<d:=by omega
   have e:i=d:=by have:=i3 hd0; omega
   subst e
   refine zW (aB hl1 t0) ?_
   refine XX (hr (i-1) 0 _ (Dx hd0) zK (hup _ _ _ hJ)) ?_
   rintro v H2 ⟨hk2,⟨rfl,hJ2⟩ | ⟨rfl,hR⟩⟩
   ·rw [WO i1] at hJ2
    refine zW hl1 ?_
    exact ⟨hk2,.inl hJ2⟩
   ·refine zW hl1 ?_
    exact ⟨hk2,.inr hR⟩
  ·have hd0:d=0:=by omega
   have e:=i4 hd0
   subst e
   refine zW hl1 ?_
   refine ⟨zK,.inl ?_⟩
   rw [hd0]
   exact hup _ _ _ hJ
theorem Lx (b:Nat) (T T':Tm) (ps:List Nat) (asg body:ACode) (Q:AV->Heap->Prop) (H2:Heap):P0 b T ps asg body Q .ret T' H2=(H2.get b=some (.loop T ps asg body .busy none)/\Q (.bool false) (H2.put b (.loop T ps asg body .done (some .ret)))):=rfl
theorem HI {α:Type} {p:α->Bool}:∀ {l:List α} {k:Nat} {x:α},l[k]? = some x->(∀ i y,i<k->l[i]? = some y->p y=false)->p x=true->l.find? p=some x
 | [],k,x,h,_,_=>by simp at h
 | a :: l,0,x,h,_,hp=>by
  simp at h; subst h; simp [hp]
 | a :: l,k+1,x,h,h0,hp=>by
  rw [List.find?_cons_of_neg (by rw [h0 0 a zO rfl]; simp)]
  exact HI (by simpa using h) (fun i y hi hy=>h0 (i+1) y zO (by simpa using hy)) hp
end
def P3 (l:List Int):Int:=match Lin.pivot l with
 | some p=>(p:Int)
 | none=>-1
section
variable {tab:Nat->Option aw} {H:Heap} {s:AV}
theorem qv {l:List Int} {p:Nat} (hp:p<l.length):Lin.at_ l p=l[p]:=by simp [Lin.at_,hp]
theorem rQ (C:Code tab) (hw:Wf H) {l:List Int} (hs:RowV H s l) (h64:l.length<=64):Ans tab (.fn nY [s]) H fun v H'=>v=.int .i64 (P3 l)/\Kp H H':=by
 have os:=hs.one
 refine cQ C.q121 zU fun T hl g0=>?_
 refine zW (aC hl g0 hs.lenV) ?_
 refine XX (Dk C zF) ?_
 rintro v H2 ⟨rfl,b0,hn2,hk2⟩
 obtain ⟨k2,_,w2⟩:=zT H zK hk2
 simp only [next_put,cZ] at b0 hn2
 have p0:=hk2.get (b:=H.next) (e:=.cells [s] af true) (cR)
 have p1:=hk2.get (b:=H.next+1) (e:=.cells [.int .i64 0] fW true) (cR)
 refine zW (aB hl g0) ?_
 refine rT (fi:=fd) (args:=[.loopv H2.next,.ptr (H.next+5) 0]) (by refine zW (aB hl g0) ?_; rfl) ?_
 generalize he:Ent.loop _ _ _ _ LoopState.ready none=e0
 generalize hd:Ent.loop _ _ _ _ LoopState.done (some ACode.ret)=e1
 have k3:Kp H ((H2.up 1).put H2.next e0):=zK
 have le_k3:=k3.le
 refine (FL C (H0:=H) (d:=l.length) zO (fun k H'=>H'.get H2.next=some e0/\H'.get H.next=some (.cells [s] af true)/\H'.get (H.next+1)=some (.cells [.int .i64 0] fW true)/\H'.get (H.next+5)=some (.cells [.int .i64 (l.length:Int)] fW true)/\(∀ i y,i<k->(Lin.places l.length)[i]? = some y->Lin.at_ l y=0))
  (fun H'=>∃ p:Nat,Lin.pivot l=some p/\H'.get H2.next=some e1/\H'.get (H.next+1)=some (.cells [.int .i64 (p:Int)] fW true)) k3 ⟨by exact cR,by exact zV p0,by exact zV p1,by exact zV @b0,fun i y h=>by omega⟩ (fun _ _ _ h=>h) (fun _ _ h=>h) (fun k H' h=>h.2.2.2.1) ?_).mono ?_
 ·rintro k p H1 hp hk1 ⟨j0,j1,j2,j3,jz⟩
  rw [<- he] at j0
  have w1:=hk1.wf
  have le_hk1:=hk1.le
  have hlt:=w1 _ _ j0
  have hpl:p<l.length:=Lin.mem_places.1 (SL hp)
  obtain ⟨w,hn,hld,hsg,hab⟩:=jM hs hpl
  have Lp:=(Yd hw hab).put
  have Ll:=bJ hk1.sub hab
  have hix:co 2 s (.int .i64 (p:Int))=some (ap s (p*2)):=Yl hs .i64 p hpl
  have hfa:xv 1 (ap s (p*2))=some (ap s (p*2+1)):=SlV.fa hs zO 1 (p*2)
  have hlen:=bZ (l[p]).natAbs
  refine sE j0 rfl ?_
  refine zW (rM hl g0 j0 j1 j2 hix hfa Lp Ll hn.lenV) ?_
  refine iteH.split (fun h=>?_) fun h=>?_
  ·have hpv:Lin.pivot l=some p:=by
    refine HI hp (fun i y hi hy=>by simp [jz i y hi hy]) ?_
    rw [qv hpl]; simp; omega
   refine zW (eW hl g0 j0 j1 j2 @Lx) ?_
   generalize Ent.loop _ _ _ _ LoopState.busy none=e2
   rw [hd]
   exact ⟨zK,.inr ⟨p,hpv,by exact cR,by exact cR⟩⟩
  ·have hz:Lin.at_ l p=0:=by rw [qv hpl]; omega
   refine zW (eW hl g0 j0 j1 j2 @yu) ?_
   generalize Ent.loop _ _ _ _ LoopState.busy none=e2
   rw [he]
   refine ⟨zK,.inl ⟨rfl,j3,fun i y hi hy=>?_⟩⟩
   by_cases e:i=k
   ·subst e
    rw [hp] at hy; cases hy; exact hz
   ·exact jz i y zO hy
 ·rintro _ H' ⟨hk',⟨j0,j1,j2,j3,jz⟩ | ⟨p,hp,j0,j2⟩⟩
  ·refine .inl ⟨j0,?_⟩
   have w1:=hk'.wf
   have le_hk':=hk'.le
   have lt1:=w1 _ _ j2
   have ku:Kp H (H'.up 1):=hk'.up 1
   refine zW (aC hl g0 j2) ?_
   have hnone:Lin.pivot l=none:=by
    unfold Lin.pivot
    rw [XI]
    intro y hy
    obtain ⟨i,hi⟩:=Tf hy
    have hlen:(Lin.places l.length).length=l.length:=by
     unfold Lin.places
     rw [SN,List.length_range']
     split <;> simp <;> omega
    have hil:i<l.length:=by have:=(SI.1 hi).1; omega
    simp [jz i y hil hi]
   exact ⟨by unfold P3; rw [hnone],zK⟩
  ·refine .inr (.inl ⟨j0,?_⟩)
   have w1:=hk'.wf
   have le_hk':=hk'.le
   refine zW (aC hl g0 j2) ?_
   exact ⟨by unfold P3; rw [hp],zK⟩
theorem FZ {m n:Int} {e f g h:Nat} {x y:List Int} (hm:Bt g m) (hn:Bt h n) (hx:∀ z∈x,Bt e z) (hy:∀ z∈y,Bt f z):∀ z∈Lin.mix m x n y,Bt (max (g+e) (h+f)+1) z:=by
 intro z hz
 unfold Lin.mix at hz
 rw [Xl] at hz
 obtain ⟨i,hi,rfl⟩:=hz
 have h1:i<x.length:=by simp at hi; omega
 have h2:i<y.length:=by simp at hi; omega
 rw [List.getElem_zipWith]
 exact Bt.add (hm.mul (hx _ (Sx h1))) (hn.mul (hy _ (Sx h2)))
theorem Du {e:Nat} {x:List Int} (hx:∀ z∈x,Bt e z):∀ z∈Lin.prime x,Bt e z:=by
 intro z hz
 unfold Lin.prime at hz
 split at hz
 ·exact hx z hz
 ·rw [Sy] at hz
  obtain ⟨a,ha,rfl⟩:=hz
  have h:=hx a ha
  unfold Bt at *
  refine TE ?_ h
  rw [Int.natAbs_ediv_of_dvd (Lin.content_dvd ha)]
  exact U6 _ _
theorem Fz {e:Nat} {x:List Int} (hx:∀ z∈x,Bt e z):∀ z∈Lin.scl (-1) x,Bt e z:=by
 intro z hz
 unfold Lin.scl at hz
 rw [Sy] at hz
 obtain ⟨a,ha,rfl⟩:=hz
 have:=(hx a ha).neg
 rwa [show -a = -1*a by omega] at this
theorem OU {e f p:Nat} {a u:List Int} (ha:∀ z∈a,Bt e z) (hu:∀ z∈u,Bt f z):∀ z∈Lin.wo a u p,Bt (e+f+1) z:=by
 intro z hz
 unfold Lin.wo at hz
 split at hz
 ·exact (ha z hz).mono zO
 ·have hm:Bt f (Lin.at_ u p):=by
   unfold Lin.at_; rw [Ss]
   cases h:u[p]? with
   | none=>exact Bt.zero f
   | some b=>exact hu b (SL h)
  have hn:Bt e (-(Lin.at_ a p)):=by
   refine Bt.neg ?_
   unfold Lin.at_; rw [Ss]
   cases h:a[p]? with
   | none=>exact Bt.zero e
   | some b=>exact ha b (SL h)
  exact (Du (FZ hm hn ha hu) z hz).mono zO
theorem sU (C:Code tab) (hw:Wf H) {va vb:AV} {x u:List Int} {p e f:Nat} (ha:RowV H va x) (hb:RowV H vb u) (hxu:x.length=u.length) (h64:x.length<=64) (hp:p<x.length) (hx:∀ z∈x,Bt e z) (hu:∀ z∈u,Bt f z) (he:e+f+1<=8796093022208) :
  Ans tab (.fn lv [va,vb,.int .i64 (p:Int)]) H fun v H'=>RowV H' v (Lin.wo x u p)/\Kp H H':=by
 refine lU C.q122 zU fun T hl g0 g1 g2=>?_
 have hpu:p<u.length:=by omega
 obtain ⟨w,hn,hld,-,hab⟩:=jM ha hp
 have hix:co 2 va (.int .i64 (p:Int))=some (ap va (p*2)):=Yl ha .i64 p hp
 have hfa:xv 1 (ap va (p*2))=some (ap va (p*2+1)):=SlV.fa ha zO 1 (p*2)
 have hlen:=bZ (x[p]).natAbs
 refine zW (ki hl g0 g1 g2 hix hfa hab hn.lenV) ?_
 refine iteH.split (fun h=>?_) fun h=>?_
 ·have hz:Lin.at_ x p=0:=by rw [qv hp]; omega
  refine zW (aB hl g0) ?_
  refine ⟨?_,zK⟩
  unfold Lin.wo
  rw [if_pos hz]
  exact ha.mono (zG H)
 ·have hz:¬ Lin.at_ x p=0:=by rw [qv hp]; omega
  refine zW (eW hl g0 g1 g2 hix hld) ?_
  refine XX (AF C zF ⟨w,rfl,hn.mono (zG H)⟩ ((hx _ (Sx hp)).sm zO)) ?_
  rintro v H2 ⟨r,rfl,hr,hk2⟩
  obtain ⟨k2,_,w2⟩:=zT H zK hk2
  obtain ⟨r',rfl,hr'⟩:=hr
  have or':=hr'.one
  obtain ⟨wu,hnu,L,hiu⟩:=mi hw hb hpu
  have Lp:=L.put
  have Ll:=(L.mono k2).ld
  have n2:H.next+19<=H2.next:=hk2.le
  have f2:H2.get (H.next+16)=none:=hk2.free (show _<H.next+19 by omega) (hw.fresh (b:=H.next+16) zO)
  have s2:∀ m,Sub H2 (((H2.up m).put (H.next+16) (.cells [.bool false,.nilSl] aa true)).put (H.next+16) (.cells [.bool (decide (-x[p]<0)),r'] aa true)):=fun m=>(Ys H2 m).trans ((aP (H:=H2.up m) f2).put f2 _)
  refine zW (aV hl g0 g1 g2) ?_
  refine aH ?_
  refine zD (ki hl g0 g1 g2 hiu Lp Ll @aR) ?_
  have hup:=hu _ (Sx hpu)
  have hxp:=hx _ (Sx hp)
  refine XX (GR C (m:=u[p]) (n:=-x[p]) zF ⟨wu,rfl,hnu.mono (zG H)⟩ ⟨r',rfl,hr'.mono (s2 _)⟩ (ha.mono (zG H)) (hb.mono (zG H)) hxu h64 (hup.len zO) (hxp.neg.len zO) (fun z hz=>⟨(hx z hz).len zO,(hup.mul (hx z hz)).sm zO⟩) (fun z hz=>⟨(hu z hz).len zO,(hxp.neg.mul (hu z hz)).sm zO⟩)) ?_
  rintro v3 H3 ⟨r3,rfl,hr3,hk3⟩
  obtain ⟨k3,_,w3⟩:=zT H zK hk3
  refine zD (ki hl g0 g1 g2 hiu Lp Ll @aR) ?_
  refine XX (uw C zF (hr3.mono (zG H3)) (by rw [Lin.mix_length rfl hxu.symm]; exact h64) (fun z hz=>(FZ hup hxp.neg hx hu z hz).sm zO)) ?_
  rintro v4 H4 ⟨r4,rfl,hr4,hk4⟩
  obtain ⟨k4,_,_⟩:=zT H zK hk4
  simp only [iF,jG,iD,kP,UU,UI,qY,oN,WP,W0,U8,Uj]
  refine zW (aV hl g0 g1 g2) ?_
  refine ⟨?_,zK⟩
  unfold Lin.wo
  rw [if_neg hz,qv hp,qv hpu]
  exact hr4.mono (X8 (H:=H4) (X9 (X7 k4.wf) ((X7 k4.wf).up _)))
end
def PV (tab:Nat->Option aw) (rd:Bool) (b:ACode) (Q:Ex->Tm->Heap->Prop) (x:Ex) (T:Tm) (H:Heap):Prop:=match x with
 | .nrm=>WB tab rd b T H Q
 | x=>Q x T H
def Qu (R:Tm->Heap->Prop) (Q:Ex->Tm->Heap->Prop) (x:Ex) (T:Tm) (H:Heap):Prop:=match x with
 | .nrm=>R T H
 | x=>Q x T H
section
variable {tab:Nat->Option aw} {rd:Bool} {a b:ACode} {T:Tm} {H:Heap} {Q:Ex->Tm->Heap->Prop} {R:Tm->Heap->Prop}
theorem aD:PV tab rd b Q .nrm T H=WB tab rd b T H Q:=rfl
theorem yl:PV tab rd b Q .ret T H=Q .ret T H:=rfl
theorem aU:Qu R Q .nrm T H=R T H:=rfl
theorem tK:Qu R Q .ret T H=Q .ret T H:=rfl
theorem bk (h:WC tab rd a T H (PV tab rd b Q)):WB tab rd (.seq a b) T H Q:=xP (h.wb.mono fun x T' H' h=>by cases x <;> exact h)
theorem db (R:Tm->Heap->Prop) (hp:iw a=true) (h:WC tab rd a T H (Qu R Q)) (hb:∀ T' H',Same (fI a) T T'->R T' H'->WB tab rd b T' H' Q):WB tab rd (.seq a b) T H Q :=
 xP ((h.wb.same hp).mono fun x T' H' ⟨hs,h⟩=>by
  cases x with
  | nrm=>exact hb T' H' hs h
  | exit e=>exact h
  | goto l=>exact h
  | ret=>exact h)
theorem Aw {f:Nat} {fn:aw} {args:List AV} {Q:AV->Heap->Prop} (hf:tab f=some fn) (he:fn.ext=none) (hl:args.length=fn.nparams) (hn:fn.nparams<=fn.ntmps)
  (h:∀ T0:Tm,T0.length=fn.ntmps->(∀ i,i<args.length->ad T0 i=args.getD i .undef)->WB tab false fn.body T0 H (uE fn.results Q)):Ans tab (.fn f args) H Q:=by
 obtain ⟨x,T',H',⟨N,g⟩,hx,v,hv,hq⟩:=h (args++List.replicate (fn.ntmps-args.length) .undef) (by simp; omega) fun i hi=>by
  unfold ad
  rw [Ss,Ss,S0 hi]
 refine ⟨v,H',⟨N+1,fun m n hm hn=>?_⟩,hq⟩
 obtain ⟨n',rfl⟩:∃ n',n=n'+1:=⟨n-1,by omega⟩
 show jq tab eS (kD tab eS m n') m (.fn f args) H=_
 simp only [jq,hf,he,yo,if_pos hl]
 rw [g m n' zO zO]
 rcases hx with rfl | rfl <;> simp [hv]
end
theorem Cells.set1 {α:Type} {e:OS α} {H:Heap} {cells:List AV} {l:List α} (h:Cells (bT e) H cells l) {i:Nat} {a:α} {v:AV} (hi:i<l.length) (hr:e.R H v a):Cells (bT e) H (cells.set i v) (l.set i a):=by
 have hc:i<cells.length:=by have:=h.1; simp [bT] at this; omega
 have h2:cells.take (i*1)++[v]++cells.drop (i*1+1)=cells.set i v:=by rw [TW,Va,if_pos hc]; simp
 have this:Cells (bT e) H (cells.take (i*1)++[v]++cells.drop (i*1+1)) (l.set i a):=Cells.set h hi ⟨v,rfl,hr⟩
 rw [h2] at this
 exact this
theorem Cells.at1 {α:Type} {e:OS α} {H:Heap} {cells:List AV} {l:List α} (h:Cells (bT e) H cells l) {i:Nat} (hi:i<l.length):∃ v,bL cells i none=some v/\e.R H v l[i]:=by
 obtain ⟨v,h1,h2⟩:=h.2 i _ (Sv hi)
 have hc:i<cells.length:=by have:=h.1; simp [bT] at this; omega
 refine ⟨v,?_,h2⟩
 have h1':(cells.drop (i*1)).take 1=[v]:=h1
 rw [TW] at h1'
 have h3:((cells.drop i).take 1)[0]? = some v:=by rw [h1']; rfl
 rw [List.getElem?_take_of_lt zO,SU] at h3
 simpa [bL] using h3
section
variable {tab:Nat->Option aw} {H:Heap} {s:AV}
def mH (F:List (List Int)) (x:List Int) (k:Nat):List Int:=(F.take k).foldl (fun a r=>Lin.wo a r (Lin.pv r)) (Lin.prime x)
theorem pk {F:List (List Int)} {x:List Int} {k:Nat} (hk:k<F.length):mH F x (k+1)=Lin.wo (mH F x k) F[k] (Lin.pv F[k]):=by
 unfold mH
 rw [SF hk,VE]; rfl
theorem jF (F:List (List Int)) (x:List Int):mH F x F.length=Lin.restF F x:=by
 unfold mH Lin.restF
 rw [S2]
theorem nQ {d:Nat} {F:List (List Int)} {x:List Int} (hx:x.length=d) (hF:∀ r∈F,r.length=d):∀ k,k<=F.length->(mH F x k).length=d
 | 0,_=>by unfold mH; simp [Lin.prime_length,hx]
 | k+1,h=>by
  rw [pk zO]
  exact Lin.wo_length (nQ hx hF k zO) (hF _ (Sx zO))
theorem nk {e f:Nat} {F:List (List Int)} {x:List Int} (hx:∀ z∈x,Bt e z) (hF:∀ r∈F,∀ z∈r,Bt f z):∀ k,k<=F.length->∀ z∈mH F x k,Bt (e+k*(f+1)) z
 | 0,_=>by
  intro z hz
  unfold mH at hz
  exact (Du hx z (by simpa using hz)).mono zO
 | k+1,h=>by
  rw [pk zO]
  intro z hz
  refine (OU (nk hx hF k zO) (hF _ (Sx zO)) z hz).mono ?_
  rw [Ui]; omega
theorem FH {r:List Int} {p:Nat} (h:Lin.pivot r=some p):P3 r=(p:Int):=by unfold P3; rw [h]
theorem vp (C:Code tab) (hw:Wf H) {fb:Nat} {q va:AV} {F:List (List Int)} {x:List Int} {d e f:Nat} (hfb:H.get fb=some (.cells [q] eE true)) (hq:dS H q F) (ha:RowV H va x) (hx:x.length=d) (h64:d<=64) (hlF:F.length<=64)
  (hF:∀ r∈F,r.length=d/\Lin.pivot r=some (Lin.pv r)/\∀ z∈r,Bt f z) (hxe:∀ z∈x,Bt e z) (hb:e+65*(f+1)<=8796093022208) :
  Ans tab (.fn iy [.ptr fb 0,va]) H fun v H'=>RowV H' v (Lin.restF F x)/\Kp H H':=by
 refine bz C.q103 zU fun T hl g0 g1=>?_
 refine zW (aC hl g0 g1) ?_
 refine XX (uw C zF (ha.mono (zG H)) zO fun z hz=>(hxe z hz).sm zO) ?_
 rintro v H2 ⟨r2,rfl,hr2,hk2⟩
 obtain ⟨k2,_,w2⟩:=zT H zK hk2
 have hfb2:=k2.get hfb
 refine zW (cr hl g0 g1 hfb2 hq.lenV) ?_
 refine am H [1] (fun j vs H'=>∃ v,vs=[v]/\RowV H' v (mH F x j)) (a:=0) (N:=F.length) rfl (by refine zW (aC hl g0 g1) ?_; rfl) (zV (aC hl g0 g1)) (SH _) zO (by simp only [Sr,hl]; rfl) rfl (fun j vs H' m ⟨c,h1,h2⟩=>⟨c,h1,h2.mono (Ys H' m)⟩) zK ⟨r2,by exact zV (aC hl g0 g1),by exact hr2.mono (Ys H2 _)⟩ ?_ ?_
 ·rintro j T1 H1 _ hj hl1 hi1 hs1 hk1 ⟨vr,hv,hr⟩
  have w1:=hk1.wf
  have le_hk1:=hk1.le
  simp only [SA,SD,SB,and_true] at hv
  have t15:ad T1 15=q:=(hs1.at_ 15 zU).trans (zV (aC hl g0 g1))
  obtain ⟨w,hrj,hld⟩:=dy (hq.mono hk1.sub) hj
  have hix:=Ym hq .i64 j hj
  have hFj:=hF _ (Sx hj)
  simp only [Sr,hl] at hl1
  refine zW (eW hl1 t15 hi1 hix hld hv) ?_
  refine XW (rQ C zF (hrj.mono (zG H1)) zO) fun H3 hk3=>?_
  obtain ⟨k3,_,w3⟩:=zT H1 zK hk3
  rw [FH hFj.2.1]
  have hlr:=nQ hx (fun r h=>(hF r h).1) j zO
  have hpd:Lin.pv F[j]<d:=by have:=(Lin.pivot_some.1 hFj.2.1).1; omega
  have hle:j*(f+1)<=63*(f+1):=SJ _ zO
  refine zW (aB hl1 hv) ?_
  refine XX (sU C zF (hr.mono k3.sub) (hrj.mono k3.sub) (hlr.trans hFj.1.symm) zO zO (nk hxe (fun r h=>(hF r h).2.2) j zO) hFj.2.2 zO) ?_
  rintro v4 H4 ⟨hr4,hk4⟩
  have k4:Kp H H4:=X9 (X9 hk1 k3) hk4
  have le_k4:=k4.le
  refine zW hl1 ?_
  refine ⟨zK,_,rfl,?_⟩
  rw [pk hj]
  exact hr4
 ·rintro T1 H1 hl1 hs1 hk1 ⟨vr,hv,hr⟩
  have w1:=hk1.wf
  have le_hk1:=hk1.le
  simp only [SA,SD,SB,and_true] at hv
  simp only [Sr,hl] at hl1
  rw [jF] at hr
  refine zW (aB hl1 hv) ?_
  exact ⟨hr.mono (Ys H1 _),zK⟩
abbrev rowsE:fh (List Int):=bT (rl intE aa)
theorem E9 (C:Code tab) {H0:Heap} {q va:AV} {F:List (List Int)} {x:List Int} {k b2:Nat} (hk:Kp H0 H) (hq:Bl rowsE af H0 H q F) (hkF:k<=F.length) (hb2:H.get b2=some (.cells [va] af true)) (hx:RowV H va x) (hne:∀ n,q ≠ .own b2 0 n n 1 false) (hlen:F.length<1099511627776) :
  Ans tab (.fn cB [q,.int .i64 (k:Int),.own b2 0 1 1 1 true]) H fun v H'=>Kp H0 H'/\Bl rowsE af H0 H' v (F.take k++x :: F.drop k)/\(∀ b e,H.get b=some e->(∀ n,q ≠ .own b 0 n n 1 false)->H'.get b=some e)/\(∃ n,v=.own H.next 0 n n 1 false)/\H'.next=H.next+1:=by
 have hle:=hk.le
 have ox:=hx.one
 have hfr:H.get H.next=none:=hk.wf.fresh (Sz _)
 have hfirst:aL H 1 1 (.own b2 0 1 1 1 true)=some [va]:=by simp [aL,hb2]
 rcases hq with ⟨rfl,rfl⟩ | ⟨b,cells,rfl,hb,hcl,hb0⟩
 ·have hk0:k=0:=by simpa using hkF
  subst hk0
  have hs:Sub H (({ H with next:=H.next+1 }:Heap).put H.next (.cells [va] af true)):=(Ys H 1).put hfr _
  refine xG C.q136 rfl rfl (v:=.own H.next 0 1 1 1 false) (H':=({ H with next:=H.next+1 }:Heap).put H.next (.cells [va] af true)) ?_ ⟨(hk.up 1).put hle (by show _<H.next+1; omega),.inr ⟨H.next,[va],rfl,au _ _ _,?_,hle⟩,fun c e hc _=>hs.get _ _ hc,⟨1,rfl⟩,rfl⟩
  ·show tF H (.insert 1 24 af) [.nilSl,.int .i64 (.ofNat 0),.own b2 0 1 1 1 true]=_
   simp [tF,hfirst,ox.2]
  ·exact X2 (E:=rowsE) ⟨va,rfl,hx.mono hs⟩
 ·have hl:(F.take k++x :: F.drop k).length=F.length+1:=by simp; omega
  have hbb:b≠b2:=fun e=>hne F.length (by rw [e]; rfl)
  have hlt:=hk.wf _ _ hb
  have hcl1:cells.length=F.length:=by have:=hcl.1; simpa [bT] using this
  have hget:∀ c e,H.get c=some e->c≠b->((({ H with next:=H.next+1 }:Heap).kill b).put H.next (.cells (cells.take (k*1)++[va]++cells.drop (k*1)) af true)).get c=some e:=fun c e hc hcb=>by
   have:=hk.wf _ _ hc
   rw [az zO,dg hcb]; exact hc
  have hs:SubT (rl intE aa).tys H ((({ H with next:=H.next+1 }:Heap).kill b).put H.next (.cells (cells.take (k*1)++[va]++cells.drop (k*1)) af true)):=fun c cs t r ht hc=>hget c _ hc fun e=>by
   subst e
   rw [hb] at hc; cases hc
   revert ht; decide
  refine xG C.q136 rfl rfl (v:=.own H.next 0 (F.length+1) (F.length+1) 1 false) (H':=(({ H with next:=H.next+1 }:Heap).kill b).put H.next (.cells (cells.take (k*1)++[va]++cells.drop (k*1)) af true)) ?_ ⟨((hk.up 1).kill hb0).put hle (by show _<H.next+1; omega),.inr ⟨H.next,_,by rw [hl]; rfl,au _ _ _,?_,hle⟩,fun c e hc h=>hget c e hc fun e1=>h F.length (by rw [e1]; rfl),⟨_,rfl⟩,rfl⟩
  ·show tF H (.insert 1 24 af) [.own b 0 F.length F.length 1 false,.int .i64 (.ofNat k),.own b2 0 1 1 1 true]=_
   have hones:=hcl.ones
   simp only [tF,hfirst,hb,hb2]
   rw [if_pos ⟨trivial,trivial,hbb,by omega,hkF,by omega,by omega,by omega,trivial,by simp [ox.2],hones⟩]
  ·have h1:=(hcl.mono hs).take hkF
   have h2:=(hcl.mono hs).drop k
   have h3:Cells rowsE ((({ H with next:=H.next+1 }:Heap).kill b).put H.next (.cells (cells.take (k*1)++[va]++cells.drop (k*1)) af true)) [va] [x]:=X2 (E:=rowsE) ⟨va,rfl,Yn (E:=intE) hs hx⟩
   have e:F.take k++[x]++F.drop k=F.take k++x :: F.drop k:=by simp
   rw [<- e]
   exact (h1.append h3).append h2
end
def jp (w:List Int->List Int) (F:List (List Int)) (j:Nat):List (List Int):=(F.take j).map w++F.drop j
theorem yc (w:List Int->List Int) (F:List (List Int)):jp w F 0=F:=by simp [jp]
theorem qF (w:List Int->List Int) (F:List (List Int)) {j:Nat} (h:j<=F.length):(jp w F j).length=F.length:=by simp [jp]; omega
theorem AJ (w:List Int->List Int) (F:List (List Int)):jp w F F.length=F.map w:=by simp [jp]
theorem AI (w:List Int->List Int) (F:List (List Int)) {j:Nat} (h:j<F.length):(jp w F j)[j]? = some F[j]:=by
 unfold jp
 rw [Tn (by simp; omega)]
 have e:j-((F.take j).map w).length=0:=by simp; omega
 rw [e,SU]
 simp [h]
theorem AH (w:List Int->List Int) (F:List (List Int)) {j:Nat} (h:j<F.length):(jp w F j).set j (w F[j])=jp w F (j+1):=by
 apply Uf
 intro i
 rw [UP]
 have hl:=qF w F (UA h)
 by_cases e:j=i
 ·subst e
  rw [if_pos rfl,if_pos zO]
  unfold jp
  rw [S0 (by simp; omega)]
  simp [h]
 ·rw [if_neg e]
  unfold jp
  by_cases hi:i<j
  ·rw [S0 (by simp; omega),S0 (by simp; omega)]
   simp [hi,show i<j+1 by omega]
  ·rw [Tn (by simp; omega),Tn (by simp; omega),SU,SU]
   congr 1
   simp; omega
theorem HD {x:List Int} {p:Nat}:∀ {F:List (List Int)} {k:Nat},k<=F.length->(∀ i (h:i<F.length),i<k->Lin.before (Lin.pv F[i]) p=true)->(∀ h:k<F.length,Lin.before (Lin.pv F[k]) p=false)->Lin.insP x p F=F.take k++x :: F.drop k
 | [],k,hk,_,_=>by
  have:k=0:=by simpa using hk
  subst this; rfl
 | r :: F,0,_,_,h1=>by
  have:=h1 (by simp)
  simp only [V7] at this
  simp [Lin.insP,this]
 | r :: F,k+1,hk,h0,h1=>by
  have h2:=h0 0 (by simp) zO
  simp only [V7] at h2
  have ih:=HD (x:=x) (p:=p) (F:=F) (k:=k) (by simpa using hk) (fun i h hi=>by have:=h0 (i+1) (by simpa using h) zO; simpa using this) (fun h=>by have:=h1 (by simpa using h); simpa using this)
  simp [Lin.insP,h2,ih]
theorem E8:MuI (-1):=by
 have:=bh (n:=1) (k:=1) zU
 unfold MuI
 show (ag 1).length<_
 omega
section
variable {tab:Nat->Option aw} {H:Heap} {s:AV}
theorem Mg (C:Code tab) {H0:Heap} {fb:Nat} {q va:AV} {F:List (List Int)} {x:List Int} {d e f:Nat} (hk:Kp H0 H) (hfb0:H0.next<=fb) (hfb:H.get fb=some (.cells [q] eE true)) (hq:Bl rowsE af H0 H q F) (ha:RowV H va x) (hx:x.length=d) (h64:d<=64) (hE:Lin.Ech d F) (hlF:F.length<=64)
  (hFe:∀ r∈F,∀ z∈r,Bt f z) (hxe:∀ z∈x,Bt e z) (hb:e+66*(f+1)<=8796093022208) :
  Ans tab (.fn fX [.ptr fb 0,va]) H fun v H'=>v=.tup []/\Kp H0 H'/\∃ q',H'.get fb=some (.cells [q'] eE true)/\Bl rowsE af H0 H' q' (Lin.putF F x):=by
 have hw:=hk.wf
 have hF:∀ r∈F,r.length=d/\Lin.pivot r=some (Lin.pv r)/\∀ z∈r,Bt f z:=fun r hr=>⟨hE.len r hr,(hE.pos hr).1,hFe r hr⟩
 have hyl:(Lin.restF F x).length=d:=by rw [<- jF]; exact nQ hx (fun r h=>(hF r h).1) _ (Sz _)
 have hle64:F.length*(f+1)<=64*(f+1):=SJ _ hlF
 have hye:∀ z∈Lin.restF F x,Bt (e+64*(f+1)) z:=fun z hz=>by
  rw [<- jF] at hz
  exact (nk hxe (fun r h=>(hF r h).2.2) _ (Sz _) z hz).mono zO
 refine Aw C.q119 rfl rfl zU fun T hl g=>?_
 have hl:T.length=79:=hl
 have hrs:c_P_rows_form_put.results=[]:=rfl
 have g0:ad T 0=.ptr fb 0:=g 0 (by simp)
 have g1:ad T 1=va:=g 1 (by simp)
 refine bk ?_
 refine zW (aV hl g0 g1 @aD) ?_
 refine XX (vp C (H:=H.up 4) zF hfb (hq.sl.mono (Ys H 4)) (ha.mono (Ys H 4)) hx h64 hlF hF hxe zO) ?_
 rintro v H2 ⟨hr2,hk2⟩
 obtain ⟨k2,_,w2⟩:=zT H zK hk2
 refine zW (aV hl g0 g1 @aD) ?_
 refine bk ?_
 refine zW (aV hl g0 g1 @aD) ?_
 refine XW (rQ C zF (hr2.mono (zG H2)) zO) fun H3 hk3=>?_
 have k3:Kp H H3:=X9 k2 (X9 zK hk3)
 have le_k3:=k3.le
 have w3:=k3.wf
 have hr3:RowV H3 v (Lin.restF F x):=hr2.mono (X8 (H:=H2) (X9 zK hk3))
 cases hpv:Lin.pivot (Lin.restF F x) with
 | none =>
  have e1:P3 (Lin.restF F x) = -1:=by unfold P3; rw [hpv]
  rw [e1]
  refine zW (aV hl g0 g1 @aD) ?_
  refine bk ?_
  refine zW (eW hl g0 g1 @aD @yl hrs) ?_
  have e2:Lin.putF F x=F:=by unfold Lin.putF; rw [hpv]
  rw [e2]
  have k03:Kp H0 H3:=hk.trans k3
  have le_k03:=k03.le
  exact ⟨zK,q,k3.get hfb,hq.mono (zG H)⟩
 | some p =>
  rw [FH hpv]
  have hp:p<(Lin.restF F x).length:=(Lin.pivot_some.1 hpv).1
  have hp0:=(Lin.pivot_some.1 hpv).2.1
  have hneg:¬ (p:Int)<0:=by omega
  refine zW (aV hl g0 g1 @aD) ?_
  refine bk ?_
  refine zW (eW hl g0 g1 @aD @yl hneg) ?_
  refine db (fun T' H'=>∃ va',ad T' 1=va'/\RowV H' va' (Lin.signed (Lin.restF F x) p)/\Kp H H') rfl ?_ ?_
  ·obtain ⟨w,hn,hld,hsg,hab⟩:=jM hr3 hp
   have hix:co 2 v (.int .i64 (p:Int))=some (ap v (p*2)):=Yl hr3 .i64 p hp
   have hfa:xv 0 (ap v (p*2))=some (ap v (p*2)):=SlV.fa hr3 zO 0 (p*2)
   refine zW (gf hl g0 g1 hix hfa hsg @aU) ?_
   refine iteH.split (fun h=>?_) fun h=>?_
   ·refine zW (aC hl g0 g1) ?_
    refine XX (nf C (n:=-1) zF zO zO) ?_
    rintro v4 H4 ⟨hi4,hk4⟩
    have k4:Kp H H4:=X9 k3 (X9 zK hk4)
    have le_k4:=k4.le
    have w4:=k4.wf
    refine zW (aC hl g0 g1) ?_
    refine XX (Ix C zF (hr3.mono (X8 (H:=H3) (X9 zK hk4))) hi4 zO (fun z hz=>(hye z hz).len zO) E8) ?_
    rintro v5 H5 ⟨r5,rfl,hr5,hk5⟩
    have k5:Kp H H5:=X9 k4 hk5
    have le_k5:=k5.le
    refine zW (aV hl g0 g1 @aU) ?_
    refine ⟨_,rfl,?_,k5⟩
    unfold Lin.signed
    rw [if_pos (by rw [qv hp]; exact h)]
    exact hr5
   ·refine zW (aV hl g0 g1 @aU) ?_
    refine ⟨_,rfl,?_,zK⟩
    unfold Lin.signed
    rw [if_neg (by rw [qv hp]; exact h)]
    exact hr3.mono (Ys H3 _)
  ·rintro T1 H4 hs1 ⟨va',hv1,hr4,k4⟩
   have w4:=k4.wf
   have k04:Kp H0 H4:=hk.trans k4
   have le_k04:=k04.le
   have t0:ad T1 0=.ptr fb 0:=(hs1.at_ 0 zU).trans (zV (aC hl g0 g1))
   have t4:ad T1 4=.int .i64 (p:Int):=(hs1.at_ 4 zU).trans (zV (aC hl g0 g1))
   have hl1:T1.length=79:=hs1.len.trans (by simp only [Sr]; exact hl)
   have hfb4:=k4.get hfb
   have hq4:Bl rowsE af H0 H4 q F:=hq.mono k4.sub
   have hput:Lin.putF F x=Lin.insP (Lin.signed (Lin.restF F x) p) p (F.map fun r=>Lin.wo r (Lin.signed (Lin.restF F x) p) p):=by unfold Lin.putF; rw [hpv]
   have hEp:=(Lin.put_ech hE hx).1
   rw [hput] at hEp ⊢
   have hyl':(Lin.signed (Lin.restF F x) p).length=d:=Lin.signed_length hyl
   have hye':∀ z∈Lin.signed (Lin.restF F x) p,Bt (e+64*(f+1)) z:=by
    unfold Lin.signed
    split
    ·exact Fz hye
    ·exact hye
   have hmem:∀ r'∈F.map (fun r=>Lin.wo r (Lin.signed (Lin.restF F x) p) p),r'.length=d/\Lin.pivot r'=some (Lin.pv r'):=fun r' h=>by
    have hm:r'∈Lin.insP (Lin.signed (Lin.restF F x) p) p (F.map fun r=>Lin.wo r (Lin.signed (Lin.restF F x) p) p):=Lin.mem_insP.2 (.inr h)
    exact ⟨hEp.len _ hm,(hEp.pos hm).1⟩
   generalize Lin.signed (Lin.restF F x) p=y at *
   obtain ⟨w,hw0⟩:∃ w:List Int->List Int,w=fun r=>Lin.wo r y p:=⟨_,rfl⟩
   rw [<- hw0] at hmem ⊢
   have hpd:p<d:=by omega
   refine Yx ?_
   refine zW (cr hl1 t0 t4 hfb4 hq4.sl.lenV) ?_
   refine am H0 [] (fun j _ H'=>H'.get fb=some (.cells [q] eE true)/\Bl rowsE af H0 H' q (jp w F j)/\RowV H' va' y) (a:=0) (N:=F.length) rfl (by refine zW hl1 ?_; rfl) (zV hl1) (SH _) zO (by simp only [Sr,hl1]; rfl) rfl (fun j vs H' m ⟨h1,h2,h3⟩=>⟨h1,h2.mono (Ys H' m),h3.mono (Ys H' m)⟩) zK ⟨hfb4,by rw [yc]; exact hq4.mono (Ys H4 _),hr4.mono (Ys H4 _)⟩ ?_ ?_
   ·rintro j T2 H5 _ hj hl2 hi2 hs2 hk5 ⟨j1,j2,j3⟩
    have w5:=hk5.wf
    have le_hk5:=hk5.le
    have hsl:=qF w F (UA hj)
    rcases j2 with ⟨-,hnil⟩ | ⟨b,cells,hqe,hb5,hcl,hb0⟩
    ·exfalso
     rw [hnil] at hsl; simp at hsl; omega
    rw [hsl] at hqe
    have hjl:j<(jp w F j).length:=by omega
    obtain ⟨vr,htk,hvr⟩:=hcl.at1 hjl
    have hgj:(jp w F j)[j]=F[j]:=by
     have:=AI w F hj
     rw [Sv hjl] at this
     exact Option.some.inj this
    rw [hgj] at hvr
    have hvr:RowV H5 vr F[j]:=hvr
    have hFj:=hF _ (Sx hj)
    have hcn:cells.length=F.length:=by have:=hcl.1; simp [bT] at this; omega
    have hne:fb≠b:=fun e=>by
     subst e
     rw [j1] at hb5; injection hb5 with h; injection h with _ h2; exact absurd h2 zU
    have t29:ad T2 29=q:=(hs2.at_ 29 zU).trans (zV hl1)
    have t0':ad T2 0=.ptr fb 0:=(hs2.at_ 0 zU).trans (zV (aB hl1 t0))
    have t1':ad T2 1=va':=(hs2.at_ 1 zU).trans (zV (aB hl1 hv1))
    have t4':ad T2 4=.int .i64 (p:Int):=(hs2.at_ 4 zU).trans (zV (aB hl1 t4))
    have hix:co 1 q (.int .i64 (j:Int))=some (.ptr b j):=by
     have:=mj (b:=b) (off:=0) (c:=F.length) (sz:=1) (x:=false) (k:=.i64) hj
     rw [S8,TW] at this
     rw [hqe]; exact this
    simp only [Sr,hl1] at hl2
    refine zW (eW hl2 t29 hi2 hix hb5 htk) ?_
    refine aH ?_
    refine zD (eW hl2 t0' t1' t4' hi2 j1) ?_
    refine XX (sU C zF (hvr.mono (zG H5)) (j3.mono (zG H5)) (hFj.1.trans hyl'.symm) zO zO hFj.2.2 hye' zO) ?_
    rintro v6 H6 ⟨hr6,hk6⟩
    obtain ⟨k56,_,_⟩:=zT H5 zK hk6
    have k06:Kp H0 H6:=hk5.trans k56
    have le_k06:=k06.le
    have w6:=k06.wf
    have hb6:=k56.get hb5
    have lb6:=w6 _ _ hb6
    have j16:=k56.get j1
    have o6:=hr6.one
    have hjc:j<cells.length:=by omega
    refine zD (rM hl2 t0' t1' t4' hi2 j1 j16 hix hb6 hjc) ?_
    have mb:NoTy (rl intE aa).tys H6 b:=Yg hb6 zU
    have st6:SubT (rl intE aa).tys H6 (H6.put b (.cells (cells.set j v6) af true)):=Yu (Yv _ _) mb
    have hwj:w F[j]=Lin.wo F[j] y p:=by rw [hw0]
    have hcl6:Cells rowsE H6 cells (jp w F j):=hcl.mono (k56.sub.t _)
    refine ⟨zK,.inr ⟨b,_,?_,au _ _ _,?_,hb0⟩,Yn (E:=intE) st6 (j3.mono k56.sub)⟩
    ·rw [qF w F zO]; exact hqe
    ·rw [<- AH w F hj,hwj]
     exact X0 (E:=rowsE) st6 (hcl6.set1 hjl hr6)
   ·rintro T3 H7 hl3 hs3 hk7 ⟨j1,j2,j3⟩
    have w7:=hk7.wf
    have le_hk7:=hk7.le
    rw [AJ] at j2
    have t0'':ad T3 0=.ptr fb 0:=(hs3.at_ 0 zU).trans (zV (aB hl1 t0))
    have t1'':ad T3 1=va':=(hs3.at_ 1 zU).trans (zV (aB hl1 hv1))
    have t4'':ad T3 4=.int .i64 (p:Int):=(hs3.at_ 4 zU).trans (zV (aB hl1 t4))
    simp only [Sr,hl1] at hl3
    obtain ⟨F',hF'⟩:∃ F',F'=F.map w:=⟨_,rfl⟩
    rw [<- hF'] at j2 hmem ⊢
    have hF'l:F'.length=F.length:=by rw [hF']; simp
    refine zW (aV hl3 t0'' t1'' t4'') ?_
    refine kN H0 [7] (fun m vs H'=>∃ k:Nat,vs=[.int .i64 (k:Int)]/\k<=F'.length/\(∀ i (h:i<F'.length),i<k->Lin.before (Lin.pv F'[i]) p=true)/\m=F'.length-k/\H'.get fb=some (.cells [q] eE true)/\Bl rowsE af H0 H' q F'/\RowV H' va' y)
     (fun vs H'=>∃ k:Nat,vs=[.int .i64 (k:Int)]/\k<=F'.length/\(∀ i (h:i<F'.length),i<k->Lin.before (Lin.pv F'[i]) p=true)/\(∀ h:k<F'.length,Lin.before (Lin.pv F'[k]) p=false)/\H'.get fb=some (.cells [q] eE true)/\Bl rowsE af H0 H' q F'/\RowV H' va' y)
     F'.length (by simp only [Sr,hl3]; rfl) rfl zK ⟨0,by refine zW hl3 ?_; rfl,by omega,fun i _ h=>by omega,by omega,j1,j2.mono (Ys H7 _),j3.mono (Ys H7 _)⟩ ?_ ?_
    ·rintro m T4 H8 hl4 hs4 hk8 ⟨k,hv,hkn,hbf,hm,i1,i2,i3⟩
     have w8:=hk8.wf
     have le_hk8:=hk8.le
     simp only [SA,SD,SB,and_true] at hv
     have t0a:ad T4 0=.ptr fb 0:=(hs4.at_ 0 zU).trans (zV (aB hl3 t0''))
     have t4a:ad T4 4=.int .i64 (p:Int):=(hs4.at_ 4 zU).trans (zV (aB hl3 t4''))
     by_cases hkl:k<F'.length
     ·obtain ⟨wv,hrk,hld⟩:=dy i2.sl hkl
      have hix:=Ym i2.sl .i64 k hkl
      have hmk:=hmem _ (Sx hkl)
      refine zW (kj hl4 hv t0a t4a i1 i2.sl.lenV hkl hix hld) ?_
      refine XW (rQ C zF (hrk.mono (zG H8)) zO) fun H9 hk9=>?_
      obtain ⟨k89,_,w9⟩:=zT H8 zK hk9
      rw [FH hmk.2]
      refine zW (aV hl4 hv t0a t4a) ?_
      refine XW (Dl C zF) fun H10 hk10=>?_
      have k810:Kp H8 H10:=X9 k89 hk10
      have le_k810:=k810.le
      have k010:Kp H0 H10:=hk8.trans k810
      have le_k010:=k010.le
      cases hbv:Lin.before (Lin.pv F'[k]) p with
      | true =>
       have e:IntKind.i64.wrap ((k:Int)+1)=((k+1:Nat):Int):=by rw [wrap_i64] <;> omega
       refine zW (aC hl4 hv e) ?_
       refine ⟨zK,F'.length-(k+1),by omega,k+1,rfl,by omega,fun i h hi=>?_,rfl,k810.get i1,i2.mono (zG H8),i3.mono (zG H8)⟩
       by_cases ei:i=k
       ·subst ei; exact hbv
       ·exact hbf i h zO
      | false =>
       refine zW (aB hl4 hv) ?_
       exact ⟨zK,k,rfl,hkn,hbf,fun _=>hbv,k810.get i1,i2.mono k810.sub,i3.mono k810.sub⟩
     ·refine zW (gf hl4 hv t0a t4a i1 i2.sl.lenV hkl) ?_
      exact ⟨zK,k,rfl,hkn,hbf,fun h=>absurd h hkl,i2.mono (Ys H8 _),i3.mono (Ys H8 _)⟩
    ·rintro T5 H11 hl5 hs5 hk11 ⟨k,hv,hkn,hbf,hbn,i1,i2,i3⟩
     have w11:=hk11.wf
     have le_hk11:=hk11.le
     simp only [SA,SD,SB,and_true] at hv
     have t0a:ad T5 0=.ptr fb 0:=(hs5.at_ 0 zU).trans (zV (aB hl3 t0''))
     have t1a:ad T5 1=va':=(hs5.at_ 1 zU).trans (zV (aB hl3 t1''))
     rw [HD hkn hbf hbn]
     have oa:=i3.one
     have lfb:=w11 _ _ i1
     refine zW (cr hl5 hv t0a t1a i1) ?_
     have hf7:H11.get (H11.next+7)=none:=w11.fresh zO
     have hqne:∀ n,q ≠ .own (H11.next+7) 0 n n 1 false:=fun n e=>by
      rcases i2 with ⟨h,-⟩ | ⟨b,cells,h,hb',-⟩
      ·rw [h] at e; cases e
      ·rw [h] at e; injection e with e1; rw [e1,hf7] at hb'; cases hb'
     have sx:Sub H11 ((H11.up 12).put (H11.next+7) (.cells [va'] af true)):=(Ys H11 12).trans (aP (H:=H11.up 12) hf7)
     refine XX (E9 C (H0:=H0) (F:=F') (x:=y) (k:=k) zK (i2.mono sx) hkn (cR) (i3.mono sx) hqne zO) ?_
     rintro v12 H12 ⟨k12,bl,keep,⟨n,rfl⟩,hnx⟩
     have w12:=k12.wf
     have hfx:((H11.up 12).put (H11.next+7) (.cells [va'] af true)).get fb=some (.cells [q] eE true):=by exact zV i1
     have hne':∀ n,q ≠ .own fb 0 n n 1 false:=fun n=>i2.ne i1 (fun cs h=>by injection h with _ h2; exact absurd h2 zU) n
     have f12:=keep fb _ hfx hne'
     have lt12:=w12 _ _ f12
     refine zW (aC hl5 hrs f12) ?_
     refine ⟨zK,_,rfl,bl.put (fun n' h=>?_) (Yt f12 zU)⟩
     injection h with h1
     simp only [next_put,cZ] at h1
     omega
end
theorem Dn {d:Nat}:∀ {l:List Nat} {lo:Nat},lo<=d->l.Pairwise (· < ·)->(∀ a∈l,lo<a/\a<=d)->l.length+lo<=d
 | [],lo,h,_,_=>by simpa using h
 | a :: l,lo,h,hp,hb=>by
  have ha:=hb a (SK ..)
  have hp':=Uw.1 hp
  have:=Dn (d:=d) (lo:=a) ha.2 hp'.2 fun b hb'=>⟨hp'.1 b hb',(hb b (SE _ hb')).2⟩
  simp only [Tu]
  omega
theorem ech_len {d:Nat} {F:List (List Int)} (h:Lin.Ech d F):F.length<=d:=by
 have h1:(F.map fun r=>Lin.rank (Lin.pv r) d).Pairwise (· < ·):=by
  rw [TT]
  refine h.sorted.imp_of_mem fun {r s} hr hs hb=>?_
  exact (Lin.before_iff (h.pos hr).2.2 (h.pos hs).2.2).1 hb
 have h2:=Dn (d:=d) (lo:=0) (SH _) h1 fun a ha=>by
  rw [Sy] at ha
  obtain ⟨r,hr,rfl⟩:=ha
  have:=(h.pos hr).2.2
  unfold Lin.rank
  split <;> omega
 simpa using h2
def jr (e:Nat):Nat->Nat
 | 0=>0
 | k+1=>e+(k+1)*(jr e k+1)
theorem Gm (e k:Nat):jr e k<=jr e (k+1):=by
 show jr e k<=e+(k+1)*(jr e k+1)
 rw [Ui]; omega
theorem sA (e:Nat) {k m:Nat} (h:k<=m):jr e k<=jr e m:=by
 induction m with
 | zero =>
  have:k=0:=by omega
  subst this; exact Sz _
 | succ m ih =>
  by_cases hk:k<=m
  ·exact SM (ih hk) (Gm e m)
  ·have:k=m+1:=by omega
   subst this; exact Sz _
theorem insP_len {x:List Int} {p:Nat}:∀ F:List (List Int),(Lin.insP x p F).length=F.length+1
 | []=>rfl
 | r :: F=>by
  unfold Lin.insP
  split
  ·simp [insP_len F]
  ·simp
theorem NV {d e f:Nat} {F:List (List Int)} {x:List Int} (hF:∀ r∈F,∀ z∈r,Bt f z) (hx:∀ z∈x,Bt e z) :
  Lin.putF F x=F\/((Lin.putF F x).length=F.length+1/\∀ r∈Lin.putF F x,∀ z∈r,Bt (e+(F.length+1)*(f+1)) z):=by
 have hy:∀ z∈Lin.restF F x,Bt (e+F.length*(f+1)) z:=by
  rw [<- jF]; exact nk hx hF _ (Sz _)
 have hs:∀ p,∀ z∈Lin.signed (Lin.restF F x) p,Bt (e+F.length*(f+1)) z:=fun p=>by
  unfold Lin.signed
  split
  ·exact Fz hy
  ·exact hy
 unfold Lin.putF
 cases hp:Lin.pivot (Lin.restF F x) with
 | none=>exact .inl rfl
 | some p =>
  refine .inr ⟨by simp [insP_len],fun r hr=>?_⟩
  have e1:(F.length+1)*(f+1)=F.length*(f+1)+(f+1):=Ui _ _
  rcases Lin.mem_insP.1 hr with rfl | hr
  ·exact fun z hz=>(hs p z hz).mono zO
  ·rw [Sy] at hr
   obtain ⟨u,hu,rfl⟩:=hr
   exact fun z hz=>(OU (hF u hu) (hs p) z hz).mono zO
def mZ (l:List (List Int)) (k:Nat):List (List Int):=(l.take k).foldl Lin.putF []
theorem wy {l:List (List Int)} {k:Nat} (h:k<l.length):mZ l (k+1)=Lin.putF (mZ l k) l[k]:=by
 unfold mZ
 rw [SF h,VE]; rfl
theorem za (l:List (List Int)):mZ l l.length=Lin.formF l:=by
 unfold mZ Lin.formF
 rw [S2]
theorem Gj {d:Nat} {l:List (List Int)} (hl:∀ r∈l,r.length=d) (k:Nat):Lin.Ech d (mZ l k) :=
 (Lin.form_go (l.take k) [] (Lin.Ech.nil d) fun a ha=>hl a (UK ha)).1
theorem vu {d e:Nat} {l:List (List Int)} (hl:∀ r∈l,r.length=d) (hb:∀ r∈l,∀ z∈r,Bt e z):∀ k,k<=l.length->∀ r∈mZ l k,∀ z∈r,Bt (jr e (mZ l k).length) z
 | 0,_=>by intro r hr; cases hr
 | k+1,h=>by
  have ih:=vu hl hb k zO
  rw [wy zO]
  rcases NV (d:=d) ih (hb _ (Sx (show k<l.length by omega))) with h1 | ⟨h1,h2⟩
  ·rw [h1]; exact ih
  ·rw [h1]; exact h2
section
variable {tab:Nat->Option aw} {H:Heap} {s:AV}
theorem pj (C:Code tab) (hw:Wf H) {l:List (List Int)} {d e:Nat} (hs:dS H s l) (hbig:l.length<1099511627776) (hd:d<=64) (hl':∀ r∈l,r.length=d) (hbt:∀ r∈l,∀ z∈r,Bt e z) (hb:e+66*(jr e d+1)<=8796093022208) :
  Ans tab (.fn mP [s]) H fun v H'=>∃ fb q,v=.ptr fb 0/\H'.get fb=some (.cells [q] eE true)/\dS H' q (Lin.formF l)/\Kp H H':=by
 refine cQ C.q102 zU fun T hl g0=>?_
 have hb1:fZ (.agg [.nilSl])=some [.nilSl]:=rfl
 refine zW (aV hl g0 hs.lenV hb1) ?_
 refine am H [] (fun j _ H'=>∃ q,H'.get (H.next+2)=some (.cells [q] eE true)/\Bl rowsE af H H' q (mZ l j)) (a:=0) (N:=l.length) rfl (by refine zW (aB hl g0) ?_; rfl) (zV (aB hl g0)) (SH _) zO (by simp only [Sr,hl]; rfl) rfl (fun j vs H' m ⟨q,h1,h2⟩=>⟨q,h1,h2.mono (Ys H' m)⟩) zK ⟨.nilSl,by exact cR,Bl.nil⟩ ?_ ?_
 ·rintro j T1 H1 _ hj hl1 hi1 hs1 hk1 ⟨q,j1,j2⟩
  have w1:=hk1.wf
  have le_hk1:=hk1.le
  have t11:ad T1 11=s:=(hs1.at_ 11 zU).trans (zV (aB hl g0))
  have t4:ad T1 4=.fn (.func fX) [.ptr (H.next+2) 0] []:=(hs1.at_ 4 zU).trans (zV (aB hl g0))
  obtain ⟨w,hr,hld⟩:=dy (hs.mono hk1.sub) hj
  have hix:=Ym hs .i64 j hj
  have hE:=Gj hl' j
  have hfm:=sA e (ech_len hE)
  have hlj:=ech_len hE
  have hj':=Sx hj
  simp only [Sr,hl] at hl1
  refine zW (eW hl1 t11 t4 hi1 hix hld) ?_
  refine XX (Mg C (H0:=H) (f:=jr e (mZ l j).length) zK zO (by exact j1) (j2.mono (Ys H1 _)) (hr.mono (Ys H1 _)) (hl' _ hj') hd hE zO (vu hl' hbt j zO) (hbt _ hj') zO) ?_
  rintro v H2 ⟨rfl,hk2,q',i1,i2⟩
  refine zW hl1 ?_
  refine ⟨zK,q',i1,?_⟩
  rw [wy hj]
  exact i2
 ·rintro T1 H1 hl1 hs1 hk1 ⟨q,j1,j2⟩
  have w1:=hk1.wf
  have le_hk1:=hk1.le
  have t3:ad T1 3=.ptr (H.next+2) 0:=(hs1.at_ 3 zU).trans (zV (aB hl g0))
  simp only [Sr,hl] at hl1
  rw [za] at j2
  refine zW (aB hl1 t3) ?_
  exact ⟨_,q,rfl,j1,j2.sl.mono (Ys H1 _),zK⟩
theorem BZ (C:Code tab) (hw:Wf H) {l:List (List Int)} {d e:Nat} (hs:dS H s l) (h1024:l.length<=1024) (hd0:0<d) (hd:d<=64) (hl':∀ r∈l,r.length=d) (hbt:∀ r∈l,∀ z∈r,Bt e z) (hb:e+66*(jr e d+1)<=8796093022208) :
  Ans tab (.fn lx [s]) H fun v H'=>∃ q,v=.tup [q,.int .i64 0]/\dS H' q (Lin.formF l)/\Kp H H':=by
 refine cQ C.q79 zU fun T hl g0=>?_
 refine zW (aB hl g0) ?_
 refine XW (jQ C (ty:=0) zF (hs.mono (zG H)) h1024 ⟨hd0,hd,hl',fun r hr z hz=>(hbt r hr z hz).sm zO⟩) fun H2 hk2=>?_
 obtain ⟨k2,_,w2⟩:=zT H zK hk2
 refine zW (aB hl g0) ?_
 refine XX (pj C zF (hs.mono (zG H)) zO hd hl' hbt hb) ?_
 rintro v H3 ⟨fb,q,rfl,hf,hq,hk3⟩
 obtain ⟨k3,_,_⟩:=zT H zK hk3
 refine zW (aC hl g0 hf) ?_
 exact ⟨q,rfl,hq,k3⟩
theorem Dm (C:Code tab) (hw:Wf H) {a:AV} {x:List Int} {l:List (List Int)} {d e:Nat} (ha:RowV H a x) (hs:dS H s l) (h1024:l.length<=1024) (hd0:0<d) (hd:d<=64) (hx:x.length=d) (hl':∀ r∈l,r.length=d) (hxe:∀ z∈x,Bt e z) (hbt:∀ r∈l,∀ z∈r,Bt e z) (hb:e+66*(jr e d+1)<=8796093022208) :
  Ans tab (.fn mR [a,s]) H fun v H'=>∃ q,v=.tup [q,.int .i64 0]/\RowV H' q (Lin.restF (Lin.formF l) x)/\Kp H H':=by
 have oa:=ha.one
 refine bz C.q80 zU fun T hl g0 g1=>?_
 refine zW (aC hl g0 g1) ?_
 refine XW (jQ C (ty:=0) zF (hs.mono (zG H)) h1024 ⟨hd0,hd,hl',fun r hr z hz=>(hbt r hr z hz).sm zO⟩) fun H2 hk2=>?_
 obtain ⟨k2,_,w2⟩:=zT H zK hk2
 refine zW (aC hl g0 g1) ?_
 refine XW (jQ C (ty:=0) (d:=d) (ls:=[x]) zF (Qe (ha.mono k2.sub) (zG H2) (cR)) (by simp) ⟨hd0,hd,by simpa using hx,by simpa using fun z hz=>(hxe z hz).sm zO⟩) fun H3 hk3=>?_
 have k3:Kp H H3:=X9 k2 (X9 zK hk3)
 have le_k3:=k3.le
 have w3:=k3.wf
 have hE:=(Lin.form_ech hl').1
 have hlen:=ech_len hE
 have hfm:=sA e hlen
 have hyl:(Lin.restF (Lin.formF l) x).length=d:=by rw [<- jF]; exact nQ hx hE.len _ (Sz _)
 have hfb:∀ r∈Lin.formF l,∀ z∈r,Bt (jr e d) z:=fun r hr z hz=>by
  have:=vu hl' hbt l.length (Sz _)
  rw [za] at this
  exact (this r hr z hz).mono hfm
 have hle:(Lin.formF l).length*(jr e d+1)<=64*(jr e d+1):=SJ _ zO
 have hye:∀ z∈Lin.restF (Lin.formF l) x,Bt (e+64*(jr e d+1)) z:=fun z hz=>by
  rw [<- jF] at hz
  exact (nk hxe hfb _ (Sz _) z hz).mono zO
 rcases Uu l.length with h0 | h0
 ·have hlv:lenV s=some (.int .i64 0):=by rw [hs.lenV,h0]; rfl
  refine zW (aV hl g0 g1 hlv) ?_
  refine XX (pj C zF (hs.mono (zG H)) zO hd hl' hbt hb) ?_
  rintro v H5 ⟨fb,q,rfl,hf,hq,hk5⟩
  obtain ⟨k5,_,w5⟩:=zT H zK hk5
  refine zW (aC hl g0 g1) ?_
  refine XX (vp C zF hf hq (ha.mono k5.sub) hx hd zO (fun r hr=>⟨hE.len r hr,(hE.pos hr).1,hfb r hr⟩) hxe zO) ?_
  rintro v6 H6 ⟨hr6,hk6⟩
  have k6:Kp H H6:=X9 k5 hk6
  have le_k6:=k6.le
  have w6:=k6.wf
  refine zW (aC hl g0 g1) ?_
  refine XX (xR C zF hr6 zO fun z hz=>(hye z hz).sm zO) ?_
  rintro v7 H7 ⟨hr7,hk7⟩
  have k7:Kp H H7:=X9 k6 hk7
  have le_k7:=k7.le
  refine zW (aC hl g0 g1) ?_
  exact ⟨_,rfl,hr7,k7⟩
 ·obtain ⟨w0,hr0,hld0⟩:=dy (hs.mono k3.sub) h0
  have hix0:co 1 s (.int .i64 0)=some (ap s 0):=Ym hs .i64 0 h0
  have l0:lenV w0=some (.int .i64 (d:Int)):=by rw [hr0.lenV,hl' _ (Sx h0)]
  have la:lenV a=some (.int .i64 (d:Int)):=by rw [ha.lenV,hx]
  have hpos:(0:Int)<(l.length:Int):=by omega
  refine zW (rM hl g0 g1 hs.lenV hpos h0 hix0 hld0 l0 la) ?_
  refine XX (pj C zF (hs.mono (zG H)) zO hd hl' hbt hb) ?_
  rintro v H5 ⟨fb,q,rfl,hf,hq,hk5⟩
  obtain ⟨k5,_,w5⟩:=zT H zK hk5
  refine zW (aC hl g0 g1) ?_
  refine XX (vp C zF hf hq (ha.mono k5.sub) hx hd zO (fun r hr=>⟨hE.len r hr,(hE.pos hr).1,hfb r hr⟩) hxe zO) ?_
  rintro v6 H6 ⟨hr6,hk6⟩
  have k6:Kp H H6:=X9 k5 hk6
  have le_k6:=k6.le
  have w6:=k6.wf
  refine zW (aC hl g0 g1) ?_
  refine XX (xR C zF hr6 zO fun z hz=>(hye z hz).sm zO) ?_
  rintro v7 H7 ⟨hr7,hk7⟩
  have k7:Kp H H7:=X9 k6 hk7
  have le_k7:=k7.le
  refine zW (aC hl g0 g1) ?_
  exact ⟨_,rfl,hr7,k7⟩
end
theorem HL {e f:Nat} {x y:List Int} (hx:∀ z∈x,Bt e z) (hy:∀ z∈y,Bt f z):∀ j,j<=x.length->j<=y.length->(vC x y j).natAbs<=j*2^(e+f)
 | 0,_,_=>by simp [vC,Lin.dot]
 | j+1,h1,h2=>by
  rw [vB zO zO,Ui]
  have ih:=HL hx hy j zO zO
  have hm:=(hx _ (Sx (show j<x.length by omega))).mul (hy _ (Sx (show j<y.length by omega)))
  unfold Bt at hm
  have:=V5 (vC x y j) (x[j]*y[j])
  omega
theorem HM {e f:Nat} {x y:List Int} (hx:∀ z∈x,Bt e z) (hy:∀ z∈y,Bt f z) {j:Nat} (h1:j<=x.length) (h2:j<=y.length) (h64:j<=64):Bt (e+f+7) (vC x y j):=by
 have h:=HL hx hy j h1 h2
 have h3:j*2^(e+f)<=64*2^(e+f):=SJ _ h64
 have h4:0<2^(e+f):=Tk zU
 unfold Bt
 rw [Tz]
 omega
theorem oF {e f:Nat} {x y:List Int} (hx:∀ z∈x,Bt e z) (hy:∀ z∈y,Bt f z) (hxy:x.length=y.length) (h64:x.length<=64):Bt (e+f+7) (Lin.dot x y):=by
 rw [<- Ep hxy]; exact HM hx hy (Sz _) zO h64
section
variable {tab:Nat->Option aw} {H:Heap} {s:AV}
theorem rO (C:Code tab) (hw:Wf H) {a b:AV} {x y:List Int} {e f:Nat} (ha:RowV H a x) (hb:RowV H b y) (hxy:x.length=y.length) (h64:x.length<=64) (hx:∀ z∈x,Bt e z) (hy:∀ z∈y,Bt f z) (hb':e+f+7<=8796093022208) :
  Ans tab (.fn qL [a,b]) H fun v H'=>∃ r,v=.tup [r,.int .i64 0]/\IntV H' r (Lin.dot x y)/\Kp H H' :=
 NF C hw ha hb hxy h64 (fun z hz=>(hx z hz).len zO) (fun z hz=>(hy z hz).len zO) (fun i h h'=>((hx _ (Sx h)).mul (hy _ (Sx h'))).sm zO) fun j hj=>(HM hx hy hj zO zO).sm hb'
theorem tM (C:Code tab) (hw:Wf H) {a b:AV} {x y:List Int} {e f:Nat} (ha:RowV H a x) (hb:RowV H b y) (hxy:x.length=y.length) (h64:x.length<=64) (hx:∀ z∈x,Bt e z) (hy:∀ z∈y,Bt f z) (hb':e+f+7<=8796093022208) :
  Ans tab (.fn oB [a,b]) H fun v H'=>IntV H' v (Lin.dot x y)/\Kp H H':=by
 refine bz C.q110 zU fun T hl g0 g1=>?_
 refine zW (aC hl g0 g1) ?_
 refine XX (rO C zF (ha.mono (zG H)) (hb.mono (zG H)) hxy h64 hx hy hb') ?_
 rintro v H2 ⟨r,rfl,⟨w,rfl,hr⟩,hk2⟩
 obtain ⟨k2,_,w2⟩:=zT H zK hk2
 have ow:=hr.one
 have n2:H.next+10<=H2.next:=hk2.le
 have d2:=hk2.get (b:=H.next) (e:=.cells [.bool false,.nilSl] aa true) (cR)
 have f2:H2.get (H.next+7)=none:=hk2.free (show _<H.next+10 by omega) (by rw [az zO]; exact hw.fresh (b:=H.next+7) zO)
 have m2:NoTy [ae] H2 H.next:=Yg d2 zU
 have m7:NoTy [ae] H2 (H.next+7):=Yf f2
 refine zW (aV hl g0 g1 d2) ?_
 exact ⟨⟨w,rfl,Yn (E:=bT cm) zS hr⟩,zK⟩
theorem vD (C:Code tab) (hw:Wf H) {a:AV} {z:Int} (ha:IntV H a z) (hz:eU z):Ans tab (.fn j8 [a]) H fun v H'=>v=.int .i64 (iv z)/\Kp H H':=by
 obtain ⟨p,rfl,hp⟩:=ha
 have op:=hp.one
 refine cQ C.q111 zU fun T hl g0=>?_
 refine zW (aB hl g0) ?_
 refine XW (nM C zF ⟨p,rfl,hp.mono (zG H)⟩ hz) fun H2 hk2=>?_
 obtain ⟨k2,_,_⟩:=zT H zK hk2
 refine zW (aB hl g0) ?_
 exact zK
theorem zj (C:Code tab) (hw:Wf H) {a:AV} {z:Int} (ha:IntV H a z) (hz:eU z):Ans tab (.fn oz [a]) H fun v H'=>IntV H' v (-z)/\Kp H H':=by
 obtain ⟨p,rfl,hp⟩:=ha
 have op:=hp.one
 refine cQ C.q114 zU fun T hl g0=>?_
 refine zW (aB hl g0) ?_
 refine XX (AF C zF ⟨p,rfl,hp.mono (zG H)⟩ hz) ?_
 rintro v H2 ⟨r,rfl,⟨w,rfl,hr⟩,hk2⟩
 obtain ⟨k2,_,w2⟩:=zT H zK hk2
 have ow:=hr.one
 have n2:H.next+10<=H2.next:=hk2.le
 have d2:=hk2.get (b:=H.next+1) (e:=.cells [.bool false,.nilSl] aa true) (cR)
 have f2:H2.get (H.next+7)=none:=hk2.free (show _<H.next+10 by omega) (by rw [az zO,az zO]; exact hw.fresh (b:=H.next+7) zO)
 have m2:NoTy [ae] H2 (H.next+1):=Yg d2 zU
 have m7:NoTy [ae] H2 (H.next+7):=Yf f2
 refine zW (aC hl g0 d2) ?_
 exact ⟨⟨w,rfl,Yn (E:=bT cm) zS hr⟩,zK⟩
theorem Ey (C:Code tab) (hw:Wf H) {vm vn a b:AV} {m n:Int} {x y:List Int} {e f g h:Nat} (hm:IntV H vm m) (hn:IntV H vn n) (ha:RowV H a x) (hb:RowV H b y) (hxy:x.length=y.length) (h64:x.length<=64) (hmb:Bt g m) (hnb:Bt h n) (hx:∀ z∈x,Bt e z) (hy:∀ z∈y,Bt f z) (hbits:g+e+h+f+1<=8796093022208) :
  Ans tab (.fn oA [vm,a,vn,b]) H fun v H'=>RowV H' v (Lin.prime (Lin.mix m x n y))/\Kp H H':=by
 obtain ⟨mq,rfl,hmq⟩:=hm
 obtain ⟨nq,rfl,hnq⟩:=hn
 have om:=hmq.one
 have on:=hnq.one
 refine Or C.q115 zU fun T hl g0 g1 g2 g3=>?_
 refine zW (cr hl g0 g1 g2 g3) ?_
 refine XX (GR C zF ⟨mq,rfl,hmq.mono (zG H)⟩ ⟨nq,rfl,hnq.mono (zG H)⟩ (ha.mono (zG H)) (hb.mono (zG H)) hxy h64 (hmb.len zO) (hnb.len zO) (fun z hz=>⟨(hx z hz).len zO,(hmb.mul (hx z hz)).sm zO⟩) (fun z hz=>⟨(hy z hz).len zO,(hnb.mul (hy z hz)).sm zO⟩)) ?_
 rintro v H2 ⟨r,rfl,hr,hk2⟩
 obtain ⟨k2,_,w2⟩:=zT H zK hk2
 refine zW (cr hl g0 g1 g2 g3) ?_
 refine XX (uw C zF (hr.mono (zG H2)) (by rw [Lin.mix_length rfl hxy.symm]; exact h64) fun z hz=>(FZ hmb hnb hx hy z hz).sm zO) ?_
 rintro v3 H3 ⟨r3,rfl,hr3,hk3⟩
 have k3:Kp H H3:=X9 k2 (X9 zK hk3)
 have le_k3:=k3.le
 refine zW (cr hl g0 g1 g2 g3) ?_
 exact ⟨hr3.mono (Ys H3 _),zK⟩
abbrev Ah (H0 H:Heap) (v:AV) (l:List Int):Prop:=Bl (bT (F9 .i64)) fW H0 H v l
theorem IQ (C:Code tab) (hw:Wf H) {a:AV} {x:List Int} {l:List (List Int)} {d e f:Nat} (ha:RowV H a x) (hs:dS H s l) (h1024:l.length<=1024) (hd0:0<d) (hd:d<=64) (hx:x.length=d) (hl':∀ r∈l,r.length=d) (hxe:∀ z∈x,Bt e z) (hbt:∀ r∈l,∀ z∈r,Bt f z) (hb:e+f+7<=8796093022208) :
  Ans tab (.fn pz [a,s]) H fun v H'=>∃ q,v=.tup [q,.int .i64 0]/\Ah H H' q (l.map fun r=>iv (Lin.dot x r))/\Kp H H':=by
 have oa:=ha.one
 refine Aw C.q130 rfl rfl zU fun T hl g=>?_
 have hl:T.length=55:=hl
 have hrs:c_sat_Signs.results=[(4,none),(5,none)]:=rfl
 have g0:ad T 0=a:=g 0 (by simp)
 have g1:ad T 1=s:=g 1 (by simp)
 refine bk ?_
 refine zW (aV hl g0 g1 @aD) ?_
 refine db (fun T' H'=>ad T' 5=.int .i64 0/\Kp H H') rfl ?_ ?_
 ·refine zW (aC hl g0 g1) ?_
  refine XW (jQ C (ty:=0) zF (hs.mono (zG H)) h1024 ⟨hd0,hd,hl',fun r hr z hz=>(hbt r hr z hz).sm zO⟩) fun H2 hk2=>?_
  obtain ⟨k2,_,_⟩:=zT H zK hk2
  refine zW (aB hl @aU) ?_
  exact zK
 rintro T1 H1 hs1 ⟨t5,k1⟩
 have w1:=k1.wf
 have t0:ad T1 0=a:=(hs1.at_ 0 zU).trans (zV (aB hl g0))
 have t1:ad T1 1=s:=(hs1.at_ 1 zU).trans (zV (aB hl g1))
 have t4:ad T1 4=.nilSl:=(hs1.at_ 4 zU).trans (zV hl)
 have hl1:T1.length=55:=hs1.len.trans (by simp only [Sr]; exact hl)
 refine db (fun T' H'=>ad T' 4=.nilSl/\ad T' 5=.int .i64 0/\Kp H H') rfl ?_ ?_
 ·refine zW (aC hl1 t0 t1) ?_
  refine XW (sO C zF (ha.mono (zG H)) zO fun z hz=>(hxe z hz).sm zO) fun H2 hk2=>?_
  obtain ⟨k2,_,_⟩:=zT H zK hk2
  rcases Uu l.length with h0 | h0
  ·have hlv:lenV s=some (.int .i64 0):=by rw [hs.lenV,h0]; rfl
   refine zW (gf hl1 t0 t1 hlv t4 t5 @aU) ?_
   exact zK
  ·obtain ⟨w0,hr0,hld0⟩:=dy (hs.mono k2.sub) h0
   have hix0:co 1 s (.int .i64 0)=some (ap s 0):=Ym hs .i64 0 h0
   have l0:lenV w0=some (.int .i64 (d:Int)):=by rw [hr0.lenV,hl' _ (Sx h0)]
   have la:lenV a=some (.int .i64 (d:Int)):=by rw [ha.lenV,hx]
   have hpos:(0:Int)<(l.length:Int):=by omega
   refine zW (xK hl1 t0 t1 hs.lenV hpos h0 hix0 hld0 l0 la t4 t5 @aU) ?_
   exact zK
 rintro T2 H2 hs2 ⟨t4',t5',k2⟩
 have w2:=k2.wf
 have t0':ad T2 0=a:=(hs2.at_ 0 zU).trans t0
 have t1':ad T2 1=s:=(hs2.at_ 1 zU).trans t1
 have hl2:T2.length=55:=hs2.len.trans hl1
 refine Yx ?_
 refine zW (aV hl2 t0' t1' hs.lenV) ?_
 refine am H [4] (fun j vs H'=>∃ o,vs=[o]/\Ah H H' o ((l.take j).map fun r=>iv (Lin.dot x r))) (a:=0) (N:=l.length) rfl (by refine zW hl2 ?_; rfl) (zV hl2) (SH _) zO (by simp only [Sr,hl2]; rfl) rfl (fun j vs H' m ⟨o,h1,h2⟩=>⟨o,h1,h2.mono (Ys H' m)⟩) zK ⟨.nilSl,by exact zV (aB hl2 t4'),Bl.nil⟩ ?_ ?_
 ·rintro j T3 H3 _ hj hl3 hi3 hs3 hk3 ⟨o,hv,ho⟩
  have w3:=hk3.wf
  have le_hk3:=hk3.le
  simp only [SA,SD,SB,and_true] at hv
  have t33:ad T3 33=s:=(hs3.at_ 33 zU).trans (zV hl2)
  have t00:ad T3 0=a:=(hs3.at_ 0 zU).trans (zV (aB hl2 t0'))
  obtain ⟨w,hr,hld⟩:=dy (hs.mono hk3.sub) hj
  have hix:=Ym hs .i64 j hj
  have hj':=Sx hj
  have hlr:=hl' _ hj'
  simp only [Sr,hl2] at hl3
  refine zW (eW hl3 t33 t00 hi3 hix hld) ?_
  refine XX (rO C zF (ha.mono (zG H)) (hr.mono (zG H3)) zO zO hxe (hbt _ hj') hb) ?_
  rintro v H4 ⟨r,rfl,⟨w4,rfl,hr4⟩,hk4⟩
  obtain ⟨k34,_,_⟩:=zT H3 zK hk4
  have w4':=k34.wf
  have n4:H3.next+12<=H4.next:=hk4.le
  have f4:H4.get (H3.next+9)=none:=hk4.free (show _<H3.next+12 by omega) (w3.fresh (b:=H3.next+9) zO)
  have ow:=hr4.one
  have m9:NoTy [ae] H4 (H3.next+9):=Yf f4
  refine zW (aB hl3 hv) ?_
  refine XW (nM C (x:=Lin.dot x l[j]) zF ⟨w4,rfl,Yn (E:=bT cm) zS hr4⟩ ((oF hxe (hbt _ hj') zO zO).sm hb)) fun H5 hk5=>?_
  obtain ⟨k35,_,_⟩:=zT H3 zK hk5
  have k5:Kp H H5:=hk3.trans k35
  have le_k5:=k5.le
  have ho5:=ho.mono k35.sub
  have hlen:((l.take j).map fun r=>iv (Lin.dot x r)).length=j:=by simp; omega
  obtain ⟨n,H6,e1,h2,k6,n6,-⟩:=Bl.push (ty2:=fW) (bytes:=8) (id:=H5.next+3) (id2:=H5.next+2) (k:=5) (cs:=[.int .i64 (iv (Lin.dot x l[j]))]) (a:=iv (Lin.dot x l[j])) ho5 (fun h=>by cases h) k5 ⟨_,rfl,rfl⟩ zO zO zO zO zO zO zO
  have e1':cN ((H5.up 5).put (H5.next+2) (.cells [.int .i64 (iv (Lin.dot x l[j]))] fW true)) (H5.next+3) 1 8 fW o (.own (H5.next+2) 0 1 1 1 true)=some (.own (H5.next+3) 0 n n 1 false,H6):=e1
  refine zW (aC hl3 hv e1') ?_
  refine ⟨k6,_,rfl,?_⟩
  rw [SF hj,Tq]
  exact h2
 ·rintro T3 H3 hl3 hs3 hk3 ⟨o,hv,ho⟩
  simp only [SA,SD,SB,and_true] at hv
  have t5'':ad T3 5=.int .i64 0:=(hs3.at_ 5 zU).trans (zV (aB hl2 t5'))
  simp only [Sr,hl2] at hl3
  rw [S2] at ho
  refine zW (aV hl3 hv t5'' hrs) ?_
  exact ⟨o,rfl,ho,hk3⟩
end
section
variable {tab:Nat->Option aw} {base i k:Nat} {T0:Tm} {dst:Option Nat} {op:AOp} {us:List (Nat × Option Nat)} {adds:List Nat} {ds:List jm} {Vs:List AV} {Cs:List Heap} {Es:List (Option Ent)} {Q:DS->Prop}
theorem qA {t:Nat} {w:Bool}:WD tab base T0 i (⟨dst,op,some (t,w),us,2,[(k,adds)]⟩ :: ds) ⟨Vs,Cs,Es⟩ Q =
  lO (ad (ct T0 Vs us) t) w (kW tab (Src.ev (ct T0 Vs us)) (dC base Es (Cs.getD k default) adds) (base+i) op fun v H'=>WD tab base T0 (i+1) ds ⟨Vs++[v],Cs++[H'],Es++[none]⟩ Q) (WD tab base T0 (i+1) ds ⟨Vs++[.tup []],Cs++[dC base Es (Cs.getD k default) adds],Es++[none]⟩ Q) () ():=by
 rw [BA]
 have hw:b7 (ct T0 Vs us) (some (t,w))=match ad (ct T0 Vs us) t with | .bool b=>some (b == w) | .tup []=>some false | _=>none:=by
  generalize ct T0 Vs us=T
  unfold ad
  rw [Ss]
  cases h:T[t]? with
  | none=>simp only [b7,h]; rfl
  | some v =>
   simp only [b7,h,Uc]
   cases v with
   | tup vs=>cases vs <;> rfl
   | _=>rfl
 conv=>lhs; unfold wd
 simp only [hw,lO]
 cases ad (ct T0 Vs us) t with
 | bool b=>cases b <;> cases w <;> rfl
 | tup vs=>cases vs <;> rfl
 | _=>rfl
end
theorem zX {F P Q:Prop} (f:F) (q:Q) (h:F->Q->P:=by intro h q; simp -dsimp (maxSteps:=1000000) (disch:=(first | omega | assumption | exact aQ _ | exact bf _ _ | exact bp | exact cz _ _ _ | exact bF _ _ | exact bo _ _ _ _ _ _ | exact cJ _ _ | exact bH _)) only [↓sL,sK,↓QS,QR,↓qA,Nat.reduceLT,Nat.reduceEqDiff,Nat.reduceAdd,reduceIte,reduceCtorEq,Nat.reduceBEq,Int.reduceEq,Int.reduceLT,Int.reduceLE,Int.reduceAdd,Int.reduceSub,h]; exact q):P:=h f q
def M6 (a b:Nat):Nat:=(BitVec.ofNat 64 a &&& ~~~ BitVec.ofNat 64 b).toNat
theorem QD (a b:Nat):M6 a b<18446744073709551616:=(BitVec.ofNat 64 a &&& ~~~ BitVec.ofNat 64 b).isLt
theorem qK (a:Nat):BitVec.ofInt 64 (a:Int)=BitVec.ofNat 64 a:=by
 apply BitVec.eq_of_toNat_eq
 simp
theorem J9 {a b:Nat} (ha:a<18446744073709551616) (hb:b<18446744073709551616):bX .and .int (.int .u64 (a:Int)) (.int .u64 (b:Int))=some (.int .u64 ((a &&& b:Nat):Int)):=by
 have e:(BitVec.ofInt 64 (a:Int) &&& BitVec.ofInt 64 (b:Int)).toNat=a &&& b:=by
  rw [qK,qK,BitVec.toNat_and,BitVec.toNat_ofNat,BitVec.toNat_ofNat,Ti zO,Ti zO]
 have hlt:a &&& b<=a:=Nat.and_le_left
 show some (AV.int .u64 (IntKind.u64.wrap ((BitVec.ofInt 64 (a:Int) &&& BitVec.ofInt 64 (b:Int)).toNat:Nat)))=_
 rw [e,gg zO zO]
theorem CL (a b:Nat):bX .andNot .int (.int .u64 (a:Int)) (.int .u64 (b:Int))=some (.int .u64 ((M6 a b:Nat):Int)):=by
 have hlt:=QD a b
 show some (AV.int .u64 (IntKind.u64.wrap ((BitVec.ofInt 64 (a:Int) &&& ~~~ BitVec.ofInt 64 (b:Int)).toNat:Nat)))=_
 rw [qK,qK]
 show some (AV.int .u64 (IntKind.u64.wrap ((M6 a b:Nat):Int)))=_
 rw [gg zO zO]
theorem MR {a b:Nat}:M6 a b=0 ↔ ∀ j,j<64->a.testBit j=true->b.testBit j=true:=by
 unfold M6
 constructor
 ·intro h j hj ha
  have h1:(BitVec.ofNat 64 a &&& ~~~ BitVec.ofNat 64 b).getLsbD j=false:=by
   rw [<- BitVec.testBit_toNat,h]; simp
  rw [BitVec.getLsbD_and,BitVec.getLsbD_not,BitVec.getLsbD_ofNat,BitVec.getLsbD_ofNat,decide_eq_true hj] at h1
  simpa [ha] using h1
 ·intro h
  have h1:(BitVec.ofNat 64 a &&& ~~~ BitVec.ofNat 64 b)=0#64:=by
   apply BitVec.eq_of_getLsbD_eq
   intro j hj
   have:=h j hj
   rw [BitVec.getLsbD_and,BitVec.getLsbD_not,BitVec.getLsbD_ofNat,BitVec.getLsbD_ofNat,decide_eq_true hj]
   cases ha:a.testBit j with
   | false=>simp
   | true=>simp [this ha]
  rw [h1]; rfl
structure MaskUp (bs:List Bool) (k:Nat) (W:List Nat):Prop where
 len:W.length=bs.length / 64+1
 lt:∀ i,W.getD i 0<18446744073709551616
 bit:∀ i j,j<64->(W.getD i 0).testBit j=(decide (64*i+j<k) && bs.getD (64*i+j) false)
abbrev oO (bs:List Bool) (W:List Nat):Prop:=MaskUp bs bs.length W
theorem MaskUp.zero (bs:List Bool):MaskUp bs 0 (List.replicate (bs.length / 64+1) 0):=by
 have h0:∀ i,(List.replicate (bs.length / 64+1) 0).getD i 0=0:=fun i=>by
  rw [Ss,TK]; split <;> rfl
 exact ⟨by simp,fun i=>by rw [h0]; decide,fun i j _=>by rw [h0]; simp⟩
theorem MaskUp.skip {bs:List Bool} {k:Nat} {W:List Nat} (h:MaskUp bs k W) (hb:bs.getD k false=false):MaskUp bs (k+1) W:=by
 refine ⟨h.len,h.lt,fun i j hj=>?_⟩
 rw [h.bit i j hj]
 by_cases e:64*i+j=k
 ·rw [e,hb]; simp
 ·congr 2
  simp only [eq_iff_iff]
  omega
theorem MaskUp.mark {bs:List Bool} {k:Nat} {W:List Nat} (h:MaskUp bs k W) (hk:k<bs.length) (hb:bs.getD k false=true):MaskUp bs (k+1) (W.set (k / 64) (W.getD (k / 64) 0 ||| 2^(k % 64))):=by
 have hi:k / 64<W.length:=by rw [h.len]; have:=Wp (c:=64) (UA hk); omega
 have hp:(2:Nat)^(k % 64)<2^64:=VJ zU (Ts _ zU)
 have hg:∀ i,(W.set (k / 64) (W.getD (k / 64) 0 ||| 2^(k % 64))).getD i 0=if i=k / 64 then W.getD (k / 64) 0 ||| 2^(k % 64) else W.getD i 0:=fun i=>by
  rw [Ss,UP]
  by_cases e:k / 64=i
  ·subst e; rw [if_pos rfl,if_pos hi,if_pos rfl]; rfl
  ·rw [if_neg e,if_neg (fun e'=>e e'.symm),<- Ss]
 refine ⟨by rw [Sr]; exact h.len,fun i=>?_,fun i j hj=>?_⟩
 ·rw [hg]
  split
  ·have:=h.lt (k / 64)
   have h2:W.getD (k / 64) 0 ||| 2^(k % 64)<2^64:=WY zO hp
   omega
  ·exact h.lt i
 ·rw [hg]
  by_cases ei:i=k / 64
  ·rw [if_pos ei,Nat.testBit_or,<- ei,h.bit i j hj,Nat.testBit_two_pow]
   by_cases e:64*i+j=k
   ·have e2:k % 64=j:=by omega
    rw [e,hb,e2]; simp
   ·have e2:¬ k % 64=j:=by omega
    rw [decide_eq_false e2,W6]
    congr 2
    simp only [eq_iff_iff]
    omega
  ·rw [if_neg ei,h.bit i j hj]
   have e:64*i+j≠k:=by omega
   congr 2
   simp only [eq_iff_iff]
   omega
def Cw (bt ba bb:List Bool):Bool:=(List.range bt.length).all fun k=>!(ba.getD k false && bb.getD k false) || bt.getD k false
theorem D6 {bt ba bb:List Bool} {T A B:List Nat} (ht:oO bt T) (ha:oO ba A) (hb:oO bb B) (h1:ba.length=bt.length) (h2:bb.length=bt.length) :
  Cw bt ba bb=true ↔ ∀ i,i<T.length->M6 (A.getD i 0 &&& B.getD i 0) (T.getD i 0)=0:=by
 have key:∀ i,M6 (A.getD i 0 &&& B.getD i 0) (T.getD i 0)=0 ↔ ∀ j,j<64->64*i+j<bt.length->ba.getD (64*i+j) false=true->bb.getD (64*i+j) false=true->bt.getD (64*i+j) false=true:=fun i=>by
  rw [MR]
  constructor
  ·intro h j hj hlt p q
   have:=h j hj (by rw [Nat.testBit_and,ha.bit i j hj,hb.bit i j hj,p,q,decide_eq_true zO,decide_eq_true zO]; rfl)
   rw [ht.bit i j hj,S7] at this
   exact this.2
  ·intro h j hj hab
   rw [Nat.testBit_and,ha.bit i j hj,hb.bit i j hj] at hab
   simp only [S7,decide_eq_true_eq] at hab
   rw [ht.bit i j hj,S7,decide_eq_true_eq]
   exact ⟨by omega,h j hj zO hab.1.2 hab.2.2⟩
 unfold Cw
 rw [SV]
 constructor
 ·intro h i _
  rw [key]
  intro j _ hlt p q
  have:=h (64*i+j) (by simpa using hlt)
  rw [p,q] at this
  simpa using this
 ·intro h k hk
  have hk:k<bt.length:=by simpa using hk
  have hlt:k / 64<T.length:=by rw [ht.len]; have:=Wp (c:=64) (UA hk); omega
  have hm:=(key (k / 64)).1 (h _ hlt) (k % 64) (Ts _ zU)
  rw [TI] at hm
  cases p:ba.getD k false with
  | false=>simp
  | true =>
   cases q:bb.getD k false with
   | false=>simp
   | true=>simpa using hm hk p q
section
variable {tab:Nat->Option aw} {H:Heap} {s:AV}
theorem MA (C:Code tab) (hw:Wf H) {vt va vb:AV} {bt ba bb:List Bool} {Tw A Bw:List Nat} (ht:Lb H vt Tw) (ha:Lb H va A) (hb:Lb H vb Bw) (mt:oO bt Tw) (ma:oO ba A) (mb:oO bb Bw) (h1:ba.length=bt.length) (h2:bb.length=bt.length) (hbig:bt.length<1099511627776) :
  Ans tab (.fn sq [vt,va,vb]) H fun v H'=>v=.bool (Cw bt ba bb)/\Kp H H':=by
 refine lU C.q131 zU fun T hl g0 g1 g2=>?_
 have hlt:=mt.len
 have hla:=ma.len
 have hlb:=mb.len
 rw [h1] at hla
 rw [h2] at hlb
 have hdiv:bt.length / 64<=bt.length:=U6 _ _
 refine zW (cr hl g0 g1 g2 ht.lenV) ?_
 refine am H [] (fun j _ _=>∀ i,i<j->M6 (A.getD i 0 &&& Bw.getD i 0) (Tw.getD i 0)=0) (a:=0) (N:=Tw.length) rfl (by refine zW (aV hl g0 g1 g2) ?_; rfl) (zV (aV hl g0 g1 g2)) (SH _) zO (by simp only [Sr,hl]; rfl) rfl (fun _ _ _ _ h=>h) zK (fun i h=>by omega) ?_ ?_
 ·intro j T1 H1 _ hj hl1 hi1 hs1 hk1 hP
  have w1:=hk1.wf
  have le_hk1:=hk1.le
  have t9:ad T1 9=vt:=(hs1.at_ 9 zU).trans (zV (aV hl g0 g1 g2))
  have t1:ad T1 1=va:=(hs1.at_ 1 zU).trans (zV (aV hl g0 g1 g2))
  have t2:ad T1 2=vb:=(hs1.at_ 2 zU).trans (zV (aV hl g0 g1 g2))
  have x0:=Ym ht .i64 j hj
  have x1:=Ym ha .i64 j zO
  have x2:=Ym hb .i64 j zO
  have d0:=eZ (ht.mono hk1.sub) hj
  have d1:=eZ (ha.mono hk1.sub) (i:=j) zO
  have d2:=eZ (hb.mono hk1.sub) (i:=j) zO
  have la:=ma.lt j
  have lb:=mb.lt j
  have ba':=J9 la lb
  have bn:=CL (A.getD j 0 &&& Bw.getD j 0) (Tw.getD j 0)
  simp only [Sr,hl] at hl1
  refine zW (cr hl1 t9 hi1 x0 d0) ?_
  refine aH ?_
  refine zD (rc hl1 t9 t1 t2 hi1 x1 x2 d1 d2 ba' bn) ?_
  refine iteH.split (fun hz=>?_) fun hz=>?_
  ·have hz':¬ M6 (A.getD j 0 &&& Bw.getD j 0) (Tw.getD j 0)=0:=by omega
   simp only [iF,jG,iD,kP,UU,UI,qY,oN,WP,W0,U8,Uj]
   refine zW hl1 ?_
   refine ⟨?_,zK⟩
   cases hh:Cw bt ba bb with
   | false=>rfl
   | true=>exact absurd ((D6 mt ma mb h1 h2).1 hh j hj) hz'
  ·have hz':M6 (A.getD j 0 &&& Bw.getD j 0) (Tw.getD j 0)=0:=by omega
   simp only [iF,jG,iD,kP,UU,UI,qY,oN,WP,W0,U8,Uj]
   refine zW hl1 ?_
   refine ⟨zK,fun i hi=>?_⟩
   by_cases e:i=j
   ·subst e; exact hz'
   ·exact hP i zO
 ·intro T1 H1 hl1 hs1 hk1 hP
  simp only [Sr,hl] at hl1
  refine zW hl1 ?_
  exact ⟨by rw [(D6 mt ma mb h1 h2).2 hP],zK⟩
end
theorem OX {k:Nat} (hk:k<4611686018427387904):bX .quo .int (.int .i64 (k:Int)) (.int .i64 64)=some (.int .i64 ((k / 64:Nat):Int)):=LC (c:=64) zO hk
theorem QZ (k:Nat):bX .rem .int (.int .i64 (k:Int)) (.int .i64 64)=some (.int .i64 ((k % 64:Nat):Int)):=LB (c:=64) zO
def zeros (r:List Int) (D:List (List Int)):List Bool:=D.map fun b=>decide (Lin.dot r b=0)
theorem uu (r:List Int) (D:List (List Int)):(zeros r D).length=D.length:=by simp [zeros]
theorem ig (x:Int):iv x=0 ↔ x=0:=by unfold iv; split <;> (try split) <;> omega
section
variable {tab:Nat->Option aw} {H:Heap} {s:AV}
theorem JX (C:Code tab) (hw:Wf H) {ub:Nat} {ql qr qd vr:AV} {r:List Int} {D:List (List Int)} {d e f:Nat} (hub:H.get ub=some (.cells [ql,qr,qd] aO true)) (hqd:dS H qd D) (hr:RowV H vr r) (h1024:D.length<=1024) (hd0:0<d) (hd:d<=64) (hrl:r.length=d) (hDl:∀ x∈D,x.length=d) (hre:∀ z∈r,Bt e z) (hDf:∀ x∈D,∀ z∈x,Bt f z) (hb:e+f+7<=8796093022208) :
  Ans tab (.fn eY [.ptr ub 0,vr]) H fun v H'=>∃ W,Lb H' v W/\oO (zeros r D) W/\Kp H H':=by
 refine bz C.q112 zU fun T hl g0 g1=>?_
 have lub:=hw _ _ hub
 have hq:=OX (k:=D.length) zO
 have hdiv:D.length / 64<=D.length:=U6 _ _
 have e1:IntKind.i64.wrap (((D.length / 64:Nat):Int)+1)=((D.length / 64+1:Nat):Int):=by rw [wrap_i64] <;> omega
 have hmk:∀ H':Heap,Ho H' (H.next+8) ae 1 8 [.int .u64 0] (.int .i64 ((D.length / 64+1:Nat):Int)) (.int .i64 ((D.length / 64+1:Nat):Int))=some (.own (H.next+8) 0 (D.length / 64+1) (D.length / 64+1) 1 true,H'.put (H.next+8) (.cells ((List.replicate (D.length / 64+1) [AV.int .u64 0]).flatten) ae true)):=fun H'=>iW _ _ _ _ _ _ _ _ _ zO zO rfl
 refine zW (ki hl g0 g1 hub hqd.lenV hq e1 hmk) ?_
 refine XX (IQ C zF (hr.mono (zG H)) (hqd.mono (zG H)) h1024 hd0 hd hrl hDl hre hDf hb) ?_
 rintro v H2 ⟨q,rfl,hq2,hk2⟩
 obtain ⟨k2,_,w2⟩:=zT H zK hk2
 have b0:=hk2.get (b:=H.next+8) (e:=.cells (aK (List.replicate (D.length / 64+1) 0)) ae true) (cR)
 have hsl:=hq2.sl
 have hzl:=uu r D
 refine zW (cr hl g0 g1 hsl.lenV @List.length_map.{0,0}) ?_
 have hq2':SlV (bT (F9 .i64)) fW H2 q (D.map fun b=>iv (Lin.dot r b)):=hsl
 refine am H [] (fun j _ H'=>∃ W,H'.get (H.next+8)=some (.cells (aK W) ae true)/\MaskUp (zeros r D) j W/\SlV (bT (F9 .i64)) fW H' q (D.map fun b=>iv (Lin.dot r b))) (a:=0) (N:=D.length) rfl (by refine zW (aC hl g0 g1) ?_; rfl) (zV (aC hl g0 g1)) (SH _) zO (by simp only [Sr,hl]; rfl) rfl (fun j vs H' m ⟨W,h1,h2,h3⟩=>⟨W,h1,h2,h3.mono (Ys H' m)⟩) zK ⟨_,by exact b0,by rw [<- hzl]; exact MaskUp.zero _,hq2'.mono (Ys H2 _)⟩ ?_ ?_
 ·rintro j T1 H1 _ hj hl1 hi1 hs1 hk1 ⟨W,hW,mW,hsW⟩
  have w1:=hk1.wf
  have le_hk1:=hk1.le
  have lt8:=w1 _ _ hW
  have t27:ad T1 27=q:=(hs1.at_ 27 zU).trans (zV (aC hl g0 g1))
  have t5:ad T1 5=.own (H.next+8) 0 (D.length / 64+1) (D.length / 64+1) 1 true:=(hs1.at_ 5 zU).trans (zV (aC hl g0 g1))
  have hsj:(D.map fun b=>iv (Lin.dot r b))[j]? = some (iv (Lin.dot r D[j])):=by simp [hj]
  obtain ⟨c,hc,hld⟩:=Yk hsW hsj
  have hc:c=.int .i64 (iv (Lin.dot r D[j])):=hc
  rw [hc] at hld
  have hix:=Ym hsW .i64 j (by simp; exact hj)
  have hgz:(zeros r D).getD j false=decide (Lin.dot r D[j]=0):=by simp [zeros,hj]
  have hWl:=mW.len
  rw [hzl] at hWl
  have hj64:j / 64<D.length / 64+1:=by have:=Wp (c:=64) (UA hj); omega
  have hj64':j / 64<W.length:=by omega
  have hq':=OX (k:=j) zO
  have hr':=QZ j
  have hmod:j % 64<64:=Ts _ zU
  have hsh:=EQ (r:=j % 64) hmod (k:=.i64)
  have hp:(2:Nat)^(j % 64)<2^64:=VJ zU hmod
  have hor:=um (mW.lt (j / 64)) (b:=2^(j % 64)) zO
  simp only [Sr,hl] at hl1
  refine zW (cr hl1 t27 hi1 hix hld) ?_
  refine iteH.split (fun h=>?_) fun h=>?_
  ·have hz:=(ig _).1 h
   refine aH ?_
   refine zD (rM hl1 t5 hi1 hq' hr' hsh hor hW hj64 hj64') ?_
   have m8:NoTy [fW] H1 (H.next+8):=Yg hW zU
   refine ⟨zK,_,rfl,mW.mark (by rw [hzl]; exact hj) (by rw [hgz,decide_eq_true hz]),Yn (E:=bT (F9 .i64)) zS hsW⟩
  ·have hz:¬ Lin.dot r D[j]=0:=fun e=>h ((ig _).2 e)
   refine zW hl1 ?_
   exact ⟨zK,W,hW,mW.skip (by rw [hgz,decide_eq_false hz]),hsW.mono (Ys H1 _)⟩
 ·rintro T1 H1 hl1 hs1 hk1 ⟨W,hW,mW,hsW⟩
  have w1:=hk1.wf
  have le_hk1:=hk1.le
  have t5:ad T1 5=.own (H.next+8) 0 (D.length / 64+1) (D.length / 64+1) 1 true:=(hs1.at_ 5 zU).trans (zV (aC hl g0 g1))
  simp only [Sr,hl] at hl1
  have hWl:=mW.len
  rw [hzl] at hWl
  refine zW (aB hl1 t5) ?_
  rw [<- hzl] at mW
  exact ⟨W,(tp (H0:=H) hW zO hWl).sl.mono (Ys H1 _),mW,zK⟩
abbrev QG (H:Heap) (v:AV) (Ws:List (List Nat)):Prop:=xJ (rl (bT cm) ae) eF H v Ws
def yE (zs:List (List Bool)) (i k:Nat):Bool:=(List.range zs.length).all fun t=>t == i || t == k || !Cw (zs.getD t []) (zs.getD i []) (zs.getD k [])
theorem JW (C:Code tab) (hw:Wf H) {vm:AV} {Ws:List (List Nat)} {zs:List (List Bool)} {n i k:Nat} (hm:QG H vm Ws) (hl':Ws.length=zs.length) (hok:∀ t (h:t<zs.length) (h':t<Ws.length),oO zs[t] Ws[t]) (hn:∀ z∈zs,z.length=n) (hbig:n<1099511627776) (hbig2:zs.length<1099511627776) (hi:i<zs.length) (hk:k<zs.length) :
  Ans tab (.fn mg [vm,.int .i64 (i:Int),.int .i64 (k:Int)]) H fun v H'=>v=.bool (yE zs i k)/\Kp H H':=by
 refine lU C.q113 zU fun T hl g0 g1 g2=>?_
 refine zW (cr hl g0 g1 g2 hm.lenV) ?_
 refine am H [] (fun j _ _=>∀ t,t<j->(t == i || t == k || !Cw (zs.getD t []) (zs.getD i []) (zs.getD k []))=true) (a:=0) (N:=Ws.length) rfl (by refine zW (aV hl g0 g1 g2) ?_; rfl) (zV (aV hl g0 g1 g2)) (SH _) zO (by simp only [Sr,hl]; rfl) rfl (fun _ _ _ _ h=>h) zK (fun i h=>by omega) ?_ ?_
 ·rintro j T1 H1 _ hj hl1 hi1 hs1 hk1 hP
  have w1:=hk1.wf
  have le_hk1:=hk1.le
  have t9:ad T1 9=vm:=(hs1.at_ 9 zU).trans (zV (aV hl g0 g1 g2))
  have t0:ad T1 0=vm:=(hs1.at_ 0 zU).trans (zV (aV hl g0 g1 g2))
  have t1:ad T1 1=.int .i64 (i:Int):=(hs1.at_ 1 zU).trans (zV (aV hl g0 g1 g2))
  have t2:ad T1 2=.int .i64 (k:Int):=(hs1.at_ 2 zU).trans (zV (aV hl g0 g1 g2))
  have hm1:=hm.mono hk1.sub
  have hi':i<Ws.length:=by omega
  have hk':k<Ws.length:=by omega
  have hj':j<zs.length:=by omega
  obtain ⟨wj,hrj,hldj⟩:=Yk hm1 (Sv hj)
  obtain ⟨wi,hri,hldi⟩:=Yk hm1 (Sv hi')
  obtain ⟨wk,hrk,hldk⟩:=Yk hm1 (Sv hk')
  have hrj:Lb H1 wj Ws[j]:=hrj
  have hri:Lb H1 wi Ws[i]:=hri
  have hrk:Lb H1 wk Ws[k]:=hrk
  have xj:=Ym hm .i64 j hj
  have xi:=Ym hm .i64 i hi'
  have xk:=Ym hm .i64 k hk'
  have gj:zs.getD j []=zs[j]:=by simp [hj']
  have gi:zs.getD i []=zs[i]:=by simp [hi]
  have gk:zs.getD k []=zs[k]:=by simp [hk]
  simp only [Sr,hl] at hl1
  refine zW (cr hl1 t9 hi1 xj hldj) ?_
  refine aH ?_
  by_cases hji:j=i
  ·subst hji
   refine zD (gf hl1 t0 t1 t2 hi1 @qA @aR) ?_
   refine ⟨zK,fun t ht=>?_⟩
   by_cases e:t=j
   ·subst e; simp
   ·exact hP t zO
  ·have hji':¬ (j:Int)=(i:Int):=by omega
   by_cases hjk:j=k
   ·subst hjk
    refine zD (kj hl1 t0 t1 t2 hi1 @qA @aR hji hji') ?_
    refine ⟨zK,fun t ht=>?_⟩
    by_cases e:t=j
    ·subst e; simp
    ·exact hP t zO
   ·have hjk':¬ (j:Int)=(k:Int):=by omega
    refine zD (Pi hl1 t0 t1 t2 hi1 @qA @aR hji hji' hjk hjk' xi xk hldi hldk) ?_
    have lj:=hn _ (Sx hj')
    have li:=hn _ (Sx hi)
    have lk:=hn _ (Sx hk)
    refine XW (MA C zF (hrj.mono (zG H1)) (hri.mono (zG H1)) (hrk.mono (zG H1)) (hok j hj' hj) (hok i hi hi') (hok k hk hk') zO zO zO) fun H2 hk2=>?_
    obtain ⟨k2,_,_⟩:=zT H1 zK hk2
    have k02:Kp H H2:=hk1.trans k2
    have le_k02:=k02.le
    cases hh:Cw zs[j] zs[i] zs[k] with
    | true =>
     refine zD (Pi hl1 t0 t1 t2 hi1 @qA @aR hji hji' hjk hjk' xi xk hldi hldk) ?_
     refine ⟨?_,zK⟩
     cases hn':yE zs i k with
     | false=>rfl
     | true =>
      unfold yE at hn'
      rw [SV] at hn'
      have:=hn' j (by simpa using hj')
      rw [gj,gi,gk,hh] at this
      simp [hji,hjk] at this
    | false =>
     refine zD (Pi hl1 t0 t1 t2 hi1 @qA @aR hji hji' hjk hjk' xi xk hldi hldk) ?_
     refine ⟨zK,fun t ht=>?_⟩
     by_cases e:t=j
     ·subst e; rw [gj,gi,gk,hh]; simp
     ·exact hP t zO
 ·rintro T1 H1 hl1 hs1 hk1 hP
  simp only [Sr,hl] at hl1
  refine zW hl1 ?_
  refine ⟨?_,zK⟩
  have:yE zs i k=true:=by
   unfold yE
   rw [SV]
   intro t ht
   exact hP t (by simp at ht; omega)
  rw [this]
end
theorem KG {tab:Nat->Option aw} (ev:Src->AV) (H:Heap) (id:Nat) (Q:AV->Heap->Prop) (size:Nat) (z:List AV) (x:Src) :
  kW tab ev H id (.clear size z x) Q=gr (p8 H size z (ev x)) (fun H'=>Q (.tup []) H') ():=by
 rw [bY,gK tab ev H id Q (o:=.clear size z x) (fun f a e=>by cases e) rfl]
 show g8 ((p8 H size z (ev x)).map fun H'=>(AV.tup [],H')) _=_
 cases p8 H size z (ev x) <;> rfl
theorem Kp.at_ {H0 H H':Heap} {b:Nat} (hk:Kp H0 H) (hg:∀ c,c≠b->H'.get c=H.get c) (hn:H'.next=H.next) (hb0:H0.next<=b) (hlt:b<H.next):Kp H0 H' :=
 ⟨hk.wf0,fun c e hc=>by
  by_cases h:c=b
  ·rw [h,hn]; exact hlt
  ·rw [hn]; exact hk.wf c e (by rw [<- hg c h]; exact hc),by rw [hn]; exact hk.le,fun c hc=>by rw [hg c zO]; exact hk.same c hc⟩
section
variable {tab:Nat->Option aw} {H:Heap} {s:AV}
theorem qz (C:Code tab) (hw:Wf H) {fi:Nat} {first caps:List AV} {l:List (List Int)} (hs:dS H s l) (hbig:l.length<4611686018427387904) (p:List Int->Bool)
  (hf:∀ r∈l,∀ H' w,Kp H H'->RowV H' w r->Ans tab (.fn fi (first++[w]++caps)) H' fun v H2=>v=.bool (p r)/\Kp H' H2) :
  Ans tab (.fn b9 [s,.fn (.func fi) first caps]) H fun v H'=>v=.int .i64 (lM p l)/\Kp H H':=by
 refine bz C.q83 zU fun T hl g0 g1=>?_
 refine zW (aV hl g0 g1 hs.lenV) ?_
 refine am H [] (fun j _ _=>∀ k (h:k<l.length),k<j->p l[k]=false) (a:=0) (N:=l.length) rfl (by refine zW (aC hl g0 g1) ?_; rfl) (zV (aC hl g0 g1)) (SH _) zO (by simp only [Sr,hl]; rfl) rfl (fun _ _ _ _ h=>h) zK (fun k _ h=>by omega) ?_ ?_
 ·intro j T1 H1 _ hj hl1 hi1 hs1 hk1 hP
  have w1:=hk1.wf
  have le_hk1:=hk1.le
  have t0:ad T1 0=s:=(hs1.at_ 0 zU).trans (zV (aC hl g0 g1))
  have t1:ad T1 1=.fn (.func fi) first caps:=(hs1.at_ 1 zU).trans (zV (aC hl g0 g1))
  obtain ⟨w,hr,hld⟩:=dy (hs.mono hk1.sub) hj
  have hix:=Ym hs .i64 j hj
  simp only [Sr,hl] at hl1
  refine zW (eW hl1 t0 t1 hi1 hix hld) ?_
  refine XW (hf _ (Sx hj) _ w zK (hr.mono (zG H1))) fun H2 hk2=>?_
  obtain ⟨k2,_,_⟩:=zT H zK hk2
  cases hp:p l[j] with
  | true =>
   refine zW hl1 ?_
   exact ⟨by rw [qO hj hP hp],zK⟩
  | false =>
   refine zW hl1 ?_
   refine ⟨zK,fun k h hk=>?_⟩
   by_cases e:k=j
   ·subst e; exact hp
   ·exact hP k h zO
 ·intro T1 H1 hl1 hs1 hk1 hP
  simp only [Sr,hl] at hl1
  refine zW hl1 ?_
  exact ⟨by rw [lJ fun k h=>hP k h h],zK⟩
theorem GN (C:Code tab) (hw:Wf H) {l:List (List Int)} (hs:dS H s l) (h0:0<l.length) (hbig:l.length<1099511627776):Ans tab (.fn cK [s]) H fun v H'=>Kp H H'/\∃ b,Own rowsE af H H' b false v l:=by
 refine cQ C.q117 zU fun T hl g0=>?_
 rcases hs.nilcase with ⟨rfl,rfl⟩ | hne
 ·simp at h0
 ·have ef:cX ([]:List AV) []=some []:=rfl
  refine zW (aV hl g0 hne ef) ?_
  have k1:Kp H ((H.up 7).put (H.next+3) (.cells [] af true)):=zK
  have le_k1:=k1.le
  have hz:SlV rowsE af ((H.up 7).put (H.next+3) (.cells [] af true)) (.own (H.next+3) 0 0 0 1 true) ([]:List (List Int)) :=
   (show Own rowsE af H _ (H.next+3) true _ [] from ⟨_,rfl,au _ _ _,X1 _ _,by omega⟩).sl
  obtain ⟨v',H2,e1,h2,hk2,hn2,hs2,ho⟩:=SlV.app (l:=[]) (id:=H.next+5) (bytes:=24) hz k1 (hs.mono k1.sub) zO (by show _<H.next+7; omega) (by rw [az zO]; exact hw.fresh (b:=H.next+5) zO) (by simp; omega) (by simp; omega)
  have e1':cN ((H.up 7).put (H.next+3) (.cells [] af true)) (H.next+5) 1 24 af (.own (H.next+3) 0 0 0 1 true) s=some (v',H2):=e1
  refine zW (aC hl g0 e1') ?_
  exact ⟨hk2,_,ho h0⟩
theorem Ox {H':Heap} {b n i:Nat} {cells:List AV} (hb:H'.get b=some (.cells cells af true)) (hn:cells.length=n) (hi:i<n) (hbig:n<1099511627776) (hones:cells.all AV.one=true) :
  ∃ y H2 cells2,bD 1 (.own b 0 n n 1 false) (some (.int .i64 ((i+1:Nat):Int))) none none=some y/\(∀ id,cN H' id 1 24 af (.own b 0 i n 1 false) y=some (.own b 0 (n-1) n 1 false,H2))/\H2.get b=some (.cells cells2 af true)/\cells2.take (n-1)=cells.eraseIdx i/\cells2.length=n/\(∀ c,c≠b->H2.get c=H'.get c)/\H2.next=H'.next:=by
 have he:cells.eraseIdx i=cells.take i++cells.drop (i+1):=UW ..
 by_cases h:i+1<n
 ·refine ⟨.own b (0+(i+1)*1) (n-(i+1)) (n-(i+1)) 1 false,H'.put b (.cells (cells.take (0+i*1)++cells.drop (i+1)++cells.drop (0+i*1+(n-(i+1))*1)) af true),_,?_,fun id=>?_,au _ _ _,?_,?_,fun c hc=>az hc,rfl⟩
  ·show bE 1 (.own b 0 n n 1 false) (some (.int .i64 ((i+1:Nat):Int))) none none=_
   simp only [bE,e9,ne_eq,not_true_eq_false,if_false,Su,TR,Ux,Un,Up,Uc]
   rw [if_pos ⟨Sz _,by omega⟩,if_pos (.inl h)]
  ·have hf:aL H' 1 (n-(i+1)) (.own b (0+(i+1)*1) (n-(i+1)) (n-(i+1)) 1 false)=some (cells.drop (i+1)):=by
    simp only [aL,hb]
    rw [if_pos ⟨trivial,Sz _,by omega⟩]
    rw [SS (by simp; omega)]
    simp
   have hones2:(cells.drop (i+1)).all AV.one=true:=by
    rw [SV] at hones ⊢
    exact fun x hx=>hones x (Vi hx)
   unfold cN
   simp only [gP]
   rw [hf]
   simp only [cI,hb]
   rw [if_pos ⟨trivial,by omega,by omega,trivial,by omega⟩,if_pos zO,if_neg zO,if_pos ⟨trivial,hones2⟩]
   congr 3
   omega
  ·rw [he,U0 (by simp; omega),SS (by simp; omega)]
   simp
  ·simp; omega
 ·have hi':n=i+1:=by omega
  refine ⟨.sl [] 0,H',cells,?_,fun id=>?_,hb,?_,hn,fun _ _=>rfl,rfl⟩
  ·show bE 1 (.own b 0 n n 1 false) (some (.int .i64 ((i+1:Nat):Int))) none none=_
   simp only [bE,e9,ne_eq,not_true_eq_false,if_false,Su,TR,Ux,Un,Up,Uc]
   rw [if_pos ⟨Sz _,by omega⟩,if_neg zO]
   simp
  ·unfold cN
   simp only [gP,aL]
   simp only [cI,hb]
   simp
   refine ⟨by omega,?_⟩
   have e:n-1=i:=by omega
   rw [if_pos zO,e]
  ·rw [he,Vx zO,TZ]
   congr 1
   omega
theorem Fa (C:Code tab) {H0:Heap} {v:AV} {l:List (List Int)} {i b:Nat} (hk:Kp H0 H) (hs:Own rowsE af H0 H b false v l) (hi:i<l.length) (hbig:l.length<1099511627776) :
  Ans tab (.fn cD [v,.int .i64 (i:Int),.int .i64 ((i+1:Nat):Int)]) H fun v' H'=>v'=.own b 0 (l.length-1) l.length 1 false/\Kp H0 H'/\(∃ cells,H'.get b=some (.cells cells af true)/\cells.length=l.length/\Cells rowsE H' (cells.take (l.length-1)) (l.eraseIdx i))/\∀ c,c≠b->H'.get c=H.get c:=by
 obtain ⟨cells,hv,hb,hcl,hb0⟩:=hs
 have hv:v=.own b 0 l.length l.length 1 false:=hv
 subst hv
 have hn:cells.length=l.length:=by have:=hcl.1; simpa [bT] using this
 have hlt:=hk.wf _ _ hb
 have hones:=hcl.ones
 obtain ⟨n,hln⟩:∃ n,l.length=n:=⟨_,rfl⟩
 rw [hln] at hn hi hbig ⊢
 refine lU C.q118 zU fun T hl g0 g1 g2=>?_
 have e13:bD 1 (.own b 0 n n 1 false) (some (.int .i64 (i:Int))) (some (.int .i64 ((i+1:Nat):Int))) (some (.int .i64 (n:Int)))=some (.own b (0+i*1) (i+1-i) (n-i) 1 true):=by
  simp only [bD,bE,e9,ne_eq,not_true_eq_false,if_false,Su,TR,Ux,Un,Up,Uc]
  rw [if_pos ⟨Sz _,by omega,by omega⟩,if_neg zO]
 have hne1:¬ (i:Int)=((i+1:Nat):Int):=by omega
 have hne2:¬ i=i+1:=by omega
 have x22:=FN b 0 n n 1 i false .i64 (UA hi)
 obtain ⟨y,H2,cells2,hy,happ,q2,qt,ql,qo,qn⟩:=Ox (H':=H.up 21) (b:=b) (i:=i) hb hn hi hbig hones
 have hsl:bD 1 (.own b 0 (n-1) n 1 false) (some (.int .i64 ((n-1:Nat):Int))) (some (.int .i64 (n:Int))) none=some (.own b (n-1) 1 1 1 false):=by
  simp only [bD,bE,e9,ne_eq,not_true_eq_false,if_false,Su,TR,Ux,Un,Up,Uc]
  rw [if_pos ⟨Sz _,by omega⟩,if_pos (.inl zO)]
  congr 2 <;> omega
 have hclr:∀ X:Heap,X.get b=some (.cells cells2 af true)->p8 X 1 [.nilSl] (.own b (n-1) 1 1 1 false)=some (X.put b (.cells (cells2.take (n-1)++(List.replicate 1 [AV.nilSl]).flatten++cells2.drop (n-1+1*1)) af true)):=fun X hX=>by
  simp only [p8,hX]
  rw [if_neg zO,if_pos ⟨trivial,by omega,rfl,rfl⟩]
 have hclr2:=hclr (H2.up 6) q2
 refine zW (gf hl g0 g1 g2 e13 hne1 hne2) ?_
 refine aH ?_
 simp -dsimp (maxSteps:=1000000) (disch:=(first | omega | assumption | exact aQ _ | exact bf _ _ | exact bp | exact cz _ _ _ | exact bF _ _ | exact bo _ _ _ _ _ _ | exact cJ _ _ | exact bH _)) only [↓sL,sK,↓QS,QR,Nat.reduceLT,Nat.reduceEqDiff,Nat.reduceAdd,reduceIte,reduceCtorEq,Nat.reduceBEq,Int.reduceEq,Int.reduceLT,Int.reduceLE,Int.reduceAdd,Int.reduceSub,hl,g0,g1,g2,x22,hy,happ,Hu,hsl,↓KG,hclr2]
 obtain ⟨cells3,hc3⟩:∃ c,c=cells2.take (n-1)++(List.replicate 1 [AV.nilSl]).flatten++cells2.drop (n-1+1):=⟨_,rfl⟩
 rw [<- hc3]
 have k2:Kp H0 H2:=(hk.up 21).at_ qo qn hb0 (by show b<H.next+21; omega)
 have le_k2:=k2.le
 have lt2:b<H2.next:=by rw [qn]; show _<H.next+21; omega
 have sH:SubT (rl intE aa).tys H ((H2.up 8).put b (.cells cells3 af true)):=fun c cs t r ht hc=>by
  have hcb:c≠b:=fun e=>by
   subst e
   rw [hb] at hc; cases hc
   revert ht; decide
  rw [az hcb]
  exact (qo c hcb).trans hc
 have ht3:cells3.take (n-1)=cells.eraseIdx i:=by
  rw [hc3,UD,U0 (by simp; omega),SS (by simp; omega),qt]
 have hl3:cells3.length=n:=by rw [hc3]; simp; omega
 refine ⟨zK,⟨cells3,rfl,hl3,?_⟩,fun c hc=>?_⟩
 ·rw [ht3,UW,UW]
  have h1:=(hcl.mono sH).take (n:=i) zO
  have h2:=(hcl.mono sH).drop (i+1)
  have h3:=h1.append h2
  have es:rowsE.sz=1:=rfl
  rw [es,TW,TW] at h3
  exact h3
 ·rw [az hc]; exact qo c hc
end
def Sep (v w:AV):Prop:=∀ b,jB v=some b->jB w≠some b
theorem Sep.symm {v w:AV} (h:Sep v w):Sep w v:=fun b h1 h2=>h b h2 h1
def Wr (H0 H:Heap) (v:AV) (l:List (List Int)) (c:Nat):Prop :=
 (v=.nilSl/\l=[])\/∃ b cells,v=.own b 0 l.length c 1 false/\H.get b=some (.cells cells af true)/\cells.length=c/\l.length<=c/\Cells rowsE H (cells.take l.length) l/\H0.next<=b
theorem Wr.sl {H0 H:Heap} {v:AV} {l:List (List Int)} {c:Nat} (h:Wr H0 H v l c):dS H v l:=by
 rcases h with ⟨rfl,rfl⟩ | ⟨b,cells,rfl,hb,hc,hl,hcl,-⟩
 ·exact Yo _ _ _
 ·refine ⟨_,⟨hl,(fun s h=>by cases h),l.length,rfl,?_⟩,fun _ _ _ _ _ _ e=>by cases e; exact ⟨_,_,hb⟩,hcl⟩
  simp only [aL,hb]
  rw [if_pos ⟨rfl,Sz _,by show 0+l.length*1<=_; omega⟩]
  show some ((cells.drop 0).take (l.length*1))=_
  rw [List.drop_zero,TW]
theorem Bl.wr {H0 H:Heap} {v:AV} {l:List (List Int)} (h:Bl rowsE af H0 H v l):Wr H0 H v l l.length:=by
 rcases h with h | ⟨b,cells,h1,h2,h3,h4⟩
 ·exact .inl h
 ·have hc:cells.length=l.length:=by have:=h3.1; simpa [bT] using this
  exact .inr ⟨b,cells,h1,h2,hc,Sz _,by rw [<- hc,S2]; exact h3,h4⟩
theorem Wr.bl {H0 H:Heap} {v:AV} {l:List (List Int)} (h:Wr H0 H v l l.length):Bl rowsE af H0 H v l:=by
 rcases h with h | ⟨b,cells,h1,h2,h3,h4,h5,h6⟩
 ·exact .inl h
 ·rw [<- h3,S2] at h5
  exact .inr ⟨b,cells,h1,h2,h5,h6⟩
theorem Wr.mono {H0 H H':Heap} (hs:Sub H H') {v:AV} {l:List (List Int)} {c:Nat} (h:Wr H0 H v l c):Wr H0 H' v l c:=by
 rcases h with h | ⟨b,cells,h1,h2,h3,h4,h5,h6⟩
 ·exact .inl h
 ·exact .inr ⟨b,cells,h1,hs.get _ _ h2,h3,h4,h5.mono (hs.t _),h6⟩
theorem Wr.base {H0 H1 H:Heap} (hs:H0.next<=H1.next) {v:AV} {l:List (List Int)} {c:Nat} (h:Wr H1 H v l c):Wr H0 H v l c:=by
 rcases h with h | ⟨b,cells,h1,h2,h3,h4,h5,h6⟩
 ·exact .inl h
 ·exact .inr ⟨b,cells,h1,h2,h3,h4,h5,SM hs h6⟩
theorem Wr.put {H0 H:Heap} {v:AV} {l:List (List Int)} {c b:Nat} {e:Ent} (h:Wr H0 H v l c) (hb:jB v≠some b) (ht:NoTy (rl intE aa).tys H b):Wr H0 (H.put b e) v l c:=by
 rcases h with h | ⟨b',cells,h1,h2,h3,h4,h5,h6⟩
 ·exact .inl h
 ·refine .inr ⟨b',cells,h1,?_,h3,h4,h5.mono (Yu (Yv _ _) ht),h6⟩
  rw [az (fun e1=>hb (by rw [h1,e1]; rfl))]
  exact h2
theorem Wr.old {H0 H:Heap} {v:AV} {l:List (List Int)} {c b:Nat} (hw:Wf H) (h:Wr H0 H v l c) (hb:jB v=some b):b<H.next:=by
 rcases h with ⟨rfl,-⟩ | ⟨b',cells,rfl,h2,-⟩
 ·cases hb
 ·cases hb; exact hw _ _ h2
theorem RowV.put_ne {H:Heap} {v:AV} {l:List Int} {b:Nat} {e:Ent} (h:RowV H v l) (hb:jB v≠some b) (hn:NoTy [ae] H b):RowV (H.put b e) v l:=by
 obtain ⟨cells,⟨h0,h1,n,h2,h3⟩,ht,hc⟩:=h
 refine ⟨cells,⟨h0,h1,n,h2,?_⟩,fun b' off n' c z x e'=>?_,hc.mono (Yu (Yv _ _) hn)⟩
 ·unfold aL at h3 ⊢
  split at h3
  ·rename_i b' off m c sz ex
   rw [az (fun e1=>hb (by rw [<- e1]; rfl))]; exact h3
  ·exact h3
  ·exact h3
  ·exact h3
  ·cases h3
 ·obtain ⟨cs,r,hb'⟩:=ht b' off n' c z x e'
  exact ⟨cs,r,by rw [az (fun e1=>hb (by rw [e',<- e1]; rfl))]; exact hb'⟩
theorem Wr.store {H0 H:Heap} {v va:AV} {l:List (List Int)} {x:List Int} {c j:Nat} (h:Wr H0 H v l c) (hj:j<l.length) (hx:RowV H va x) :
  ∃ b cells,jB v=some b/\H0.next<=b/\H.get b=some (.cells cells af true)/\j<cells.length/\co 1 v (.int .i64 (j:Int))=some (.ptr b j)/\Wr H0 (H.put b (.cells (cells.set j va) af true)) v (l.set j x) c:=by
 rcases h with ⟨-,rfl⟩ | ⟨b,cells,rfl,h2,h3,h4,h5,h6⟩
 ·simp at hj
 ·have hjc:j<cells.length:=by omega
  refine ⟨b,cells,rfl,h6,h2,hjc,?_,.inr ⟨b,_,by rw [Sr],au _ _ _,by rw [Sr]; exact h3,by rw [Sr]; exact h4,?_,h6⟩⟩
  ·have:=mj (b:=b) (off:=0) (c:=c) (sz:=1) (x:=false) (k:=.i64) hj
   rw [S8,TW] at this
   exact this
  ·have hn:NoTy (rl intE aa).tys H b:=Yg h2 zU
   have hst:SubT (rl intE aa).tys H (H.put b (.cells (cells.set j va) af true)):=Yu (Yv _ _) hn
   rw [Sr,List.take_set]
   exact X0 (E:=rowsE) hst (h5.set1 hj hx)
theorem Wr.elem {H0 H:Heap} {v:AV} {l:List (List Int)} {c j:Nat} (h:Wr H0 H v l c) (hj:j<l.length) :
  ∃ w,RowV H w l[j]/\aW H none (ap v j)=some w/\co 1 v (.int .i64 (j:Int))=some (ap v j):=by
 obtain ⟨w,h1,h2⟩:=dy h.sl hj
 exact ⟨w,h1,h2,Ym h.sl .i64 j hj⟩
def UnderV (H0 H:Heap) (ub:Nat) (u:Lin.Under):Prop:=∃ ql qr qd cl,H.get ub=some (.cells [ql,qr,qd] aO true)/\Wr H0 H ql u.lines cl/\Wr H0 H qr u.rays u.rays.length/\Wr H0 H qd u.done u.done.length/\Sep ql qr/\Sep ql qd/\Sep qr qd
theorem UnderV.mono {H0 H H':Heap} {ub:Nat} {u:Lin.Under} (hs:Sub H H') (h:UnderV H0 H ub u):UnderV H0 H' ub u:=by
 obtain ⟨ql,qr,qd,cl,h1,h2,h3,h4,h5⟩:=h
 exact ⟨ql,qr,qd,cl,hs.get _ _ h1,h2.mono hs,h3.mono hs,h4.mono hs,h5⟩
theorem PH (a u:List Int):Lin.dot a (Lin.upV a u)=if Lin.dot a u<0 then -(Lin.dot a u) else Lin.dot a u:=by
 unfold Lin.upV
 split
 ·rw [Lin.dot_scl]; omega
 ·rfl
theorem PG {d:Nat} {a u:List Int} (hu:u.length=d):(Lin.upV a u).length=d:=by
 unfold Lin.upV
 split
 ·simp [Lin.scl,hu]
 ·exact hu
theorem QV {f:Nat} {a u:List Int} (hu:∀ z∈u,Bt f z):∀ z∈Lin.upV a u,Bt f z:=by
 unfold Lin.upV
 split
 ·exact Fz hu
 ·exact hu
structure FoldC (Hs H0 H:Heap) (ub:Nat) (LV qr qd:AV) (D:List (List Int)) (bx:Nat) (z:Int) (vl va:AV) (up a:List Int) (sb:Nat):Prop where
 u:H.get ub=some (.cells [LV,qr,qd] aO true)
 d:Wr H0 H qd D D.length
 bx:BoxI H bx z
 vl:RowV H vl up
 va:RowV H va a
 sb:H.get sb=some (.cells [.ptr ub 0,.ptr ub 1] kY true)
 oth:∀ b e,Hs.get b=some e->b≠ub->jB qr≠some b->H.get b=some e
theorem FoldC.mono {Hs H0 H H':Heap} {ub:Nat} {LV qr qd:AV} {D:List (List Int)} {bx:Nat} {z:Int} {vl va:AV} {up a:List Int} {sb:Nat} (hs:Sub H H') (h:FoldC Hs H0 H ub LV qr qd D bx z vl va up a sb):FoldC Hs H0 H' ub LV qr qd D bx z vl va up a sb :=
 ⟨hs.get _ _ h.u,h.d.mono hs,h.bx.mono hs,h.vl.mono hs,h.va.mono hs,hs.get _ _ h.sb,fun b e h1 h2 h3=>hs.get _ _ (h.oth b e h1 h2 h3)⟩
theorem K4 {H:Heap} {b c t1 t2:Nat} {x y:List AV} {r1 r2:Bool} (h1:H.get b=some (.cells x t1 r1)) (h2:H.get c=some (.cells y t2 r2)) (hn:t1≠t2):b≠c:=fun e=>by
 subst e
 rw [h1] at h2
 injection h2 with h; injection h with _ h; exact hn h
theorem FoldC.put {Hs H0 H:Heap} {ub:Nat} {LV qr qd:AV} {D:List (List Int)} {bx:Nat} {z:Int} {vl va:AV} {up a:List Int} {sb b:Nat} {cells cs:List AV} (h:FoldC Hs H0 H ub LV qr qd D bx z vl va up a sb) (hb:H.get b=some (.cells cells af true)) (hd:jB qd≠some b) (ho:∀ e,Hs.get b=some e->jB qr=some b):FoldC Hs H0 (H.put b (.cells cs af true)) ub LV qr qd D bx z vl va up a sb:=by
 have n1:NoTy (rl intE aa).tys H b:=Yg hb zU
 have n2:NoTy [ae] H b:=Yg hb zU
 obtain ⟨q,hq1,hq2⟩:=h.bx
 refine ⟨?_,h.d.put hd n1,⟨q,?_,Yn (E:=bT cm) (Yu (Yv _ _) n2) hq2⟩,Yn (E:=intE) (Yu (Yv _ _) n1) h.vl,Yn (E:=intE) (Yu (Yv _ _) n1) h.va,?_,fun c e h1 h2 h3=>?_⟩
 ·rw [az (K4 h.u hb zU)]; exact h.u
 ·rw [az (K4 hq1 hb zU)]; exact hq1
 ·rw [az (K4 h.sb hb zU)]; exact h.sb
 ·rw [az (fun e1=>h3 (by rw [e1] at h1 ⊢; exact ho e h1))]; exact h.oth c e h1 h2 h3
section
variable {tab:Nat->Option aw} {H:Heap} {s:AV}
theorem JZ (C:Code tab) {H0:Heap} {ub i:Nat} {u:Lin.Under} {va:AV} {a:List Int} {d e f:Nat} (hk:Kp H0 H) (hub0:H0.next<=ub) (hu:UnderV H0 H ub u) (ha:RowV H va a) (hi:i<u.lines.length) (hd:d<=64) (hal:a.length=d) (hL:∀ r∈u.lines,r.length=d/\∀ z∈r,Bt f z) (hR:∀ r∈u.rays,r.length=d/\∀ z∈r,Bt f z) (hae:∀ z∈a,Bt e z) (hb:2*(e+f+7)+2*f+1<=8796093022208) (hbig:u.lines.length<1099511627776) (hbig2:u.rays.length<1099511627776) :
  Ans tab (.fn h9 [.ptr ub 0,va,.int .i64 (i:Int)]) H fun v H'=>Kp H0 H'/\RowV H' v (Lin.upV a u.lines[i])/\UnderV H0 H' ub ⟨(u.lines.eraseIdx i).map (Lin.foldV a (Lin.upV a u.lines[i])),u.rays.map (Lin.foldV a (Lin.upV a u.lines[i])),u.done⟩/\(∀ b e,H.get b=some e->b≠ub->(∀ q1 q2 q3,H.get ub=some (.cells [q1,q2,q3] aO true)->jB q2≠some b)->H'.get b=some e)/\∀ q1 q2 q3,H.get ub=some (.cells [q1,q2,q3] aO true)->∃ q1',H'.get ub=some (.cells [q1',q2,q3] aO true):=by
 have hw:=hk.wf
 obtain ⟨ql,qr,qd,cl,hub,hql,hqr,hqd,s1,s2,s3⟩:=hu
 have lub:=hw _ _ hub
 obtain ⟨vl,hvl,hld,hix⟩:=hql.elem hi
 have hLi:=hL _ (Sx hi)
 refine Aw C.q101 rfl rfl zU fun T hl g=>?_
 have hl:T.length=81:=hl
 have hrs:c_P_cone_under_fold.results=[(6,none)]:=rfl
 have g0:ad T 0=.ptr ub 0:=g 0 (by simp)
 have g1:ad T 1=va:=g 1 (by simp)
 have g2:ad T 2=.int .i64 (i:Int):=g 2 (by simp)
 refine bk ?_
 refine zW (cr hl g0 g1 g2 @aD) ?_
 refine bk ?_
 refine zW (ki hl g0 g1 g2 @aD hub hix hld) ?_
 refine bk ?_
 refine zW (cr hl g0 g1 g2 @aD) ?_
 refine XX (tM C zF (ha.mono (zG H)) (hvl.mono (zG H)) (hal.trans hLi.1.symm) zO hae hLi.2 zO) ?_
 rintro v H2 ⟨⟨w,rfl,hr2⟩,hk2⟩
 obtain ⟨k2,_,w2⟩:=zT H zK hk2
 have ow:=hr2.one
 have n2:H.next+14<=H2.next:=hk2.le
 have f2:H2.get (H.next+12)=none:=hk2.free (show _<H.next+14 by omega) (hw.fresh (b:=H.next+12) zO)
 have m12:NoTy [ae] H2 (H.next+12):=Yf f2
 refine zW (cr hl g0 g1 g2 @aD) ?_
 refine db (fun T' H'=>∃ vl,ad T' 6=vl/\RowV H' vl (Lin.upV a u.lines[i])/\BoxI H' (H.next+12) (Lin.dot a (Lin.upV a u.lines[i]))/\Kp H H') rfl ?_ ?_
 ·refine zW (cr hl g0 g1 g2 @aU) ?_
  refine iteH.split (fun h=>?_) fun h=>?_
  ·refine zW (aV hl g0 g1 g2) ?_
   refine XX (nf C (n:=-1) zF zO zO) ?_
   rintro v3 H3 ⟨hi3,hk3⟩
   obtain ⟨k3,_,w3⟩:=zT H zK hk3
   have b3:=hk3.get (b:=H.next+12) (e:=.cells [.bool (decide (Lin.dot a u.lines[i]<0)),w] aa true) (cR)
   have lt3:=w3 _ _ b3
   have hw3:cp H3 w (Lin.dot a u.lines[i]).natAbs:=SlV.mono hk3.sub (Yn (E:=bT cm) zS hr2)
   refine zW (aV hl g0 g1 g2) ?_
   refine XX (sN C zF (hvl.mono (zG H)) hi3 zO (fun z hz=>(hLi.2 z hz).len zO) E8) ?_
   rintro v4 H4 ⟨r4,rfl,hr4,hk4,hf4⟩
   obtain ⟨k4,_,w4⟩:=zT H zK hk4
   have b4:=hk4.get b3
   have hw4:=hw3.mono hk4.sub
   refine zW (cr hl g0 g1 g2 @b4) ?_
   refine XX (zj C (z:=Lin.dot a u.lines[i]) zF ⟨w,rfl,hw4.mono (zG H4)⟩ ((oF hae hLi.2 (hal.trans hLi.1.symm) zO).sm zO)) ?_
   rintro v5 H5 ⟨⟨w5,rfl,hw5⟩,hk5⟩
   obtain ⟨k45,_,_⟩:=zT H4 zK hk5
   have k5:Kp H H5:=X9 k4 k45
   have le_k5:=k5.le
   have w5':=k5.wf
   have b5:=k45.get b4
   have lt5:=w5' _ _ b5
   have ow5:=hw5.one
   have m5:NoTy [ae] H5 (H.next+12):=Yg b5 zU
   refine zW (eW hl g0 g1 g2 b5 @aU) ?_
   have eu:Lin.upV a u.lines[i]=Lin.scl (-1) u.lines[i]:=by unfold Lin.upV; rw [if_pos h]
   have ed:Lin.dot a (Lin.upV a u.lines[i]) = -(Lin.dot a u.lines[i]):=by rw [PH,if_pos h]
   refine ⟨r4,rfl,?_,⟨w5,by rw [ed]; exact cR,by rw [ed]; exact Yn (E:=bT cm) zS hw5⟩,zK⟩
   rw [eu]
   refine RowV.put_ne (hr4.mono k45.sub) (fun hb=>?_) m5
   have:=hf4 _ hb
   omega
  ·refine zW (cr hl g0 g1 g2 @aU) ?_
   have eu:Lin.upV a u.lines[i]=u.lines[i]:=by unfold Lin.upV; rw [if_neg h]
   rw [eu]
   exact ⟨vl,rfl,hvl.mono (zG H),⟨w,by exact cR,Yn (E:=bT cm) zS hr2⟩,zK⟩
 ·rintro T1 H1 hs1 ⟨vl',t6,hvl',hbx,k1⟩
  have w1:=k1.wf
  have t0:ad T1 0=.ptr ub 0:=(hs1.at_ 0 zU).trans (zV (aB hl g0))
  have t1:ad T1 1=va:=(hs1.at_ 1 zU).trans (zV (aB hl g1))
  have t2:ad T1 2=.int .i64 (i:Int):=(hs1.at_ 2 zU).trans (zV (aB hl g2))
  have t7:ad T1 7=.ptr (H.next+12) 0:=(hs1.at_ 7 zU).trans (zV hl)
  have hl1:T1.length=81:=hs1.len.trans (by simp only [Sr]; exact hl)
  have hub1:=k1.get hub
  refine Yx ?_
  refine zW (cr hl1 t0 t1 t2 hub1) ?_
  refine XX (GN C zF (hql.sl.mono (zG H)) zO hbig) ?_
  rintro v2 H2' ⟨hk2',b,hown⟩
  have e1:IntKind.i64.wrap ((i:Int)+1)=((i+1:Nat):Int):=by rw [wrap_i64] <;> omega
  refine zW (cr hl1 t0 t1 t2 e1) ?_
  refine XX (Fa C hk2' hown hi hbig) ?_
  rintro v3 H3 ⟨rfl,hk3,⟨cells,hb3,hcn,hcl3⟩,hfr⟩
  have k3:Kp H H3:=X9 k1 (X9 zK hk3)
  have le_k3:=k3.le
  have w3:=k3.wf
  have hub3:=k3.get hub
  have hvl3:RowV H3 vl' (Lin.upV a u.lines[i]):=hvl'.mono (X8 (H:=H1) (X9 zK hk3))
  have hbx3:BoxI H3 (H.next+12) (Lin.dot a (Lin.upV a u.lines[i])):=hbx.mono (X8 (H:=H1) (X9 zK hk3))
  refine zW (aC hl1 t0 hub3) ?_
  refine aH ?_
  refine zD (aB hl1 t0) ?_
  obtain ⟨-,-,-,-,hb0⟩:=hown
  have hb0:H.next<=b:=SM (SM k1.le (S9 _ _)) hb0
  have lb3:=w3 _ _ hb3
  have lub3:=w3 _ _ hub3
  have hubb:ub≠b:=by omega
  obtain ⟨up,hup⟩:∃ x,x=Lin.upV a u.lines[i]:=⟨_,rfl⟩
  rw [<- hup] at hvl3 hbx3 ⊢
  have hupl:up.length=d:=by rw [hup]; exact PG hLi.1
  have hupb:∀ z∈up,Bt f z:=by rw [hup]; exact QV hLi.2
  obtain ⟨n,hn⟩:∃ n,n=u.lines.length:=⟨_,rfl⟩
  rw [<- hn] at hcn hcl3 hi hbig ⊢
  obtain ⟨L,hL0⟩:∃ L,L=u.lines.eraseIdx i:=⟨_,rfl⟩
  have hLlen:L.length=n-1:=by rw [hL0,WN zO,hn]
  have hLm:∀ r∈L,r.length=d/\∀ z∈r,Bt f z:=fun r hr=>hL r (Te (by rw [hL0] at hr; exact hr))
  rw [<- hL0] at hcl3 ⊢
  obtain ⟨LV,hLV⟩:∃ v,v=AV.own b 0 (n-1) n 1 false:=⟨_,rfl⟩
  rw [<- hLV]
  have hlv0:Wr H0 (((H3.up 9).put ub (.cells [LV,qr,qd] aO true)).put (H3.next+6) (.cells [.ptr ub 0,.ptr ub 1] kY true)) LV L n:=by
   have m1:NoTy (rl intE aa).tys H3 ub:=Yg hub3 zU
   have m2:NoTy (rl intE aa).tys H3 (H3.next+6):=Yf (w3.fresh zO)
   refine .inr ⟨b,cells,by rw [hLV,hLlen],by exact zV hb3,hcn,by omega,?_,by have:=hk.le; omega⟩
   rw [hLlen]
   exact X0 (E:=rowsE) zS hcl3
  have keepW:∀ {v l c},Wr H0 H v l c->Wr H0 (((H3.up 9).put ub (.cells [LV,qr,qd] aO true)).put (H3.next+6) (.cells [.ptr ub 0,.ptr ub 1] kY true)) v l c:=fun {v l c} h=>by
   have m1:NoTy (rl intE aa).tys H3 ub:=Yg hub3 zU
   have m2:NoTy (rl intE aa).tys (H3.up 9) (H3.next+6):=Yf (w3.fresh (b:=H3.next+6) zO)
   have h3:Wr H0 (H3.up 9) v l c:=(h.mono k3.sub).mono (Ys H3 9)
   have hne:∀ x e,(H3.up 9).get x=some (.cells e aO true)->jB v≠some x:=fun x e hx hv=>by
    rcases h3 with ⟨rfl,-⟩ | ⟨b',cells',rfl,h2,-⟩
    ·cases hv
    ·cases hv
     rw [hx] at h2; injection h2 with h; injection h with _ h; exact absurd h zU
   refine (h3.put (hne ub _ hub3) m1).put (fun hv=>?_) (by
    refine Yf ?_
    rw [az zO]; exact w3.fresh (b:=H3.next+6) zO)
   have:=h.old hw hv
   omega
  have sLr:Sep LV qr:=fun x hx hy=>by
   rw [hLV] at hx; cases hx
   have:=hqr.old hw hy
   omega
  have sLd:Sep LV qd:=fun x hx hy=>by
   rw [hLV] at hx; cases hx
   have:=hqd.old hw hy
   omega
  obtain ⟨qs,hqs⟩:∃ qs:Nat->AV,qs=fun j=>if j=0 then LV else qr:=⟨_,rfl⟩
  obtain ⟨Ls,hLs⟩:∃ Ls:Nat->List (List Int),Ls=fun j=>if j=0 then L else u.rays:=⟨_,rfl⟩
  obtain ⟨cs,hcs⟩:∃ cs:Nat->Nat,cs=fun j=>if j=0 then n else u.rays.length:=⟨_,rfl⟩
  have hLsm:∀ j,∀ r∈Ls j,r.length=d/\∀ z∈r,Bt f z:=fun j r hr=>by
   rw [hLs] at hr
   by_cases h:j=0
   ·exact hLm r (by simpa [h] using hr)
   ·exact hR r (by simpa [h] using hr)
  have hLsl:∀ j,(Ls j).length<1099511627776:=fun j=>by
   rw [hLs]
   by_cases h:j=0
   ·simp [h]; omega
   ·simp [h]; omega
  have hsep:∀ j m,j<2->m<2->m≠j->Sep (qs j) (qs m):=fun j m h1 h2 h3=>by
   rw [hqs]
   by_cases h:j=0
   ·have h4:m≠0:=by omega
    simpa [h,h4] using sLr
   ·have h4:m=0:=by omega
    simpa [h,h4] using sLr.symm
  have hsepd:∀ j,Sep (qs j) qd:=fun j=>by
   rw [hqs]
   by_cases h:j=0
   ·simpa [h] using sLd
   ·simpa [h] using s3
  have htq:∀ j,j<2->bL [LV,qr,qd] j none=some (qs j):=fun j h=>by
   rw [hqs]
   match j,h with
   | 0,_=>rfl
   | 1,_=>rfl
  have htp:∀ j,j<2->bL [AV.ptr ub 0,AV.ptr ub 1] j none=some (.ptr ub j):=fun j h=>by
   match j,h with
   | 0,_=>rfl
   | 1,_=>rfl
  obtain ⟨w',hw'⟩:∃ w',w'=Lin.foldV a up:=⟨_,rfl⟩
  rw [<- hw']
  have hva3:RowV H3 va a:=ha.mono k3.sub
  refine am H0 [] (fun j _ H'=>FoldC H H0 H' ub LV qr qd u.done (H.next+12) (Lin.dot a up) vl' va up a (H3.next+6)/\∀ m,m<2->Wr H0 H' (qs m) (if m<j then (Ls m).map w' else Ls m) (cs m)) (a:=0) (N:=2) rfl (by refine zW hl1 ?_; rfl) (zV hl1) (SH _) zO (by simp only [Sr,hl1]; rfl) rfl (fun j vs H' m ⟨h1,h2⟩=>⟨h1.mono (Ys H' m),fun m' hm'=>(h2 m' hm').mono (Ys H' m)⟩) (by
   have kk:Kp H0 H3:=hk.trans k3
   have:=kk.le
   exact zK) ⟨⟨by exact cR,keepW hqd,?_,?_,?_,by exact cR,fun c e hc hne _=>by
   have hc3:=k3.get hc
   have:=w3 _ _ hc3
   rw [az zO,az hne]; exact hc3⟩,?_⟩ ?_ ?_
  ·obtain ⟨q,hq1,hq2⟩:=hbx3
   have lb12:=w3 _ _ hq1
   have hnu:H.next+12≠ub:=by omega
   have m1:NoTy [ae] H3 ub:=Yg hub3 zU
   have m2:NoTy [ae] H3 (H3.next+6):=Yf (w3.fresh zO)
   exact ⟨q,by exact zV hq1,Yn (E:=bT cm) zS hq2⟩
  ·have m1:NoTy (aa :: intE.tys) H3 ub:=Yg hub3 zU
   have m2:NoTy (aa :: intE.tys) H3 (H3.next+6):=Yf (w3.fresh zO)
   exact Yn (E:=intE) zS hvl3
  ·have m1:NoTy (aa :: intE.tys) H3 ub:=Yg hub3 zU
   have m2:NoTy (aa :: intE.tys) H3 (H3.next+6):=Yf (w3.fresh zO)
   exact Yn (E:=intE) zS hva3
  ·intro m hm
   rw [if_neg zO,hqs,hLs,hcs]
   by_cases h:m=0
   ·simpa [h] using hlv0
   ·simpa [h] using keepW hqr
  ·rintro j T2 H5 _ hj hl2 hi2 hs2 hk5 ⟨p1,p2⟩
   have w5:=hk5.wf
   have le_hk5:=hk5.le
   have t50:ad T2 50=.own (H3.next+6) 0 2 2 1 true:=(hs2.at_ 50 zU).trans (zV hl1)
   have t7a:ad T2 7=.ptr (H.next+12) 0:=(hs2.at_ 7 zU).trans (zV (aB hl1 t7))
   have t1a:ad T2 1=va:=(hs2.at_ 1 zU).trans (zV (aB hl1 t1))
   have t6a:ad T2 6=vl':=(hs2.at_ 6 zU).trans (zV (aB hl1 t6))
   have hqj:=p2 j hj
   rw [if_neg zO] at hqj
   have htq':=htq j hj
   have htp':=htp j hj
   have p1u:=p1.u
   have p1s:=p1.sb
   simp only [Sr,hl1] at hl2
   refine zW (ki hl2 t50 hi2 p1s htp' p1u htq' hqj.sl.lenV) ?_
   refine am H0 [] (fun k _ H'=>FoldC H H0 H' ub LV qr qd u.done (H.next+12) (Lin.dot a up) vl' va up a (H3.next+6)/\Wr H0 H' (qs j) (jp w' (Ls j) k) (cs j)/\∀ m,m<2->m≠j->Wr H0 H' (qs m) (if m<j then (Ls m).map w' else Ls m) (cs m)) (a:=0) (N:=(Ls j).length) rfl (by refine zW hl2 ?_; rfl) (zV hl2) (SH _) (by have:=hLsl j; omega) (by simp only [Sr,hl2]; rfl) rfl (fun k vs H' m ⟨h1,h2,h3⟩=>⟨h1.mono (Ys H' m),h2.mono (Ys H' m),fun m' a b=>(h3 m' a b).mono (Ys H' m)⟩) zK ⟨p1.mono (Ys H5 _),by rw [yc]; exact hqj.mono (Ys H5 _),fun m hm _=>(p2 m hm).mono (Ys H5 _)⟩ ?_ ?_
   ·rintro k T3 H6 _ hkk hl3 hi3 hs3 hk6 ⟨q1,q2,q3⟩
    have w6:=hk6.wf
    have le_hk6:=hk6.le
    have t58:ad T3 58=qs j:=(hs3.at_ 58 zU).trans (zV hl2)
    have t9:ad T3 9=.ptr ub j:=(hs3.at_ 9 zU).trans (zV hl2)
    have t7b:ad T3 7=.ptr (H.next+12) 0:=(hs3.at_ 7 zU).trans (zV (aB hl2 t7a))
    have t1b:ad T3 1=va:=(hs3.at_ 1 zU).trans (zV (aB hl2 t1a))
    have t6b:ad T3 6=vl':=(hs3.at_ 6 zU).trans (zV (aB hl2 t6a))
    have hsl:=qF w' (Ls j) (UA hkk)
    obtain ⟨vr,hvr,hldr,hixr⟩:=q2.elem (j:=k) zO
    have hgk:(jp w' (Ls j) k)[k]'zO=(Ls j)[k]:=by
     have:=AI w' (Ls j) hkk
     rw [Sv zO] at this
     exact Option.some.inj this
    rw [hgk] at hvr
    have hRk:=hLsm j _ (Sx hkk)
    have q1u:=q1.u
    obtain ⟨bq,hbq,hbn⟩:=q1.bx
    simp only [Sr,hl2] at hl3
    refine zW (cr hl3 t58 hi3 hixr hldr) ?_
    refine aH ?_
    refine zD (kj hl3 t9 t7b t1b t6b q1u htq' hbq @aR) ?_
    have hda:=oF hae hRk.2 (hal.trans hRk.1.symm) zO
    refine XX (tM C zF (q1.va.mono (zG H6)) (hvr.mono (zG H6)) (hal.trans hRk.1.symm) zO hae hRk.2 zO) ?_
    rintro v7 H7 ⟨hr7,hk7⟩
    obtain ⟨k67,_,w7⟩:=zT H6 zK hk7
    have r1u:=k67.get q1u
    have r1b:=k67.get hbq
    refine zD (rc hl3 t9 t7b t1b t6b q1u htq' hbq @aR r1u r1b) ?_
    refine XX (zj C zF hr7 (hda.sm zO)) ?_
    rintro v8 H8 ⟨hr8,hk8⟩
    have k68:Kp H6 H8:=X9 k67 (X9 zK hk8)
    have le_k68:=k68.le
    have w8:=k68.wf
    have x1u:=k68.get q1u
    have x1b:=k68.get hbq
    refine zD (xK hl3 t9 t7b t1b t6b q1u htq' hbq @aR r1u r1b x1u x1b) ?_
    have hdu:=oF hae hupb (hal.trans hupl.symm) zO
    refine XX (Ey C zF (m:=Lin.dot a up) (n:=-(Lin.dot a (Ls j)[k])) ⟨bq,rfl,hbn.mono (zG H6)⟩ (hr8.mono (zG H8)) (hvr.mono (zG H6)) (q1.vl.mono (zG H6)) (hRk.1.trans hupl.symm) zO hdu hda.neg hRk.2 hupb zO) ?_
    rintro v9 H9 ⟨hr9,hk9⟩
    have k69:Kp H6 H9:=X9 k68 (X9 zK hk9)
    have le_k69:=k69.le
    have k09:Kp H0 H9:=hk6.trans k69
    have le_k09:=k09.le
    have w9:=k69.wf
    have y1u:=k69.get q1u
    have y1b:=k69.get hbq
    obtain ⟨b',cells',hb',hb0',hg',hjc',hix',hwr'⟩:=(q2.mono k69.sub).store (j:=k) zO hr9
    have o9:=hr9.one
    have lb':=w9 _ _ hg'
    refine zD (BC hl3 t9 t7b t1b t6b q1u htq' hbq @aR r1u r1b x1u x1b y1u y1b hix' hg' hjc') ?_
    have hwk:w' (Ls j)[k]=Lin.prime (Lin.mix (Lin.dot a up) (Ls j)[k] (-(Lin.dot a (Ls j)[k])) up):=by rw [hw']; rfl
    refine ⟨zK,(q1.mono k69.sub).put hg' (hsepd j _ hb') (fun e he=>by
     have hlt:=hw _ _ he
     rw [hqs] at hb'
     by_cases hj0:j=0
     ·simp only [hj0,if_true] at hb'
      rw [hLV] at hb'
      cases hb'
      omega
     ·simp only [hj0,if_false] at hb'
      exact hb'),?_,fun m hm hne=>((q3 m hm hne).mono k69.sub).put (hsep j m hj hm hne _ hb') (Yg hg' zU)⟩
    rw [<- AH w' (Ls j) hkk,hwk]
    exact hwr'
   ·rintro T3 H6 hl3 hs3 hk6 ⟨q1,q2,q3⟩
    simp only [Sr,hl2] at hl3
    rw [AJ] at q2
    refine zW hl3 ?_
    refine ⟨hk6,q1,fun m hm=>?_⟩
    by_cases h:m=j
    ·subst h; rw [if_pos zO]; exact q2
    ·have:=q3 m hm h
     by_cases h2:m<j
     ·rw [if_pos h2] at this; rw [if_pos zO]; exact this
     ·rw [if_neg h2] at this; rw [if_neg zO]; exact this
  ·rintro T2 H5 hl2 hs2 hk5 ⟨p1,p2⟩
   have w5:=hk5.wf
   have le_hk5:=hk5.le
   have t6a:ad T2 6=vl':=(hs2.at_ 6 zU).trans (zV (aB hl1 t6))
   simp only [Sr,hl1] at hl2
   refine zW (aC hl2 t6a hrs) ?_
   have p0:=p2 0 zO
   have p1':=p2 1 zO
   rw [if_pos zO,hqs,hLs,hcs] at p0 p1'
   simp only [if_true,Nat.one_ne_zero,if_false] at p0 p1'
   have e:(u.rays.map w').length=u.rays.length:=by simp
   refine ⟨zK,p1.vl.mono (Ys H5 _),⟨LV,qr,qd,n,p1.u,p0.mono (Ys H5 _),?_,p1.d.mono (Ys H5 _),sLr,sLd,s3⟩,fun c e hc hne hq=>p1.oth c e hc hne (hq ql qr qd (by first | exact hub | rfl)),fun q1 q2 q3 h=>by
    try rw [hub] at h
    cases h
    exact ⟨LV,p1.u⟩⟩
   show Wr H0 _ qr (u.rays.map w') (u.rays.map w').length
   rw [e]
   exact p1'.mono (Ys H5 _)
end
end Go.Proofs.YthjdfjlhjnihfaaGreat.Ev
