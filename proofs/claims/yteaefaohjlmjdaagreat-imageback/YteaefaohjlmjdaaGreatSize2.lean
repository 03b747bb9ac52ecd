/- A part. -/
import Derived.Test.YteaefaohjlmjdaaGreatA0
import Derived.Test.YteaefaohjlmjdaaGreatN23
set_option linter.all false
namespace Go.Proofs.YteaefaohjlmjdaaGreat.Lin
structure Rq (d:Nat) (ps:List (Nat × V)) (u:Under):Prop where
 lines:ps.map (·.2)=u.lines
 lt:∀ q∈ps,q.1<d
 diag:∀ q∈ps,at_ q.2 q.1≠0
 apart:ps.Pairwise fun q q'=>at_ q.2 q'.1=0/\at_ q'.2 q.1=0
 rays:∀ r∈u.rays,∀ q∈ps,at_ r q.1=0
 contL:∀ l∈u.lines,content l=1
 contR:∀ r∈u.rays,content r=1
section
variable {d:Nat} {ps:List (Nat × V)}
def CI {α β:Type} (f:α->β) (l:List α) (i:Nat):(l.map f).eraseIdx i=(l.eraseIdx i).map f:=by
 simp [Xt,List.map_take,List.map_drop]
def zP:∀ (l:List (Nat × V)),(l.map fun _=>(0:Int)).sum=0
 | []=>rfl
 | _ :: l=>by simp [zP l]
def LZ (hlen:∀ q∈ps,q.2.length=d) (hdiag:∀ q∈ps,at_ q.2 q.1≠0) (hap:ps.Pairwise fun q q'=>at_ q.2 q'.1=0/\at_ q'.2 q.1=0) {x:V} (hx:Spn d (· ∈ ps.map (·.2)) x) (hz:∀ q∈ps,at_ x q.1=0):∀ i,at_ x i=0:=by
 have hnd:ps.Nodup:=hap.imp_of_mem fun {q q'} hq hq' h e=>by
  subst e; exact hdiag q hq h.1
 have hoff:∀ q∈ps,∀ q'∈ps,q≠q'->at_ q.2 q'.1=0:=fun q hq q' hq' hne=>by
  obtain ⟨i,hi⟩:=VN hq;obtain ⟨j,hj⟩:=VN hq';obtain ⟨hi',rfl⟩:=Vm.1 hi;obtain ⟨hj',rfl⟩:=Vm.1 hj;rcases XM i j with hlt | heq | hlt
  ·exact (VX.1 hap i j hi' hj' hlt).1
  ·subst heq; exact absurd rfl hne
  ·exact (VX.1 hap j i hj' hi' hlt).2
 have hLl:∀ l,l∈ps.map (·.2)->l.length=d:=fun l hl=>by
  obtain ⟨q,hq,rfl⟩:=Va.1 hl;exact hlen q hq
 have key:∀ {x:V},Spn d (· ∈ ps.map (·.2)) x->∃ k:Int,0<k/\∃ c:Nat × V->Int,(∀ i,k*at_ x i=(ps.map fun q=>c q*at_ q.2 i).sum):=by
  intro x hx
  induction hx with
  | zero=>exact ⟨1,zO,fun _=>0,fun i=>by rw [ii]; simp only [ZE,Y6]; exact (zP ps).symm⟩
  | @line x l n hx hl ih =>
   obtain ⟨k,hk,c,hc⟩:=ih;obtain ⟨q0,hq0,rfl⟩:=Va.1 hl;refine ⟨k,hk,fun r=>c r+(if r=q0 then k*n else 0),fun i=>?_⟩;rw [at_mix ((hx.length hLl (fun r h=>h.elim)).trans (hlen q0 hq0).symm)];have e:∀ (G:List (Nat × V)),G.Nodup->(G.map fun r=>(c r+(if r=q0 then k*n else 0))*at_ r.2 i).sum=(G.map fun r=>c r*at_ r.2 i).sum+(if q0∈G then k*n*at_ q0.2 i else 0):=by
    intro G
    induction G with
    | nil=>intro _; simp
    | cons g G ihG =>
     intro hg;obtain ⟨hg1,hg2⟩:=XC.1 hg;simp only [Ve,Yd,ihG hg2];by_cases hgl:g=q0
     ·subst hgl;simp only [if_pos rfl,VA,true_or,if_true,hg1,if_false]
      grind
     ·have:¬ q0=g:=fun e=>hgl e.symm
      simp only [if_neg hgl,VA,this,false_or]
      grind
   rw [e ps hnd,if_pos hq0,<- hc i]
   grind
  | ray c hc hx hr ih=>exact hr.elim
  | @div x j hj hl hx ih =>
   obtain ⟨k,hk,c,hc⟩:=ih;exact ⟨k*j,WN hk hj,c,fun i=>by rw [<- hc i,aB]; grind⟩
 obtain ⟨k,hk,c,hc⟩:=key hx;have hc0:∀ q∈ps,c q=0:=fun q hq=>by
  have e1:=hc q.1;rw [hz q hq] at e1;have e2:∀ (G:List (Nat × V)),(∀ g∈G,g∈ps)->G.Nodup->(G.map fun s=>c s*at_ s.2 q.1).sum=if q∈G then c q*at_ q.2 q.1 else 0:=by
   intro G
   induction G with
   | nil=>intro _ _; simp
   | cons g G ihG =>
    intro hG hg;obtain ⟨hg1,hg2⟩:=XC.1 hg;simp only [Ve,Yd,ihG (fun x hx=>hG x (Vd _ hx)) hg2];by_cases hgr:g=q
    ·subst hgr;simp [hg1]
    ·have hrg:¬ q=g:=fun e=>hgr e.symm;rw [hoff g (hG g (Vh ..)) q hq hgr];simp [hrg]
  rw [e2 ps (fun g hg=>hg) hnd,if_pos hq] at e1;rcases VB.1 (show c q*at_ q.2 q.1=0 by omega) with h1 | h1
  ·exact h1
  ·exact absurd h1 (hdiag q hq)
 intro i;have e1:=hc i
 have:(ps.map fun q=>c q*at_ q.2 i)=ps.map fun _=>(0:Int):=WV fun q hq=>by rw [hc0 q hq]; simp
 rw [this,zP] at e1;rcases VB.1 e1 with h1 | h1
 ·omega
 ·exact h1
def EB {i:Nat} (hi:i<d):content (unitV d i)=1:=by
 have h1:(content (unitV d i):Int) ∣ 1:=by
  have:=O6 (x:=unitV d i) (i:=i) (by rw [nF hi]; simp)
  rw [nF hi,if_pos rfl] at this;exact content_dvd this
 have:=Ye.2 h1
 simpa using this
def L4 (d:Nat):Rq d ((List.range d).map fun i=>(i,unitV d i)) (startU d):=by
 refine ⟨by simp [startU,Xl,Function.comp_def],fun q hq=>?_,fun q hq=>?_,?_,fun r hr=>(by cases hr),fun l hl=>?_,fun r hr=>(by cases hr)⟩
 ·obtain ⟨i,hi,rfl⟩:=Va.1 hq;exact Wm.1 hi
 ·obtain ⟨i,hi,rfl⟩:=Va.1 hq;rw [nF (Wm.1 hi)]; simp
 ·refine Wx.2 (XT (fun {i j} hi hj hlt=>?_) Yz);have hi:=Wm.1 hi;have hj:=Wm.1 hj;simp only;rw [nF hi,nF hj,if_neg zO,if_neg zO];exact ⟨rfl,rfl⟩
 ·obtain ⟨i,hi,rfl⟩:=Va.1 hl;exact EB (Wm.1 hi)
def RU (a u:V) (i:Nat):at_ (upV a u) i=0 ↔ at_ u i=0:=by
 unfold upV;split
 ·rw [aB]; omega
 ·exact YR
def QN {u:Under} {a:V} {E:V->Prop} (hdd:DD d E (· ∈ u.done) (· ∈ u.lines) u.rays) (h:Rq d ps u) (eq:Bool):∃ ps',Rq d ps' (addU a eq u):=by
 have hlen:∀ q∈ps,q.2.length=d:=fun q hq=>hdd.lenL q.2 (by rw [<- h.lines]; exact WW hq);unfold addU;split
 ·rename_i hn;have hal:∀ x,x∈u.lines->dot a x=0:=fun x hx=>by
   have:=Xv.1 hn x hx
   simpa using this
  refine ⟨ps,h.lines,h.lt,h.diag,h.apart,fun r hr q hq=>?_,h.contL,fun r hr=>?_⟩
  ·rcases mem_cutL.1 hr with ⟨i,r,h1,h2,rfl⟩ | ⟨i,r,h1,h2,⟨h3,rfl⟩ | ⟨k,n,h3,h4,h5,rfl⟩⟩
   ·exact h.rays _ (Vo h1) q hq
   ·exact h.rays _ (Vo h1) q hq
   ·rw [(km q.1).1];unfold mx;rw [at_mix ((hdd.lenR _ (Vo h1)).trans (hdd.lenR _ (Vo h3)).symm),h.rays _ (Vo h1) q hq,h.rays _ (Vo h3) q hq]; simp
  ·rcases mem_cutL.1 hr with ⟨i,r,h1,h2,rfl⟩ | ⟨i,r,h1,h2,⟨h3,rfl⟩ | ⟨k,n,h3,h4,h5,rfl⟩⟩
   ·exact h.contR _ (Vo h1)
   ·exact h.contR _ (Vo h1)
   ·refine iq ?_;have hr:=Vo h1;have hn':=Vo h3;obtain ⟨b,hb,hne⟩:=hdd.off r hr;have hm:dot b (mx a r n)≠0:=fun e=>hne ((mD (hdd.keep r hr) (hdd.keep n hn') h2 h4 hb).1 e).1
    apply VP
    intro hno;have hz:∀ i,at_ (mx a r n) i=0:=fun i=>YC.1 fun e=>hno ⟨i,e⟩;refine hm ?_;rw [(IG (fo (hdd.keep r hr) (hdd.keep n hn') h2 h4).len).2 hz,kg]
 ·rename_i i hi;obtain ⟨hi1,hi2,-⟩:=V2.1 hi;have hl:u.lines.getD i []=u.lines[i]:=by simp [U5,hi1]
  rw [hl];have hne:dot a u.lines[i]≠0:=by simpa using hi2
  have hips:i<ps.length:=by have:=congrArg List.length h.lines; simp at this; omega
  have hli:u.lines[i]=(ps[i]).2:=by
   have:(ps.map (·.2))[i]? = u.lines[i]?:=by rw [h.lines]
   rw [V5,U7 hips,U7 hi1] at this
   simpa using this.symm
  have hull:(u.lines[i]).length=d:=hdd.lenL _ (U9 hi1)
  generalize hv:upV a u.lines[i]=v
  have hvl:v.length=d:=by
   rw [<- hv]; unfold upV; split
   ·exact ah hull
   ·exact hull
  have hpos:0<dot a v:=by
   rw [<- hv]; unfold upV;split
   ·rw [dot_scl]; omega
   ·omega
  have hvz:∀ t,at_ v t=0 ↔ at_ (ps[i]).2 t=0:=fun t=>by rw [<- hv,RU,hli]
  have hvq:∀ q∈ps.eraseIdx i,at_ v q.1=0:=fun q hq=>by
   obtain ⟨j,hji,hj⟩:=X6.1 hq;obtain ⟨hj',rfl⟩:=Vm.1 hj;rw [hvz];rcases Nat.lt_or_gt_of_ne hji with hlt | hlt
   ·exact (VX.1 h.apart j i hj' hips hlt).2
   ·exact (VX.1 h.apart i j hips hj' hlt).1
  have hfz:∀ x:V,x.length=d->∀ t,at_ v t=0->(at_ (foldV a v x) t=0 ↔ at_ x t=0):=fun x hx t ht=>by
   unfold foldV;rw [(km t).1];unfold mv;rw [at_mix (hx.trans hvl.symm),ht];constructor
   ·intro e;rcases VB.1 (show dot a v*at_ x t=0 by omega) with h1 | h1
    ·omega
    ·exact h1
   ·intro e; rw [e]; simp
  have hfc:∀ x:V,x.length=d->(∃ t,at_ v t=0/\at_ x t≠0)->content (foldV a v x)=1:=fun x hx ⟨t,ht,hxt⟩=>by
   have:at_ (foldV a v x) t≠0:=fun e=>hxt ((hfz x hx t ht).1 e)
   unfold foldV at this ⊢;exact iq ⟨t,fun e=>this ((km t).1.2 e)⟩
  refine ⟨(ps.eraseIdx i).map fun q=>(q.1,foldV a v q.2),?_,?_,?_,?_,?_,?_,?_⟩
  ·simp only [Xl,<- h.lines];rw [CI,Xl];rfl
  ·intro q hq;obtain ⟨q0,hq0,rfl⟩:=Va.1 hq;exact h.lt q0 (VM hq0)
  ·intro q hq;obtain ⟨q0,hq0,rfl⟩:=Va.1 hq;have hm:=VM hq0;exact fun e=>h.diag q0 hm ((hfz q0.2 (hlen q0 hm) q0.1 (hvq q0 hq0)).1 e)
  ·refine Wx.2 ((h.apart.sublist (List.eraseIdx_sublist ps i)).imp_of_mem fun {q q'} hq hq' hqq=>?_);exact ⟨(hfz q.2 (hlen q (VM hq)) q'.1 (hvq q' hq')).2 hqq.1,(hfz q'.2 (hlen q' (VM hq')) q.1 (hvq q hq)).2 hqq.2⟩
  ·intro r hr q hq;obtain ⟨q0,hq0,rfl⟩:=Va.1 hq;rcases Vu.1 hr with hr | hr
   ·obtain ⟨r0,hr0,rfl⟩:=Va.1 hr;exact (hfz r0 (hdd.lenR r0 hr0) q0.1 (hvq q0 hq0)).2 (h.rays r0 hr0 q0 (VM hq0))
   ·cases eq
    ·simp at hr; subst hr; exact hvq q0 hq0
    ·simp at hr
  ·intro l hl;obtain ⟨x,hx,rfl⟩:=Va.1 hl;rw [<- h.lines,CI] at hx;obtain ⟨q,hq,rfl⟩:=Va.1 hx;have hm:=VM hq;exact hfc q.2 (hlen q hm) ⟨q.1,hvq q hq,h.diag q hm⟩
  ·intro r hr;rcases Vu.1 hr with hr | hr
   ·obtain ⟨r0,hr0,rfl⟩:=Va.1 hr;have hr0l:=hdd.lenR r0 hr0;obtain ⟨b,hb,hn⟩:=hdd.off r0 hr0;have hvb:dot b v=0:=by
     have hz:=hdd.lineI _ (U9 hi1) b hb;rw [<- hv]; unfold upV;split
     ·rw [dot_scl,hz]; simp
     ·exact hz
    unfold foldV;refine iq ?_
    apply VP
    intro hno;have hz:∀ t,at_ (mv a v r0) t=0:=fun t=>YC.1 fun e=>hno ⟨t,e⟩;have e:=xv (a:=a) hvl hr0l b;rw [(IG (bu hvl hr0l)).2 hz,kg,hvb] at e;rcases VB.1 (show dot a v*dot b r0=0 by omega) with h1 | h1
    ·omega
    ·exact hn h1
   ·cases eq
    ·simp at hr;subst hr
     have:=h.contL _ (U9 hi1)
     rw [<- hv]; unfold upV;split
     ·rw [yy]; exact this
     ·exact this
    ·simp at hr
def OL {M:Nat} (hd:0<d) (hM:0<M) {u:Under} {Es:List V} (hdd:DD d (· ∈ Es) (· ∈ u.done) (· ∈ u.lines) u.rays) (h:Rq d ps u) (hE:∀ e∈Es,e.length=d/\Bd M e) (hI:∀ i∈u.done,i.length=d/\Bd M i) :
  (∀ l∈u.lines,Bd ((2*d*M)^2^d) l)/\(∀ r∈u.rays,Bd ((2*d*M)^2^d) r):=by
 have hlen:∀ q∈ps,q.2.length=d:=fun q hq=>hdd.lenL q.2 (by rw [<- h.lines]; exact WW hq);have hunit:∀ {t:Nat},t<d->(unitV d t).length=d/\Bd M (unitV d t):=fun {t} ht=>⟨by simp [unitV,lc],fun i=>by rw [nF ht]; split <;> simp <;> omega⟩
 have hdu:∀ {t:Nat} {x:V},t<d->x.length=d->dot (unitV d t) x=at_ x t:=fun {t x} ht hx=>by
  have key:∀ (n t:Nat) (x:V),t<n->x.length=n->dot (unitV n t) x=at_ x t:=by
   intro n
   induction n with
   | zero=>intro t x h; omega
   | succ n ih =>
    intro t x ht hx;cases x with
    | nil=>simp at hx
    | cons a x =>
     cases t with
     | zero =>
      have:dot (lc n) x=0:=by rw [dot_comm,kg]
      simp [unitV,lc,WA,dot,at_] at this ⊢;omega
     | succ t =>
      have:=ih t x zO (by simpa using hx)
      simp [unitV,lc,WA,dot,at_] at this ⊢;exact this
  exact key d t x ht hx
 have hLz:∀ {x:V},Spn d (· ∈ u.lines) x->(∀ q∈ps,at_ x q.1=0)->∀ i,at_ x i=0:=fun hx hz=>LZ hlen h.diag h.apart (by rw [h.lines]; exact hx) hz;constructor
 ·intro l hl;rw [<- h.lines] at hl;obtain ⟨q0,hq0,rfl⟩:=Va.1 hl;have hql:=hlen q0 hq0;have hqm:q0.2∈u.lines:=by rw [<- h.lines]; exact hl
  refine JK hd hM (S:=Es++u.done++(ps.filter fun q=>!decide (q.1=q0.1)).map fun q=>unitV d q.1) (fun a ha=>?_) hql (h.contL _ hqm) (fun s hs=>?_) (fun x hx hz=>?_)
  ·rcases Vu.1 ha with ha | ha
   ·rcases Vu.1 ha with ha | ha
    ·exact hE a ha
    ·exact hI a ha
   ·obtain ⟨q,hq,rfl⟩:=Va.1 ha;exact hunit (h.lt q (Vp.1 hq).1)
  ·rcases Vu.1 hs with hs | hs
   ·rcases Vu.1 hs with hs | hs
    ·exact hdd.lineE _ hqm s hs
    ·exact hdd.lineI _ hqm s hs
   ·obtain ⟨q,hq,rfl⟩:=Va.1 hs;obtain ⟨hq1,hq2⟩:=Vp.1 hq;rw [hdu (h.lt q hq1) hql];have hne:q≠q0:=fun e=>by subst e; simp at hq2
    obtain ⟨i,hi⟩:=VN hq1;obtain ⟨j,hj⟩:=VN hq0;obtain ⟨hi',rfl⟩:=Vm.1 hi;obtain ⟨hj',rfl⟩:=Vm.1 hj;rcases XM i j with hlt | heq | hlt
    ·exact (VX.1 h.apart i j hi' hj' hlt).2
    ·subst heq; exact absurd rfl hne
    ·exact (VX.1 h.apart j i hj' hi' hlt).1
  ·have hxs:Spn d (· ∈ u.lines) x:=hdd.lines x hx (fun e he=>hz e (by simp [he])) (fun i hi=>hz i (by simp [hi]));refine ⟨at_ q0.2 q0.1,at_ x q0.1,h.diag q0 hq0,?_⟩;have hy:=hLz (x:=mix (at_ q0.2 q0.1) x (-(at_ x q0.1)) q0.2) (Spn.sum2 hdd.lenL hxs (dN hql hqm) _ _) (fun q hq=>by
    rw [at_mix (hx.trans hql.symm)];by_cases hq0':q.1=q0.1
    ·rw [hq0']; grind
    ·have h1:at_ x q.1=0:=by
      have:=hz (unitV d q.1) (WO _ (WW (f:=fun q=>unitV d q.1) (Vp.2 ⟨hq,by simp [hq0']⟩)))
      rw [hdu (h.lt q hq) hx] at this; exact this
     have h2:at_ q0.2 q.1=0:=by
      have hne:q≠q0:=fun e=>hq0' (by rw [e]);obtain ⟨i,hi⟩:=VN hq;obtain ⟨j,hj⟩:=VN hq0;obtain ⟨hi',rfl⟩:=Vm.1 hi;obtain ⟨hj',rfl⟩:=Vm.1 hj;rcases XM i j with hlt | heq | hlt
      ·exact (VX.1 h.apart i j hi' hj' hlt).2
      ·subst heq; exact absurd rfl hne
      ·exact (VX.1 h.apart j i hj' hi' hlt).1
     rw [h1,h2]; simp)
   refine aL (by rw [ah hx,ah hql]) fun i=>?_
   have:=hy i
   rw [at_mix (hx.trans hql.symm)] at this;rw [aB,aB]; grind
 ·intro r hr;have hrk:=hdd.keep r hr;refine JK hd hM (S:=Es++(u.done.filter fun i=>decide (dot i r=0))++ps.map fun q=>unitV d q.1) (fun a ha=>?_) hrk.len (h.contR r hr) (fun s hs=>?_) (fun x hx hz=>?_)
  ·rcases Vu.1 ha with ha | ha
   ·rcases Vu.1 ha with ha | ha
    ·exact hE a ha
    ·exact hI a (Vp.1 ha).1
   ·obtain ⟨q,hq,rfl⟩:=Va.1 ha;exact hunit (h.lt q hq)
  ·rcases Vu.1 hs with hs | hs
   ·rcases Vu.1 hs with hs | hs
    ·exact hrk.eq s hs
    ·simpa using (Vp.1 hs).2
   ·obtain ⟨q,hq,rfl⟩:=Va.1 hs;rw [hdu (h.lt q hq) hrk.len];exact h.rays r hr q hq
  ·
   have ⟨n,hn0,hn⟩:∃ n:Int,0<=n/\∀ i∈u.done,dot i r≠0->0<=n*dot i r+dot i x:=by
    have key:∀ (l:List V),(∀ i∈l,0<=dot i r)->∃ n:Int,0<=n/\∀ i∈l,dot i r≠0->0<=n*dot i r+dot i x:=by
     intro l
     induction l with
     | nil=>intro _; exact ⟨0,zO,fun i hi=>by cases hi⟩
     | cons a l ih =>
      intro hl;obtain ⟨n,hn,hl'⟩:=ih fun i hi=>hl i (Vd _ hi);refine ⟨n+(dot a x).natAbs,zO,fun i hi hne=>?_⟩;have h0:=hl i hi;have hpos:1<=dot i r:=zO;have e:(n+((dot a x).natAbs:Int))*dot i r=n*dot i r+(dot a x).natAbs*dot i r:=by grind
      rw [e];have g1:((dot a x).natAbs:Int)*1<=(dot a x).natAbs*dot i r:=YW hpos zO;rcases VA.1 hi with rfl | hi
      ·have g2:=VS hn h0;omega
      ·have:=hl' i hi hne
       omega
    exact key u.done fun i hi=>hrk.ge i hi
   have hxz:∀ i∈u.done,dot i r=0->dot i x=0:=fun i hi h0=>hz i (by simp [hi,h0]);have hy:Keep d (· ∈ Es) (· ∈ u.done) (mix n r 1 x):=by
    refine ⟨mix_length hrk.len hx,fun e he=>?_,fun i hi=>?_⟩
    ·rw [aT _ _ _ (hrk.len.trans hx.symm),hrk.eq e he,hz e (by simp [he])]; simp
    ·rw [aT _ _ _ (hrk.len.trans hx.symm)];by_cases h0:dot i r=0
     ·rw [h0,hxz i hi h0]; simp
     ·have:=hn i hi h0; omega
   obtain ⟨k,c,hk,hc,hsp⟩:=hdd.ext r hr _ hy fun i hi h0=>by
    rw [aT _ _ _ (hrk.len.trans hx.symm),h0,hxz i hi h0]; simp
   have hy0:=hLz hsp fun q hq=>by
    rw [at_mix (hy.len.trans hrk.len.symm),at_mix (hrk.len.trans hx.symm),h.rays r hr q hq]
    have:=hz (unitV d q.1) (WO _ (WW (f:=fun q:Nat × V=>unitV d q.1) hq))
    rw [hdu (h.lt q hq) hx] at this;rw [this]; simp
   refine ⟨k,c-k*n,zO,aL (by rw [ah hx,ah hrk.len]) fun i=>?_⟩
   have:=hy0 i
   rw [at_mix (hy.len.trans hrk.len.symm),at_mix (hrk.len.trans hx.symm)] at this;rw [aB,aB]; grind
end
end Go.Proofs.YteaefaohjlmjdaaGreat.Lin
namespace Go.Proofs.YteaefaohjlmjdaaGreat.Ev
open Go Nn
def QP {x y a:AV} (ha:One a):fu [x,y] [((1,1),a)]=some (.agg [x,a]):=by
 simp [fu,cG,ha.1,ha.2]
theorem al (T0:Tm) (Vs:List AV) (u v w x:Nat × Option Nat):cn T0 Vs [u,v,w,x]=((((List.replicate T0.length .undef).set u.1 (mS T0 Vs u)).set v.1 (mS T0 Vs v)).set w.1 (mS T0 Vs w)).set x.1 (mS T0 Vs x):=rfl
section
variable {tab:Nat->Option aA} {f n:Nat} {res:List (Nat × Option (Option Nat))} {body:ACode} {H:Heap} {Q:AV->Heap->Prop}
def Up {a b c d e:AV} (hf:tab f=some ⟨5,n,res,body,none⟩) (hn:5<=n) (h:∀ T:Tm,T.length=n->ad T 0=a->ad T 1=b->ad T 2=c->ad T 3=d->ad T 4=e->WC tab false body T H (uR res Q)):Ans tab (.fn f [a,b,c,d,e]) H Q :=
 pb hf rfl rfl hn fun T hl g=>h T hl (g 0 (by simp)) (g 1 (by simp)) (g 2 (by simp)) (g 3 (by simp)) (g 4 (by simp))
end
def nl {H:Heap} (hw:Wf H) {v:AV} {l:List Int} (hs:RowV H v l) {i:Nat} (hi:i<l.length):∃ w,bJ H w (l[i]).natAbs/\Ldd H (some 2) (au v (i*2)) (.agg [.bool (decide (l[i]<0)),w])/\cI 2 v (.int .i64 (i:Int))=some (au v (i*2)):=by
 obtain ⟨w,h1,h2,-,-⟩:=je hs hi;exact ⟨w,h1,Ldd.of hw h2,SlV.idx hs .i64 i hi⟩
def BoxI (H:Heap) (b:Nat) (z:Int):Prop:=∃ q,H.get b=some (.cells [.bool (decide (z<0)),q] aa true)/\bJ H q z.natAbs
def BoxI.mono {H H':Heap} (hs:Sub H H') {b:Nat} {z:Int} (h:BoxI H b z):BoxI H' b z:=by
 obtain ⟨q,h1,h2⟩:=h; exact ⟨q,hs.get _ _ h1,h2.mono hs⟩
def BoxR (H:Heap) (b:Nat) (l:List Int):Prop:=∃ q,H.get b=some (.cells [q] af true)/\RowV H q l
def BoxR.mono {H H':Heap} (hs:Sub H H') {b:Nat} {l:List Int} (h:BoxR H b l):BoxR H' b l:=by
 obtain ⟨q,h1,h2⟩:=h; exact ⟨q,hs.get _ _ h1,h2.mono hs⟩
section
variable {tab:Nat->Option aA} {H:Heap} {s:AV}
def Dp (C:Code tab) (hw:Wf H) {i:Int} {a:AV} {b:Nat} {x y:Int} (ha:IntV H a x) (hb:BoxI H b y) (hx:MuI x) (hy:MuI y) :
  Ans tab (.fn mp [.int .i64 i,a,.ptr b 0]) H fun v H'=>IntV H' v (x*y)/\Kp H H':=by
 obtain ⟨p,rfl,hp⟩:=ha;obtain ⟨q,hb,hq⟩:=hb;have op:=hp.one;have lb:=hw _ _ hb;refine kS C.q154 zU fun T hl g0 g1 g2=>?_;refine zW (bA hl g0 g1 g2 hb) ?_;refine AnsH.use (mU C zF ⟨p,rfl,hp.mono (zG H)⟩ ⟨q,rfl,hq.mono (zG H)⟩ hx hy) ?_;rintro v H2 ⟨⟨w,rfl,hr⟩,hk2⟩;obtain ⟨k2,_,w2⟩:=zT H zK hk2;have ow:=hr.one;have d1:=hk2.get (b:=H.next+1) (e:=.cells [.bool false,.nilSl] aa true) (cH);have lt1:=w2 _ _ d1;have m1:NoTy [ae] H2 (H.next+1):=NoTy.ty d1 zU;refine zW (bA hl g0 g1 g2 d1) ?_;exact ⟨⟨w,rfl,SlV.monoT (E:=bS cj) zS hr⟩,zK⟩
def uJ (C:Code tab) (hw:Wf H) {a:AV} {l:List Int} {y:Int} (hs:RowV H s l) (ha:IntV H a y) (h64:l.length<=64) (hl':∀ z∈l,MuI z) (hy:MuI y) :
  Ans tab (.fn nf [s,a]) H fun v H'=>∃ r,v=.tup [r,.int .i64 0]/\RowV H' r (Lin.scl y l)/\Kp H H'/\Fr H r:=by
 obtain ⟨q,rfl,hq⟩:=ha;have oq:=hq.one;have os:=hs.one;refine bB C.q137 zU fun T hl g0 g1=>?_;refine zW (aE hl g0 g1) ?_;refine AnsH.eq (gg C (d:=l.length) zF (St hs (zG H) (by refine uH ?_; rfl)) (by simp) (by simp) h64 fun r hr=>?_) fun H2 hk2=>?_
 ·simp at hr; subst hr; exact ⟨rfl,fun z hz=>(hl' z hz).sm⟩
 obtain ⟨k2,_,w2⟩:=zT H zK hk2;have b0:=hk2.get (b:=H.next) (e:=.cells [.bool (decide (y<0)),q] aa true) (cH);refine zW (aQ hl g0 g1 @b0) ?_;refine AnsH.eq (eM C zF ⟨q,rfl,hq.mono (zG H)⟩ hy.sm) fun H3 hk3=>?_;obtain ⟨k3,_,w3⟩:=zT H zK hk3;have c0:=hk3.get (b:=H.next) b0;refine zW (aE hl g0 g1) ?_;refine AnsH.use (ya C zF (hs.mono (zG H)) zO (fun _ z=>z*y) fun i hi H' w hk hv=>?_) ?_
 ·exact Dp C hk.wf hv ⟨q,hk.get (b:=H.next) (zV c0),hq.mono (Kp.sub (H:=H) (Kp.trans zK hk))⟩ (hl' _ (U9 hi)) hy
 ·rintro v H4 ⟨hr,hk4,hf4⟩;obtain ⟨k4,_,_⟩:=zT H zK hk4;have e:l.mapIdx (fun _ z=>z*y)=Lin.scl y l:=by
   apply W4 <;> simp [Lin.scl,Int.mul_comm]
  rw [e] at hr;refine zW (aE hl g0 g1) ?_;exact ⟨_,rfl,hr,zK,fun b hb=>Vn k3.le (Vn (VH _ _) (hf4 b hb))⟩
def KA (C:Code tab) (hw:Wf H) {a:AV} {l:List Int} {y:Int} (hs:RowV H s l) (ha:IntV H a y) (h64:l.length<=64) (hl':∀ z∈l,MuI z) (hy:MuI y) :
  Ans tab (.fn nf [s,a]) H fun v H'=>∃ r,v=.tup [r,.int .i64 0]/\RowV H' r (Lin.scl y l)/\Kp H H':=(uJ C hw hs ha h64 hl' hy).mono fun _ _ ⟨r,h1,h2,h3,_⟩=>⟨r,h1,h2,h3⟩
def MD {l m:List Int} (h:l.length=m.length) (g:Int->Int->Int):l.mapIdx (fun i z=>g z (m.getD i 0))=List.zipWith g l m:=by
 apply W4
 ·simp [h]
 ·intro i h1 h2;have hi:i<m.length:=by simp at h1; omega
  simp [hi]
def Hj (C:Code tab) (hw:Wf H) {i:Nat} {a:AV} {bm bn b:Nat} {x m n:Int} {l:List Int} (hi:i<l.length) (ha:IntV H a x) (hm:BoxI H bm m) (hn:BoxI H bn n) (hb:BoxR H b l) (hx:MuI x) (hmm:MuI m) (hnn:MuI n) (hy:MuI l[i]) (hp1:dJ (m*x)) (hp2:dJ (n*l[i])) :
  Ans tab (.fn pD [.int .i64 (i:Int),a,.ptr bm 0,.ptr bn 0,.ptr b 0]) H fun v H'=>IntV H' v (m*x+n*l[i])/\Kp H H':=by
 obtain ⟨p,rfl,hp⟩:=ha;obtain ⟨q,hb,hq⟩:=hb;obtain ⟨mq,hmb,hmq⟩:=hm;obtain ⟨nq,hnb,hnq⟩:=hn;have op:=hp.one;have lb:=hw _ _ hb;have lm:=hw _ _ hmb;have ln:=hw _ _ hnb;obtain ⟨w,hwn,L,hix⟩:=nl hw hq hi;have Lp:=L.put;have Ll:=L.ld;refine Up C.q45 zU fun T hl g0 g1 g2 g3 g4=>?_;refine zW (dL hl g0 g1 g2 g3 g4) ?_;refine aF ?_;refine zD (zq hl g0 g1 g2 g3 g4 hb hmb hnb hix Lp Ll) ?_;refine AnsH.use (mU C zF ⟨mq,rfl,hmq.mono (zG H)⟩ ⟨p,rfl,hp.mono (zG H)⟩ hmm hx) ?_;rintro v H2 ⟨hr2,hk2⟩;obtain ⟨k2,_,w2⟩:=zT H zK hk2;have L2:=L.mono k2;have Lp2:=L2.put;have Ll2:=L2.ld;have hb2:=k2.get hb;have hnb2:=k2.get hnb;have hmb2:=k2.get hmb;refine zD (Ps hl g0 g1 g2 g3 g4 hb hmb hnb hix Lp Ll Lp2 Ll2 hb2 hnb2 hmb2) ?_;refine AnsH.use (mU C zF ⟨nq,rfl,hnq.mono (zG H)⟩ ⟨w,rfl,hwn.mono (zG H)⟩ hnn hy) ?_;rintro v3 H3 ⟨hr3,hk3⟩;obtain ⟨k3,_,w3⟩:=zT H zK hk3;refine zD (Ps hl g0 g1 g2 g3 g4 hb hmb hnb hix Lp Ll Lp2 Ll2 hb2 hnb2 hmb2) ?_;refine AnsH.use (I8 C zF (hr2.mono hk3.sub) hr3 hp1 hp2) ?_;rintro v4 H4 ⟨⟨r,rfl,hr⟩,hk4⟩;obtain ⟨k4,_,w4⟩:=zT H zK hk4;have orr:=hr.one;have d1:=hk4.get (b:=H.next+1) (hk3.get (b:=H.next+1) (hk2.get (b:=H.next+1) (e:=.cells [.bool false,.nilSl] aa true) (cH)));have lt1:=w4 _ _ d1;have m1:NoTy [ae] H4 (H.next+1):=NoTy.ty d1 zU;refine zD (Pr hl g0 g1 g2 g3 g4 hb hmb hnb hix Lp Ll Lp2 Ll2 hb2 hnb2 hmb2 d1) ?_;exact ⟨⟨r,rfl,SlV.monoT (E:=bS cj) zS hr⟩,zK⟩
def Dt (C:Code tab) (hw:Wf H) {vm vn a b:AV} {m n:Int} {x y:List Int} (hm:IntV H vm m) (hn:IntV H vn n) (ha:RowV H a x) (hb:RowV H b y) (hxy:x.length=y.length) (h64:x.length<=64) (hmm:MuI m) (hnn:MuI n) (hx':∀ z∈x,MuI z/\dJ (m*z)) (hy':∀ z∈y,MuI z/\dJ (n*z)) :
  Ans tab (.fn xd [vm,a,vn,b]) H fun v H'=>∃ r,v=.tup [r,.int .i64 0]/\RowV H' r (Lin.mix m x n y)/\Kp H H':=by
 obtain ⟨mq,rfl,hmq⟩:=hm;obtain ⟨nq,rfl,hnq⟩:=hn;have om:=hmq.one;have on:=hnq.one;have oa:=ha.one;have ob:=hb.one;refine LJ C.q21 zU fun T hl g0 g1 g2 g3=>?_;refine zW (bA hl g0 g1 g2 g3) ?_;refine AnsH.eq (eM C zF ⟨mq,rfl,hmq.mono (zG H)⟩ hmm.sm) fun H2 hk2=>?_;obtain ⟨k2,_,w2⟩:=zT H zK hk2;have b0:=hk2.get (b:=H.next) (e:=.cells [.bool (decide (m<0)),mq] aa true) (cH);have b1:=hk2.get (b:=H.next+1) (e:=.cells [.bool (decide (n<0)),nq] aa true) (cH);have b2:=hk2.get (b:=H.next+2) (e:=.cells [b] af true) (cH);refine zW (dL hl g0 g1 g2 g3 b1) ?_;refine AnsH.eq (eM C zF ⟨nq,rfl,hnq.mono (zG H)⟩ hnn.sm) fun H3 hk3=>?_;obtain ⟨k3,_,w3⟩:=zT H zK hk3;have c0:=hk3.get (b:=H.next) b0;have c1:=hk3.get (b:=H.next+1) b1;have c2:=hk3.get (b:=H.next+2) b2;have lt2:=w3 _ _ c2;refine zW (dL hl g0 g1 g2 g3 @c2) ?_;refine AnsH.eq (gg C (d:=x.length) zF (B2 ha hb (zG H) (by refine uH ?_; rfl)) (by simp) (by simp) h64 fun r hr=>?_) fun H4 hk4=>?_
 ·simp at hr; rcases hr with rfl | rfl
  ·exact ⟨rfl,fun z hz=>(hx' z hz).1.sm⟩
  ·exact ⟨hxy.symm,fun z hz=>(hy' z hz).1.sm⟩
 obtain ⟨k4,_,w4⟩:=zT H zK hk4;have d0:=hk4.get (b:=H.next) (e:=.cells [.bool (decide (m<0)),mq] aa true) (zV c0);have d1:=hk4.get (b:=H.next+1) (e:=.cells [.bool (decide (n<0)),nq] aa true) (zV @c1);have d2:=hk4.get (b:=H.next+2) (e:=.cells [b] af true) (zV @c2);refine zW (bA hl g0 g1 g2 g3) ?_;refine AnsH.use (zz C zF (ha.mono (zG H)) zO (fun i z=>m*z+n*y.getD i 0) fun i hi H' w hk hv=>?_) ?_
 ·have hi2:i<y.length:=zO;have e:y.getD i 0=y[i]:=by simp [hi2]
  have ks:Sub H H':=Kp.sub (H:=H) (Kp.trans zK hk);show Ans tab _ H' fun v H2=>IntV H2 v (m*x[i]+n*y.getD i 0)/\Kp H' H2;rw [e];exact Hj C hk.wf hi2 hv ⟨mq,hk.get (b:=H.next) (zV d0),hmq.mono ks⟩ ⟨nq,hk.get (b:=H.next+1) (zV d1),hnq.mono ks⟩ ⟨b,hk.get (b:=H.next+2) (zV d2),hb.mono ks⟩ (hx' _ (U9 hi)).1 hmm hnn (hy' _ (U9 hi2)).1 (hx' _ (U9 hi)).2 (hy' _ (U9 hi2)).2
 ·rintro v H5 ⟨hr,hk5⟩;obtain ⟨k5,_,_⟩:=zT H zK hk5;rw [MD hxy (fun u v=>m*u+n*v)] at hr;refine zW (bA hl g0 g1 g2 g3) ?_;exact ⟨_,rfl,hr,zK⟩
def xH (a b:List Int) (j:Nat):Int:=Lin.dot (a.take j) (b.take j)
def Gd:∀ (a b:List Int) (x y:Int),a.length=b.length->Lin.dot (a++[x]) (b++[y])=Lin.dot a b+x*y
 | [],[],x,y,_=>by simp [Lin.dot]
 | [],_ :: _,x,y,h=>by simp at h
 | _ :: _,[],x,y,h=>by simp at h
 | u :: a,v :: b,x,y,h=>by
  have:=Gd a b x y (by simpa using h)
  simp only [Xf,Lin.dot,this];omega
def xG {a b:List Int} {j:Nat} (ha:j<a.length) (hb:j<b.length):xH a b (j+1)=xH a b j+a[j]*b[j]:=by
 unfold xH;rw [Vi ha,Vi hb,Gd _ _ _ _ (by simp; omega)]
def Ge {a b:List Int} (h:a.length=b.length):xH a b a.length=Lin.dot a b:=by
 unfold xH;rw [VD,h,VD]
def PU (C:Code tab) (hw:Wf H) {a b:AV} {x y:List Int} (ha:RowV H a x) (hb:RowV H b y) (hxy:x.length=y.length) (h64:x.length<=64) (hx':∀ z∈x,MuI z) (hy':∀ z∈y,MuI z) (hp:∀ i (h:i<x.length) (h':i<y.length),dJ (x[i]*y[i])) (hS:∀ j,j<=x.length->dJ (xH x y j)) :
  Ans tab (.fn sA [a,b]) H fun v H'=>∃ r,v=.tup [r,.int .i64 0]/\IntV H' r (Lin.dot x y)/\Kp H H':=by
 have oa:=ha.one;have ob:=hb.one;refine bB C.q52 zU fun T hl g0 g1=>?_;refine zW (aE hl g0 g1) ?_;refine AnsH.eq (gg C (d:=x.length) zF (B2 ha hb (zG H) (by refine uH ?_; rfl)) (by simp) (by simp) h64 fun r hr=>?_) fun H2 hk2=>?_
 ·simp at hr; rcases hr with rfl | rfl
  ·exact ⟨rfl,fun z hz=>(hx' z hz).sm⟩
  ·exact ⟨hxy.symm,fun z hz=>(hy' z hz).sm⟩
 obtain ⟨k2,_,w2⟩:=zT H zK hk2;have b0:=hk2.get (b:=H.next) (e:=.cells [.bool false,.nilSl] aa true) (cH);refine zW (aQ hl g0 g1 ha.lenV) ?_;refine aq H [] (fun j _ H'=>BoxI H' H.next (xH x y j)) (a:=0) (N:=x.length) rfl (by refine zW (aE hl g0 g1) ?_; rfl) (zV (aE hl g0 g1)) (Vj _) zO (by simp only [U4,hl]; rfl) rfl (fun j vs H' m h=>h.mono (Sub.bump H' m)) zK ⟨.nilSl,by refine zW @b0 ?_; simp [xH,Lin.dot],by simpa [xH,Lin.dot] using eN _⟩ ?_ ?_
 ·rintro j T1 H1 _ hj hl1 hi1 hs1 hk1 ⟨q,hq0,hq⟩;have w1:=hk1.wf;have le_hk1:=hk1.le;have hj2:j<y.length:=zO;have t14:ad T1 14=a:=(hs1.at_ 14 zU).trans (zV (aD hl g0));have t4:ad T1 4=.ptr H.next 0:=(hs1.at_ 4 zU).trans (zV (aE hl g0 g1))
  have t1:ad T1 1=b:=(hs1.at_ 1 zU).trans (zV (aQ hl g0 g1 g1));obtain ⟨w,hn,hld,-,-⟩:=je (ha.mono hk1.sub) hj;have hix:cI 2 a (.int .i64 (j:Int))=some (au a (j*2)):=SlV.idx ha .i64 j hj;obtain ⟨u,hu,L,hiy⟩:=nl w1 (hb.mono hk1.sub) hj2;have ow:=hn.one;have lt0:=w1 _ _ hq0;have Lp:=L.put;have Ll:=L.ld;have oq:=hq.one;simp only [U4,hl] at hl1;refine zW (bA hl1 t14 hi1 hix hld) ?_;refine aF ?_;refine zD (iy hl1 t4 t1 hi1 hq0 hiy Lp Ll) ?_;refine AnsH.use (mU C zF ⟨w,rfl,hn.mono (zG H1)⟩ ⟨u,rfl,hu.mono (zG H1)⟩ (hx' _ (U9 hj)) (hy' _ (U9 hj2))) ?_;rintro v H3 ⟨hr3,hk3⟩;obtain ⟨k13,_,_⟩:=zT H1 zK hk3;have k3:Kp H H3:=Kp.trans hk1 k13;have le_k3:=k3.le;have w3:=k3.wf;have hq3:=k13.get hq0;refine zD (jW hl1 t4 t1 hi1 hq0 hiy Lp Ll hq3) ?_;refine AnsH.use (I8 C zF ⟨q,rfl,hq.mono (zG H1)⟩ hr3 (hS j zO) (hp j hj hj2)) ?_;rintro v4 H4 ⟨⟨r,rfl,hr⟩,hk4⟩;have k4:Kp H H4:=Kp.trans k3 hk4;have le_k4:=k4.le;have w4:=k4.wf;have orr:=hr.one;have hq4:=hk4.get hq3;have lt04:=w4 _ _ hq4;have m0:NoTy [ae] H4 H.next:=NoTy.ty hq4 zU
  refine zD (qz hl1 t4 t1 hi1 hq0 hiy Lp Ll hq3 hq4) ?_;refine ⟨zK,r,?_,?_⟩
  ·rw [xG hj hj2]; exact cH
  ·rw [xG hj hj2]; exact SlV.monoT (E:=bS cj) zS hr
 ·rintro T1 H1 hl1 hs1 hk1 ⟨q,hq0,hq⟩;have w1:=hk1.wf;have le_hk1:=hk1.le;have t4:ad T1 4=.ptr H.next 0:=(hs1.at_ 4 zU).trans (zV (aE hl g0 g1))
  have t5:ad T1 5=.int .i64 0:=(hs1.at_ 5 zU).trans (zV (aE hl g0 g1));simp only [U4,hl] at hl1;rw [Ge hxy] at hq0 hq;refine zW (aQ hl1 t4 t5 hq0) ?_;exact ⟨_,rfl,⟨q,rfl,hq⟩,zK⟩
end
def Bb {l:List Int} (h:∀ z∈l,dJ z):Sm (Lin.content l):=by
 by_cases h0:Lin.content l=0
 ·rw [h0]; unfold Sm; rw [cK]; simp
 ·have hex:∃ a∈l,a≠0:=VP fun hn=>h0 (Lin.content_eq_zero.2 fun a ha=>VP fun hne=>hn ⟨a,ha,hne⟩);obtain ⟨a,ha,hne⟩:=hex;have hd:=Lin.content_dvd ha;have hle:Lin.content l<=a.natAbs:=Nat.le_of_dvd zO (Ys.1 hd);exact Sm.mono hle (h a ha)
def EC {l:List Int} {j:Nat} (hj:j<l.length):Lin.content (l.take (j+1))=Nat.gcd (Lin.content (l.take j)) (l[j]).natAbs:=by
 unfold Lin.content;rw [Vi hj,Yg];rfl
section
variable {tab:Nat->Option aA} {H:Heap} {s:AV}
def EX (C:Code tab) (hw:Wf H) {l:List Int} (hs:RowV H s l) (h64:l.length<=64) (hz:∀ z∈l,dJ z) :
  Ans tab (.fn nP [s]) H fun v H'=>∃ r,v=.tup [r,.int .i64 0]/\bJ H' r (Lin.content l)/\Kp H H':=by
 have os:=hs.one;refine cR C.q157 zU fun T hl g0=>?_;refine zW (aD hl g0) ?_;refine AnsH.eq (gg C (d:=l.length) zF (St hs (zG H) (by refine uH ?_; rfl)) (by simp) (by simp) h64 fun r hr=>?_) fun H2 hk2=>?_
 ·simp at hr; subst hr; exact ⟨rfl,hz⟩
 obtain ⟨k2,_,w2⟩:=zT H zK hk2;refine zW (aE hl g0 hs.lenV) ?_;refine aq H [2] (fun j vs H'=>∃ c,vs=[c]/\bJ H' c (Lin.content (l.take j))) (a:=0) (N:=l.length) rfl (by refine zW (aD hl g0) ?_; rfl) (zV (aD hl g0)) (Vj _) zO (by simp only [U4,hl]; rfl) rfl (fun j vs H' m ⟨c,h1,h2⟩=>⟨c,h1,h2.mono (Sub.bump H' m)⟩) zK ⟨.nilSl,by exact zV (aD hl g0),by simpa [Lin.content] using eN _⟩ ?_ ?_
 ·rintro j T1 H1 _ hj hl1 hi1 hs1 hk1 ⟨c,hv,hc⟩;have w1:=hk1.wf;have le_hk1:=hk1.le;simp only [Ve,Vk,Vg,and_true] at hv;have t11:ad T1 11=s:=(hs1.at_ 11 zU).trans (zV (aD hl g0));obtain ⟨w,hn,hld,-,-⟩:=je (hs.mono hk1.sub) hj;have hix:cI 2 s (.int .i64 (j:Int))=some (au s (j*2)):=SlV.idx hs .i64 j hj;have ow:=hn.one;simp only [U4,hl] at hl1;refine zW (dL hl1 t11 hi1 hix hld hv) ?_;refine AnsH.use (QF C zF (hc.mono (zG H1)) (hn.mono (zG H1)) (Bb fun z h=>hz z (Xh h)) (hz _ (U9 hj))) ?_;rintro v H3 ⟨r,rfl,hr,hk3⟩;obtain ⟨k3,_,w3⟩:=zT H zK hk3;refine zW hl1 ?_;refine ⟨zK,_,rfl,?_⟩;rw [EC hj];exact hr
 ·rintro T1 H1 hl1 hs1 hk1 ⟨c,hv,hc⟩;have w1:=hk1.wf;have le_hk1:=hk1.le;simp only [Ve,Vk,Vg,and_true] at hv;have t3:ad T1 3=.int .i64 0:=(hs1.at_ 3 zU).trans (zV (aD hl g0));simp only [U4,hl] at hl1;rw [VD] at hc;refine zW (aE hl1 hv t3) ?_;exact ⟨_,rfl,hc,zK⟩
def EW (C:Code tab) (hw:Wf H) {i:Int} {a:AV} {x:Int} (ha:IntV H a x) (hx:dJ x) :
  Ans tab (.fn nO [.int .i64 i,a]) H fun v H'=>IntV H' v x/\Kp H H':=by
 obtain ⟨p,rfl,hp⟩:=ha;have op:=hp.one;refine bB C.q144 zU fun T hl g0 g1=>?_;refine zW (aE hl g0 g1) ?_;refine aF ?_;refine zD (aE hl g0 g1) ?_;refine AnsH.use (gJ C zF (hp.mono (zG H)) (by unfold dJ Sm at hx; omega)) ?_;rintro v H2 ⟨hr,hk2⟩;obtain ⟨k2,_,w2⟩:=zT H zK hk2;have orr:=hr.one;have b0:=hk2.get (b:=H.next) (e:=.cells [.bool (decide (x<0)),p] aa true) (cH);have d1:=hk2.get (b:=H.next+1) (e:=.cells [.bool false,.nilSl] aa true) (cH);have lt1:=w2 _ _ d1;have m1:NoTy [ae] H2 (H.next+1):=NoTy.ty d1 zU;refine zD (bA hl g0 g1 @b0 d1) ?_;exact ⟨⟨v,rfl,SlV.monoT (E:=bS cj) zS hr⟩,zK⟩
def zA (C:Code tab) (hw:Wf H) {l:List Int} (hs:RowV H s l) (hbig:l.length<1099511627776) (hz:∀ z∈l,dJ z) :
  Ans tab (.fn tZ [s]) H fun v H'=>RowV H' v l/\Kp H H':=by
 refine cR C.q119 zU fun T hl g0=>?_;refine zW (aD hl g0) ?_;refine AnsH.use (zz C zF (hs.mono (zG H)) hbig (fun _ z=>z) fun i hi H' w hk hv=>EW C hk.wf hv (hz _ (U9 hi))) ?_;rintro v H2 ⟨hr,hk2⟩;obtain ⟨k2,_,_⟩:=zT H zK hk2;have e:l.mapIdx (fun _ z=>z)=l:=by apply W4 <;> simp
 rw [e] at hr;refine zW (aD hl g0) ?_;exact ⟨hr,zK⟩
def Dq (C:Code tab) (hw:Wf H) {i:Int} {a q:AV} {b n:Nat} {x:Int} (ha:IntV H a x) (hb:H.get b=some (.cells [q] aI true)) (hq:bJ H q n) (h0:n≠0) (hd:(n:Int) ∣ x) (hx:dJ x) (hn:Sm n) :
  Ans tab (.fn mr [.int .i64 i,a,.ptr b 0]) H fun v H'=>IntV H' v (x / n)/\Kp H H':=by
 obtain ⟨p,rfl,hp⟩:=ha;have op:=hp.one;have oq:=hq.one;have lb:=hw _ _ hb;refine kS C.q158 zU fun T hl g0 g1 g2=>?_;have hb1:fu [.bool false,.nilSl] [((1,1),q)]=some (.agg [.bool false,q]):=QP oq;refine zW (dL hl g0 g1 g2 hb hb1) ?_;refine AnsH.use (EU C (y:=(n:Int)) zF ⟨p,rfl,hp.mono (zG H)⟩ ⟨q,by rw [decide_eq_false zO],by simpa using hq.mono (zG H)⟩ hx (by unfold dJ; simpa using hn) zO ?_) ?_
 ·rw [Xx]; exact Nat.mod_eq_zero_of_dvd (Ys.1 hd)
 rintro v H2 ⟨r,rfl,⟨w,rfl,hr⟩,hk2⟩;rw [Int.tdiv_eq_ediv_of_dvd hd] at hr ⊢;obtain ⟨k2,_,w2⟩:=zT H zK hk2;have ow:=hr.one;have n2:H.next+12<=H2.next:=hk2.le
 have d1:=hk2.get (b:=H.next+1) (e:=.cells [.bool false,.nilSl] aa true) (cH);have f2:H2.get (H.next+9)=none:=hk2.free (show _<H.next+12 by omega) (by rw [az zO,az zO]; exact hw.fresh (b:=H.next+9) zO);have m1:NoTy [ae] H2 (H.next+1):=NoTy.ty d1 zU;have m9:NoTy [ae] H2 (H.next+9):=NoTy.none f2;refine zW (bA hl g0 g1 g2 d1) ?_;exact ⟨⟨w,rfl,SlV.monoT (E:=bS cj) zS hr⟩,zK⟩
def wL (C:Code tab) (hw:Wf H) {l:List Int} (hs:RowV H s l) (h64:l.length<=64) (hz:∀ z∈l,dJ z) :
  Ans tab (.fn qY [s]) H fun v H'=>∃ r,v=.tup [r,.int .i64 0]/\RowV H' r (Lin.prime l)/\Kp H H':=by
 refine cR C.q141 zU fun T hl g0=>?_;refine zW (aD hl g0) ?_;refine AnsH.use (EX C zF (hs.mono (zG H)) h64 hz) ?_;rintro v H2 ⟨c,rfl,hc,hk2⟩;obtain ⟨k2,_,w2⟩:=zT H zK hk2;have oc:=hc.one;have n2:H.next+10<=H2.next:=hk2.le
 have f2:H2.get (H.next+7)=none:=hk2.free (show _<H.next+10 by omega) (hw.fresh (b:=H.next+7) zO);have hlen:=bI (Lin.content l);refine zW (aE hl g0 hc.lenV) ?_;refine iteH.split (fun h=>?_) fun h=>?_
 ·have h0:Lin.content l=0:=zO;refine zW (aD hl g0) ?_;refine AnsH.use (zA C zF (hs.mono (zG H)) zO hz) ?_;rintro v H3 ⟨hr,hk3⟩;obtain ⟨k3,_,_⟩:=zT H zK hk3;refine zW (aD hl g0) ?_;refine ⟨_,rfl,?_,zK⟩;unfold Lin.prime;rw [if_pos h0];exact hr
 ·have h0:Lin.content l≠0:=zO;refine zW (aD hl g0) ?_;have s2:∀ m,Sub H2 (((H2.up m).put (H.next+7) (.cells [.nilSl] aI true)).put (H.next+7) (.cells [c] aI true)):=fun m=>(Sub.bump H2 m).trans ((aJ (H:=H2.up m) f2).put f2 _);refine AnsH.use (zz C zF (hs.mono (zG H)) zO (fun _ z=>z / (Lin.content l:Int)) fun i hi H' w hk hv=>?_) ?_
  ·exact Dq C hk.wf hv (hk.get (b:=H.next+7) (cH)) ((hc.mono (s2 _)).mono hk.sub) h0 (Lin.content_dvd (U9 hi)) (hz _ (U9 hi)) (Bb hz)
  ·rintro v H4 ⟨hr,hk4⟩;obtain ⟨k4,_,_⟩:=zT H zK hk4;have e:l.mapIdx (fun _ z=>z / (Lin.content l:Int))=Lin.prime l:=by
    unfold Lin.prime;rw [if_neg h0]
    apply W4 <;> simp
   rw [e] at hr;refine zW (aD hl g0) ?_;exact ⟨_,rfl,hr,zK⟩
def B4 (c:Int->Int->Int):List Int->List Int->Int
 | x :: l,y :: m=>if c x y=0 then B4 c l m else c x y
 | _,_=>0
def Gq {c:Int->Int->Int}:∀ {l m:List Int} {j:Nat} (hj:j<l.length) (hj':j<m.length),(∀ k (h:k<l.length) (h':k<m.length),k<j->c l[k] m[k]=0)->c l[j] m[j]≠0->B4 c l m=c l[j] m[j]
 | [],m,j,hj,_,_,_=>by simp at hj
 | _ :: _,[],j,_,hj',_,_=>by simp at hj'
 | x :: l,y :: m,0,_,_,_,h1=>by
  have h1':¬ c x y=0:=h1;show (if c x y=0 then B4 c l m else c x y)=_;rw [if_neg h1']; rfl
 | x :: l,y :: m,j+1,hj,hj',h0,h1=>by
  have h1':c x y=0:=h0 0 (by simp) (by simp) zO;show (if c x y=0 then B4 c l m else c x y)=_;rw [if_pos h1'];exact Gq (by simpa using hj) (by simpa using hj') (fun k h h' hk=>h0 (k+1) (by simpa using h) (by simpa using h') zO) h1
def CT {c:Int->Int->Int}:∀ {l m:List Int},(∀ k (h:k<l.length) (h':k<m.length),c l[k] m[k]=0)->B4 c l m=0
 | [],m,_=>by cases m <;> rfl
 | _ :: _,[],_=>rfl
 | x :: l,y :: m,h0=>by
  have h1':c x y=0:=h0 0 (by simp) (by simp);show (if c x y=0 then B4 c l m else c x y)=_;rw [if_pos h1'];exact CT fun k h h'=>h0 (k+1) (by simpa using h) (by simpa using h')
def za (C:Code tab) (hw:Wf H) {fi:Nat} {first caps:List AV} {a b:AV} {l m:List Int} (ha:RowV H a l) (hb:RowV H b m) (hlm:l.length=m.length) (hbig:l.length<1099511627776) (c:Int->Int->Int)
  (hf:∀ i (h:i<l.length) (h':i<m.length) H' u v,Kp H H'->IntV H' u l[i]->IntV H' v m[i]->Ans tab (.fn fi (first++[u,v]++caps)) H' fun r H2=>r=.int .i64 (c l[i] m[i])/\Kp H' H2) :
  Ans tab (.fn aZ [a,b,.fn (.func fi) first caps]) H fun r H'=>r=.int .i64 (B4 c l m)/\Kp H H':=by
 refine kS C.q145 zU fun T hl g0 g1 g2=>?_;refine zW (bA hl g0 g1 g2 ha.lenV) ?_;refine aq H [] (fun j _ _=>∀ k (h:k<l.length) (h':k<m.length),k<j->c l[k] m[k]=0) (a:=0) (N:=l.length) rfl (by refine zW (aQ hl g0 g1 g2) ?_; rfl) (zV (aQ hl g0 g1 g2)) (Vj _) zO (by simp only [U4,hl]; rfl) rfl (fun _ _ _ _ h=>h) zK (fun k _ _ h=>by omega) ?_ ?_
 ·intro j T1 H1 _ hj hl1 hi1 hs1 hk1 hP;have w1:=hk1.wf;have le_hk1:=hk1.le;have hj2:j<m.length:=zO;have t11:ad T1 11=a:=(hs1.at_ 11 zU).trans (zV (aD hl g0));have t1:ad T1 1=b:=(hs1.at_ 1 zU).trans (zV (bA hl g0 g1 g2 g1));have t2:ad T1 2=.fn (.func fi) first caps:=(hs1.at_ 2 zU).trans (zV (bA hl g0 g1 g2 g2))
  obtain ⟨w,hn,hld,-,-⟩:=je (ha.mono hk1.sub) hj;have hix:cI 2 a (.int .i64 (j:Int))=some (au a (j*2)):=SlV.idx ha .i64 j hj;obtain ⟨u,hu,L,hiy⟩:=nl w1 (hb.mono hk1.sub) hj2;have ow:=hn.one;have ou:=hu.one;have Lp:=L.put;have Ll:=L.ld;have hge:¬ m.length<=j:=zO;simp only [U4,hl] at hl1;refine zW (zq hl1 t11 t1 t2 hi1 hix hld hb.lenV hge hiy Lp Ll) ?_;refine AnsH.eq (hf j hj hj2 _ (.agg [.bool (decide (l[j]<0)),w]) (.agg [.bool (decide (m[j]<0)),u]) zK ⟨w,rfl,hn.mono (zG H1)⟩ ⟨u,rfl,hu.mono (zG H1)⟩) fun H2 hk2=>?_;obtain ⟨k2,_,_⟩:=zT H zK hk2;by_cases hz:c l[j] m[j]=0
  ·refine zW (aD hl1 hz) ?_;refine ⟨zK,fun k h h' hk=>?_⟩;by_cases e:k=j
   ·subst e; exact hz
   ·exact hP k h h' zO
  ·refine zW (aD hl1 hz) ?_;exact ⟨by rw [Gq hj hj2 hP hz],zK⟩
 ·intro T1 H1 hl1 hs1 hk1 hP;have t0:ad T1 0=a:=(hs1.at_ 0 zU).trans (zV (aD hl g0));have t1:ad T1 1=b:=(hs1.at_ 1 zU).trans (zV (bA hl g0 g1 g2 g1));have e1:lenV a=some (.int .i64 (m.length:Int)):=by rw [ha.lenV,hlm]
  simp only [U4,hl] at hl1;refine zW (bA hl1 t0 t1 e1 hb.lenV) ?_;exact ⟨by rw [CT fun k h h'=>hP k h h' h],zK⟩
def Hk (C:Code tab) (hw:Wf H) {a b:AV} {x y:Int} (ha:IntV H a x) (hb:IntV H b y) (hx:dJ x) (hy:dJ y) :
  Ans tab (.fn pE [a,b]) H fun v H'=>v=.int .i64 (ik (x-y))/\Kp H H':=by
 obtain ⟨p,rfl,hp⟩:=ha;obtain ⟨q,rfl,hq⟩:=hb;have op:=hp.one;have oq:=hq.one;refine bB C.q146 zU fun T hl g0 g1=>?_;refine zW (aE hl g0 g1) ?_;refine AnsH.eq (Ch C zF ⟨p,rfl,hp.mono (zG H)⟩ ⟨q,rfl,hq.mono (zG H)⟩ hx hy) fun H2 hk2=>?_;obtain ⟨k2,_,_⟩:=zT H zK hk2;refine zW (aE hl g0 g1) ?_;exact zK
def EF (l m:List Int):Int:=B4 (fun x y=>ik (x-y)) l m
def PV (C:Code tab) (hw:Wf H) {a b:AV} {l m:List Int} (ha:RowV H a l) (hb:RowV H b m) (hlm:l.length=m.length) (h64:l.length<=64) (hl':∀ z∈l,dJ z) (hm':∀ z∈m,dJ z) :
  Ans tab (.fn xe [a,b]) H fun v H'=>v=.tup [.int .i64 (EF l m),.int .i64 0]/\Kp H H':=by
 have oa:=ha.one;have ob:=hb.one;refine bB C.q120 zU fun T hl g0 g1=>?_;refine zW (aE hl g0 g1) ?_;refine AnsH.eq (gg C (d:=l.length) zF (B2 ha hb (zG H) (by refine uH ?_; rfl)) (by simp) (by simp) h64 fun r hr=>?_) fun H2 hk2=>?_
 ·simp at hr; rcases hr with rfl | rfl
  ·exact ⟨rfl,hl'⟩
  ·exact ⟨hlm.symm,hm'⟩
 obtain ⟨k2,_,w2⟩:=zT H zK hk2;refine zW (aE hl g0 g1) ?_;refine AnsH.eq (za C zF (ha.mono (zG H)) (hb.mono (zG H)) hlm zO (fun x y=>ik (x-y)) fun i h h' H' u v hk hu hv=>Hk C hk.wf hu hv (hl' _ (U9 h)) (hm' _ (U9 h'))) fun H3 hk3=>?_;obtain ⟨k3,_,_⟩:=zT H zK hk3;refine zW (aE hl g0 g1) ?_;exact ⟨rfl,zK⟩
end
abbrev Pc (H:Heap) (v:AV) (ls:List (List (Bool × List Nat))):Prop:=BR (tk rawE aa) af H v ls
def xP (r:List (Bool × List Nat)):Bool:=!wW r || decide (r.length=0)
def cB (ls:List (List (Bool × List Nat))):Int :=
 if 1024<ls.length then 4 else if ls.any xP then 8 else if ls.any (fun r=>decide (r.length≠(ls.headD []).length)) then 70 else 0
def Cr {ls:List (List (Bool × List Nat))} (h0:ls.length<=1024) {j:Nat} (hj:j<ls.length) (h:xP ls[j]=true):cB ls=8:=by
 have:ls.any xP=true:=VO.2 ⟨_,U9 hj,h⟩
 unfold cB;rw [if_neg zO,if_pos this]
def Hz {ls:List (List (Bool × List Nat))} (h0:ls.length<=1024) (hb:∀ k (h:k<ls.length),xP ls[k]=false) {j:Nat} (hj:j<ls.length) (h:ls[j].length≠(ls[0]'zO).length):cB ls=70:=by
 have h1:¬ ls.any xP=true:=by
  rw [VO]; rintro ⟨r,hr,hbr⟩;obtain ⟨k,hk,rfl⟩:=Wg hr;rw [hb k hk] at hbr; cases hbr
 have e:ls.headD []=ls[0]'zO:=by cases ls with | nil=>simp at hj | cons a l=>rfl
 have h2:ls.any (fun r=>decide (r.length≠(ls.headD []).length))=true:=VO.2 ⟨_,U9 hj,by rw [e]; simpa using h⟩;unfold cB;rw [if_neg zO,if_neg h1,if_pos h2]
def wS {ls:List (List (Bool × List Nat))} (h0:ls.length<=1024) (hb:∀ k (h:k<ls.length),xP ls[k]=false) (hl:∀ k (h:k<ls.length),ls[k].length=(ls[0]'zO).length):cB ls=0:=by
 have h1:¬ ls.any xP=true:=by
  rw [VO]; rintro ⟨r,hr,hbr⟩;obtain ⟨k,hk,rfl⟩:=Wg hr;rw [hb k hk] at hbr; cases hbr
 have h2:¬ ls.any (fun r=>decide (r.length≠(ls.headD []).length))=true:=by
  rw [VO]; rintro ⟨r,hr,hbr⟩;obtain ⟨k,hk,rfl⟩:=Wg hr;have e:ls.headD []=ls[0]'zO:=by cases ls with | nil=>simp at hk | cons a l=>rfl
  rw [e,hl k hk] at hbr;simp at hbr
 unfold cB;rw [if_neg zO,if_neg h1,if_neg h2]
section
variable {tab:Nat->Option aA} {H:Heap} {s:AV}
def Ap {ty:Nat} {ls:List (List (Bool × List Nat))} (hs:BR (tk rawE aa) ty H s ls) {i:Nat} (hi:i<ls.length):∃ w,SlV rawE aa H w ls[i]/\aX H none (au s i)=some w:=SlV.at1 hs (U7 hi)
def tW (C:Code tab) (hw:Wf H) {ls:List (List (Bool × List Nat))} (hs:Pc H s ls) (hbig:ls.length<4611686018427387904) (hb:∀ r∈ls,rV r) :
  Ans tab (.fn ly [s]) H fun v H'=>v=.int .i64 (cB ls)/\Kp H H':=by
 refine cR C.q113 zU fun T hl g0=>?_;by_cases h0:1024<ls.length
 ·have e:(1024:Int)<(ls.length:Int):=zO;refine zW (aQ hl g0 hs.lenV e) ?_;exact ⟨by unfold cB; rw [if_pos h0],zK⟩
 ·have e:¬ (1024:Int)<(ls.length:Int):=zO;have h0':ls.length<=1024:=zO;refine zW (aQ hl g0 hs.lenV e) ?_;refine aq H [] (fun j _ _=>∀ k (h:k<ls.length),k<j->xP ls[k]=false) (a:=0) (N:=ls.length) rfl (by refine zW (aD hl g0) ?_; rfl) (zV (aD hl g0)) (Vj _) zO (by simp only [U4,hl]; rfl) rfl (fun _ _ _ _ h=>h) zK (fun k _ h=>by omega) ?_ ?_
  ·intro j T1 H1 _ hj hl1 hi1 hs1 hk1 hP;have w1:=hk1.wf;have le_hk1:=hk1.le;have t10:ad T1 10=s:=(hs1.at_ 10 zU).trans (zV (aD hl g0));obtain ⟨w,hr,hld⟩:=Ap (hs.mono hk1.sub) hj;have hix:=SlV.idx1 hs .i64 j hj;simp only [U4,hl] at hl1;refine zW (bA hl1 t10 hi1 hix hld) ?_;refine AnsH.eq (oD C zF (hr.mono (zG H1)) (hb _ (U9 hj))) fun H2 hk2=>?_;obtain ⟨k2,_,_⟩:=zT H zK hk2;cases ho:wW ls[j] with
   | false =>
    refine zW hl1 ?_;exact ⟨by rw [Cr h0' hj (by simp [xP,ho])],zK⟩
   | true =>
    refine zW (aD hl1 hr.lenV) ?_;refine iteH.split (fun hz=>?_) fun hz=>?_
    ·refine zW hl1 ?_;exact ⟨by rw [Cr h0' hj (by unfold xP; rw [ho,decide_eq_true zO]; rfl)],zK⟩
    ·refine zW hl1 ?_;refine ⟨zK,fun k h hk=>?_⟩;by_cases ek:k=j
     ·subst ek; unfold xP; rw [ho,decide_eq_false zO]; rfl
     ·exact hP k h zO
  ·intro T1 H1 hl1 hs1 hk1 hP;have w1:=hk1.wf;have le_hk1:=hk1.le;have t0:ad T1 0=s:=(hs1.at_ 0 zU).trans (zV (aD hl g0));simp only [U4,hl] at hl1;refine zW (aE hl1 t0 hs.lenV) ?_;refine aq H [] (fun j _ _=>∀ k (h:k<ls.length),k<j->ls[k].length=(ls[0]'zO).length) (a:=0) (N:=ls.length) rfl (by refine zW hl1 ?_; rfl) (zV hl1) (Vj _) zO (by simp only [U4,hl1]; rfl) rfl (fun _ _ _ _ h=>h) zK (fun k _ h=>by omega) ?_ ?_
   ·intro j T2 H2 _ hj hl2 hi2 hs2 hk2 hP2;have w2:=hk2.wf;have le_hk2:=hk2.le;have h00:0<ls.length:=zO;have t25:ad T2 25=s:=(hs2.at_ 25 zU).trans (zV (aD hl1 t0));have t0':ad T2 0=s:=(hs2.at_ 0 zU).trans (zV (aD hl1 t0));obtain ⟨w,hr,hld⟩:=Ap (hs.mono hk2.sub) hj;obtain ⟨w0,hr0,hld0⟩:=Ap (hs.mono hk2.sub) h00;have hix:=SlV.idx1 hs .i64 j hj;have hix0:cI 1 s (.int .i64 0)=some (au s 0):=SlV.idx1 hs .i64 0 h00;simp only [U4,hl1] at hl2;by_cases he:ls[j].length=(ls[0]'h00).length
    ·have l2:lenV w=some (.int .i64 ((ls[0]'h00).length:Int)):=by rw [hr.lenV,he]
     refine zW (qz hl2 t25 t0' hi2 hix hld hix0 hld0 l2 hr0.lenV) ?_;refine ⟨zK,fun k h hk=>?_⟩;by_cases ek:k=j
     ·subst ek; exact he
     ·exact hP2 k h zO
    ·refine zW (iO hl2 t25 t0' hi2 hix hld hix0 hld0 hr.lenV hr0.lenV he) ?_;exact ⟨by rw [Hz h0' (fun k h=>hP k h h) hj he],zK⟩
   ·intro T2 H2 hl2 hs2 hk2 hP2;simp only [U4,hl1] at hl2;refine zW hl2 ?_;exact ⟨by rw [wS h0' (fun k h=>hP k h h) fun k h=>hP2 k h h],zK⟩
def Ak {ty:Nat} {ls:List (List Int)} (hs:BR (tk intE aa) ty H s ls):BR (tk rawE aa) ty H s (ls.map fun r=>r.map cC):=by
 obtain ⟨cells,hr,ht,hc,ha⟩:=hs;refine ⟨cells,hr,ht,by rw [hc,Vc]; rfl,fun i a hi=>?_⟩;rw [V5] at hi;cases hz:ls[i]? with
 | none=>rw [hz] at hi; cases hi
 | some z =>
  rw [hz] at hi; cases hi;obtain ⟨w,h1,h2⟩:=ha i z hz;exact ⟨w,h1,SlV.raw h2⟩
def uU {r:List Int} (h64:r.length<=64) (hz:∀ z∈r,dJ z):rV (r.map cC):=by
 refine ⟨by rw [Vc]; omega,fun z h=>?_⟩;rw [Va] at h;obtain ⟨a,ha,rfl⟩:=h
 have:=hz a ha
 unfold dJ Sm at this;show (ag a.natAbs).length<_;omega
def DP {r:List Int} (h64:r.length<=64):wW (r.map cC)=true:=by
 simp only [wW,Vc,List.any_map,VG,decide_eq_true_eq,V8,Wt];exact ⟨h64,fun z _=>by simp [wG]⟩
structure xU (d:Nat) (ls:List (List Int)):Prop where
 pos:0<d
 le:d<=64
 len:∀ r∈ls,r.length=d
 sm:∀ r∈ls,∀ z∈r,dJ z
def jX (C:Code tab) (hw:Wf H) {d:Nat} {ls:List (List Int)} {ty:Nat} (hs:dK H s ls) (h1024:ls.length<=1024) (hok:xU d ls) :
  Ans tab (.fn ly [s]) H fun v H'=>v=.int .i64 0/\Kp H H':=by
 have h:=tW C hw (Ak hs) (by rw [Vc]; omega) fun r hr=>by
  rw [Va] at hr;obtain ⟨a,ha,rfl⟩:=hr;exact uU (by rw [hok.len a ha]; exact hok.le) (hok.sm a ha)
 have e:cB (ls.map fun r=>r.map cC)=0:=by
  refine wS (by rw [Vc]; exact h1024) (fun k hk=>?_) fun k hk=>?_
  ·rw [Vc] at hk;have hm:=U9 hk;simp only [X5];unfold xP;rw [DP (by rw [hok.len _ hm]; exact hok.le),decide_eq_false (by rw [Vc,hok.len _ hm]; have:=hok.pos; omega)];rfl
  ·rw [Vc] at hk;simp only [X5,Vc];rw [hok.len _ (U9 hk),hok.len _ (U9 zO)]
 rw [e] at h;exact h
def Fo (C:Code tab) (hw:Wf H) {a b:Nat}:Ans tab (.fn nS [.int .i64 (a:Int),.int .i64 (b:Int)]) H fun v H'=>v=.bool (Lin.before a b)/\Kp H H':=by
 refine bB C.q155 zU fun T hl g0 g1=>?_;by_cases h1:a=b
 ·subst h1;refine zW (aE hl g0 g1) ?_;exact ⟨by simp [Lin.before],zK⟩
 ·have h1':¬ (a:Int)=(b:Int):=zO;by_cases h2:a=0
  ·have h2i:(a:Int)=0:=zO;have h4:¬ (0:Int)=(b:Int):=zO;have h5:¬ 0=b:=zO;refine zW (iy hl g0 g1 h1' h1 h2i h4 h5) ?_;exact ⟨by simp [Lin.before,h2],zK⟩
  ·have h2':¬ (a:Int)=0:=zO;by_cases h3:b=0
   ·have h3i:(b:Int)=0:=zO;refine zW (iy hl g0 g1 h1' h2' h3i h1 h2) ?_;exact ⟨by simp [Lin.before,h2,h3],zK⟩
   ·have h3':¬ (b:Int)=0:=zO;refine zW (jW hl g0 g1 h1' h2' h3' h1 h2 h3) ?_;exact ⟨by unfold Lin.before; rw [show (a != b)=true from by simpa using h1,show (a != 0)=true from by simpa using h2,show (b == 0)=false from by simpa using h3]; rfl,zK⟩
def Fm (C:Code tab) (hw:Wf H) {d:Nat} :
  Ans tab (.fn nQ [.int .i64 (d:Int)]) H fun v H'=>v=.fn (.func eO) [] [.ptr H.next 0]/\H'.get H.next=some (.cells [.int .i64 (d:Int)] fz true)/\H.next+1<=H'.next/\Kp H H':=by
 refine cR C.q159 zU fun T hl g0=>?_;refine zW (aD hl g0) ?_;exact ⟨zO,zK⟩
def La {d k:Nat} (hk:k+1<d):(Lin.places d)[k]? = some (k+1):=by
 unfold Lin.places;rw [VE (by simp; omega),List.getElem?_range' zO];congr 1; omega
def Fy {d:Nat} (hd:0<d):(Lin.places d)[d-1]? = some 0:=by
 unfold Lin.places;rw [VY (by simp),if_neg zO]
 simp
def HS (C:Code tab) {H0:Heap} {lb b d:Nat} (hd:d<1099511627776) (J:Nat->Heap->Prop) (R:Heap->Prop) (hk:Kp H0 H) (h0:J 0 H) (hup:∀ k H m,J k H->J k (H.up m)) (hRup:∀ H m,R H->R (H.up m))
  (hA:∀ k H,J k H->H.get b=some (.cells [.int .i64 (d:Int)] fz true))
  (hr:∀ (k p:Nat) H,(Lin.places d)[k]? = some p->Kp H0 H->J k H->Ans tab (.round lb [.int .i64 (p:Int)]) H fun v H'=>Kp H0 H'/\((v=.bool true/\J (k+1) H')\/(v=.bool false/\R H'))) :
  Ans tab (.ent eO [.loopv lb,.ptr b 0]) H fun _ H'=>Kp H0 H'/\(J d H'\/R H'):=by
 refine SI C.q163 zU fun T hl g0 g1=>?_;refine zW (aE hl g0 g1) ?_;refine cm H0 [3] (fun m vs H'=>∃ i:Nat,vs=[.int .i64 (i:Int)]/\1<=i/\i<=d+1/\(0<d->i<=d)/\(d=0->i=1)/\m=d+1-i/\J (i-1) H') d (by simp only [U4]; exact hl) rfl zK ⟨1,by refine zW (aE hl g0 g1) ?_; rfl,Vb _,zO,fun h=>h,fun _=>rfl,zO,hup _ _ _ h0⟩ ?_;rintro k T1 H1 hl1 hs1 hk1 ⟨i,hv,i1,i2,i3,i4,hm,hJ⟩;have w1:=hk1.wf;have le_hk1:=hk1.le;simp only [Ve,Vk,Vg,and_true] at hv;have t0:ad T1 0=.loopv lb:=(hs1.at_ 0 zU).trans (zV (aD hl g0));have t1:ad T1 1=.ptr b 0:=(hs1.at_ 1 zU).trans (zV (aQ hl g0 g1 g1));have hb:=hA _ _ hJ;refine zW (bA hl1 hv t0 t1 hb) ?_;refine iteH.split (fun h=>?_) fun h=>?_
 ·have hi:i<d:=zO;have hp:(Lin.places d)[i-1]? = some i:=by have:=La (d:=d) (k:=i-1) zO; rwa [Zj i1] at this
  refine zW (aQ hl1 hv t0 t1) ?_;refine AnsH.use (hr (i-1) i _ hp zK (hup _ _ _ hJ)) ?_;rintro v H2 ⟨hk2,⟨rfl,hJ2⟩ | ⟨rfl,hR⟩⟩
  ·rw [Zj i1] at hJ2;have e:IntKind.i64.wrap ((i:Int)+1)=((i+1:Nat):Int):=by rw [wrap_i64] <;> omega
   have w2:=hk2.wf;have le_hk2:=hk2.le;refine zW (aE hl1 hv e) ?_;exact ⟨zK,d-i,zO,i+1,rfl,zO,zO,fun _=>hi,fun h=>by omega,zO,by simpa using hup _ _ _ hJ2⟩
  ·have w2:=hk2.wf;refine zW hl1 ?_;exact ⟨zK,.inr hR⟩
 ·have hi:¬ i<d:=zO;refine zW (aQ hl1 t0 t1 hb) ?_;refine iteH.split (fun h=>?_) fun h=>?_
  ·have hd0:0<d:=zO;have e:i=d:=by have:=i3 hd0; omega
   subst e;refine zW (aD hl1 t0) ?_;refine AnsH.use (hr (i-1) 0 _ (Fy hd0) zK (hup _ _ _ hJ)) ?_;rintro v H2 ⟨hk2,⟨rfl,hJ2⟩ | ⟨rfl,hR⟩⟩
   ·rw [Zj i1] at hJ2;refine zW hl1 ?_;exact ⟨hk2,.inl hJ2⟩
   ·refine zW hl1 ?_;exact ⟨hk2,.inr hR⟩
  ·have hd0:d=0:=zO;have e:=i4 hd0;subst e;refine zW hl1 ?_;refine ⟨zK,.inl ?_⟩;rw [hd0];exact hup _ _ _ hJ
theorem NF (b:Nat) (T T':Tm) (ps:List Nat) (asg body:ACode) (Q:AV->Heap->Prop) (H2:Heap):Sf b T ps asg body Q .ret T' H2=(H2.get b=some (.loop T ps asg body .busy none)/\Q (.bool false) (H2.put b (.loop T ps asg body .done (some .ret)))):=rfl
def JU {α:Type} {p:α->Bool}:∀ {l:List α} {k:Nat} {x:α},l[k]? = some x->(∀ i y,i<k->l[i]? = some y->p y=false)->p x=true->l.find? p=some x
 | [],k,x,h,_,_=>by simp at h
 | a :: l,0,x,h,_,hp=>by
  simp at h; subst h; simp [hp]
 | a :: l,k+1,x,h,h0,hp=>by
  rw [List.find?_cons_of_neg (by rw [h0 0 a zO rfl]; simp)];exact JU (by simpa using h) (fun i y hi hy=>h0 (i+1) y zO (by simpa using hy)) hp
end
def Sh (l:List Int):Int:=match Lin.pivot l with
 | some p=>(p:Int)
 | none=>-1
section
variable {tab:Nat->Option aA} {H:Heap} {s:AV}
def rW {l:List Int} {p:Nat} (hp:p<l.length):Lin.at_ l p=l[p]:=by simp [Lin.at_,hp]
def tV (C:Code tab) (hw:Wf H) {l:List Int} (hs:RowV H s l) (h64:l.length<=64):Ans tab (.fn pF [s]) H fun v H'=>v=.int .i64 (Sh l)/\Kp H H':=by
 have os:=hs.one;refine cR C.q142 zU fun T hl g0=>?_;refine zW (aE hl g0 hs.lenV) ?_;refine AnsH.use (Fm C zF) ?_;rintro v H2 ⟨rfl,b0,hn2,hk2⟩;obtain ⟨k2,_,w2⟩:=zT H zK hk2;simp only [next_put,cT] at b0 hn2;have p0:=hk2.get (b:=H.next) (e:=.cells [s] af true) (cH);have p1:=hk2.get (b:=H.next+1) (e:=.cells [.int .i64 0] fz true) (cH);refine zW (aD hl g0) ?_;refine pw (fi:=eO) (args:=[.loopv H2.next,.ptr (H.next+5) 0]) (by refine zW (aD hl g0) ?_; rfl) ?_
 generalize he:Ent.loop _ _ _ _ LoopState.ready none=e0
 generalize hd:Ent.loop _ _ _ _ LoopState.done (some ACode.ret)=e1
 have k3:Kp H ((H2.up 1).put H2.next e0):=zK;have le_k3:=k3.le;refine (HS C (H0:=H) (d:=l.length) zO (fun k H'=>H'.get H2.next=some e0/\H'.get H.next=some (.cells [s] af true)/\H'.get (H.next+1)=some (.cells [.int .i64 0] fz true)/\H'.get (H.next+5)=some (.cells [.int .i64 (l.length:Int)] fz true)/\(∀ i y,i<k->(Lin.places l.length)[i]? = some y->Lin.at_ l y=0))
  (fun H'=>∃ p:Nat,Lin.pivot l=some p/\H'.get H2.next=some e1/\H'.get (H.next+1)=some (.cells [.int .i64 (p:Int)] fz true)) k3 ⟨by exact cH,by exact zV p0,by exact zV p1,by exact zV @b0,fun i y h=>by omega⟩ (fun _ _ _ h=>h) (fun _ _ h=>h) (fun k H' h=>h.2.2.2.1) ?_).mono ?_
 ·rintro k p H1 hp hk1 ⟨j0,j1,j2,j3,jz⟩;rw [<- he] at j0;have w1:=hk1.wf;have le_hk1:=hk1.le;have hlt:=w1 _ _ j0;have hpl:p<l.length:=Lin.mem_places.1 (Vo hp);obtain ⟨w,hn,hld,hsg,hab⟩:=je hs hpl;have Lp:=(Ldd.of hw hab).put;have Ll:=bE hk1.sub hab;have hix:cI 2 s (.int .i64 (p:Int))=some (au s (p*2)):=SlV.idx hs .i64 p hpl;have hfa:A5 1 (au s (p*2))=some (au s (p*2+1)):=SlV.fa hs zO 1 (p*2);have hlen:=bI (l[p]).natAbs;refine qc j0 rfl ?_;refine zW (qz hl g0 j0 j1 j2 hix hfa Lp Ll hn.lenV) ?_;refine iteH.split (fun h=>?_) fun h=>?_
  ·have hpv:Lin.pivot l=some p:=by
    refine JU hp (fun i y hi hy=>by simp [jz i y hi hy]) ?_;rw [rW hpl]; simp; omega
   refine zW (dL hl g0 j0 j1 j2 @NF) ?_
   generalize Ent.loop _ _ _ _ LoopState.busy none=e2
   rw [hd];exact ⟨zK,.inr ⟨p,hpv,by exact cH,by exact cH⟩⟩
  ·have hz:Lin.at_ l p=0:=by rw [rW hpl]; omega
   refine zW (dL hl g0 j0 j1 j2 @uQ) ?_
   generalize Ent.loop _ _ _ _ LoopState.busy none=e2
   rw [he];refine ⟨zK,.inl ⟨rfl,j3,fun i y hi hy=>?_⟩⟩;by_cases e:i=k
   ·subst e;rw [hp] at hy; cases hy; exact hz
   ·exact jz i y zO hy
 ·rintro _ H' ⟨hk',⟨j0,j1,j2,j3,jz⟩ | ⟨p,hp,j0,j2⟩⟩
  ·refine .inl ⟨j0,?_⟩;have w1:=hk'.wf;have le_hk':=hk'.le;have lt1:=w1 _ _ j2;have ku:Kp H (H'.up 1):=hk'.up 1;refine zW (aE hl g0 j2) ?_;have hnone:Lin.pivot l=none:=by
    unfold Lin.pivot;rw [List.find?_eq_none];intro y hy;obtain ⟨i,hi⟩:=VN hy;have hlen:(Lin.places l.length).length=l.length:=by
     unfold Lin.places;rw [Vr,List.length_range'];split <;> simp <;> omega
    have hil:i<l.length:=by have:=(Vm.1 hi).1; omega
    simp [jz i y hil hi]
   exact ⟨by unfold Sh; rw [hnone],zK⟩
  ·refine .inr (.inl ⟨j0,?_⟩);have w1:=hk'.wf;have le_hk':=hk'.le;refine zW (aE hl g0 j2) ?_;exact ⟨by unfold Sh; rw [hp],zK⟩
def Ii {m n:Int} {e f g h:Nat} {x y:List Int} (hm:Bt g m) (hn:Bt h n) (hx:∀ z∈x,Bt e z) (hy:∀ z∈y,Bt f z):∀ z∈Lin.mix m x n y,Bt (max (g+e) (h+f)+1) z:=by
 intro z hz;unfold Lin.mix at hz;rw [ZM] at hz;obtain ⟨i,hi,rfl⟩:=hz;have h1:i<x.length:=by simp at hi; omega
 have h2:i<y.length:=by simp at hi; omega
 rw [List.getElem_zipWith];exact Bt.add (hm.mul (hx _ (U9 h1))) (hn.mul (hy _ (U9 h2)))
def Fx {e:Nat} {x:List Int} (hx:∀ z∈x,Bt e z):∀ z∈Lin.prime x,Bt e z:=by
 intro z hz;unfold Lin.prime at hz;split at hz
 ·exact hx z hz
 ·rw [Va] at hz;obtain ⟨a,ha,rfl⟩:=hz;have h:=hx a ha;unfold Bt at *;refine Wd ?_ h;rw [Int.natAbs_ediv_of_dvd (Lin.content_dvd ha)];exact XD _ _
def Hv {e:Nat} {x:List Int} (hx:∀ z∈x,Bt e z):∀ z∈Lin.scl (-1) x,Bt e z:=by
 intro z hz;unfold Lin.scl at hz;rw [Va] at hz;obtain ⟨a,ha,rfl⟩:=hz
 have:=(hx a ha).neg
 rwa [show -a = -1*a by omega] at this
def Q8 {e f p:Nat} {a u:List Int} (ha:∀ z∈a,Bt e z) (hu:∀ z∈u,Bt f z):∀ z∈Lin.wo a u p,Bt (e+f+1) z:=by
 intro z hz;unfold Lin.wo at hz;split at hz
 ·exact (ha z hz).mono zO
 ·have hm:Bt f (Lin.at_ u p):=by
   unfold Lin.at_; rw [U5];cases h:u[p]? with
   | none=>exact Bt.zero f
   | some b=>exact hu b (Vo h)
  have hn:Bt e (-(Lin.at_ a p)):=by
   refine Bt.neg ?_;unfold Lin.at_; rw [U5];cases h:a[p]? with
   | none=>exact Bt.zero e
   | some b=>exact ha b (Vo h)
  exact (Fx (Ii hm hn ha hu) z hz).mono zO
def uP (C:Code tab) (hw:Wf H) {va vb:AV} {x u:List Int} {p e f:Nat} (ha:RowV H va x) (hb:RowV H vb u) (hxu:x.length=u.length) (h64:x.length<=64) (hp:p<x.length) (hx:∀ z∈x,Bt e z) (hu:∀ z∈u,Bt f z) (he:e+f+1<=8796093022208) :
  Ans tab (.fn my [va,vb,.int .i64 (p:Int)]) H fun v H'=>RowV H' v (Lin.wo x u p)/\Kp H H':=by
 refine kS C.q143 zU fun T hl g0 g1 g2=>?_;have hpu:p<u.length:=zO;obtain ⟨w,hn,hld,-,hab⟩:=je ha hp;have hix:cI 2 va (.int .i64 (p:Int))=some (au va (p*2)):=SlV.idx ha .i64 p hp;have hfa:A5 1 (au va (p*2))=some (au va (p*2+1)):=SlV.fa ha zO 1 (p*2);have hlen:=bI (x[p]).natAbs;refine zW (iy hl g0 g1 g2 hix hfa hab hn.lenV) ?_;refine iteH.split (fun h=>?_) fun h=>?_
 ·have hz:Lin.at_ x p=0:=by rw [rW hp]; omega
  refine zW (aD hl g0) ?_;refine ⟨?_,zK⟩;unfold Lin.wo;rw [if_pos hz];exact ha.mono (zG H)
 ·have hz:¬ Lin.at_ x p=0:=by rw [rW hp]; omega
  refine zW (dL hl g0 g1 g2 hix hld) ?_;refine AnsH.use (Cf C zF ⟨w,rfl,hn.mono (zG H)⟩ ((hx _ (U9 hp)).sm zO)) ?_;rintro v H2 ⟨r,rfl,hr,hk2⟩;obtain ⟨k2,_,w2⟩:=zT H zK hk2;obtain ⟨r',rfl,hr'⟩:=hr;have or':=hr'.one;obtain ⟨wu,hnu,L,hiu⟩:=nl hw hb hpu;have Lp:=L.put;have Ll:=(L.mono k2).ld;have n2:H.next+19<=H2.next:=hk2.le
  have f2:H2.get (H.next+16)=none:=hk2.free (show _<H.next+19 by omega) (hw.fresh (b:=H.next+16) zO);have s2:∀ m,Sub H2 (((H2.up m).put (H.next+16) (.cells [.bool false,.nilSl] aa true)).put (H.next+16) (.cells [.bool (decide (-x[p]<0)),r'] aa true)):=fun m=>(Sub.bump H2 m).trans ((aJ (H:=H2.up m) f2).put f2 _);refine zW (aQ hl g0 g1 g2) ?_;refine aF ?_;refine zD (iy hl g0 g1 g2 hiu Lp Ll @al) ?_;have hup:=hu _ (U9 hpu);have hxp:=hx _ (U9 hp);refine AnsH.use (Dt C (m:=u[p]) (n:=-x[p]) zF ⟨wu,rfl,hnu.mono (zG H)⟩ ⟨r',rfl,hr'.mono (s2 _)⟩ (ha.mono (zG H)) (hb.mono (zG H)) hxu h64 (hup.len zO) (hxp.neg.len zO) (fun z hz=>⟨(hx z hz).len zO,(hup.mul (hx z hz)).sm zO⟩) (fun z hz=>⟨(hu z hz).len zO,(hxp.neg.mul (hu z hz)).sm zO⟩)) ?_;rintro v3 H3 ⟨r3,rfl,hr3,hk3⟩;obtain ⟨k3,_,w3⟩:=zT H zK hk3;refine zD (iy hl g0 g1 g2 hiu Lp Ll @al) ?_;refine AnsH.use (wL C zF (hr3.mono (zG H3)) (by rw [Lin.mix_length rfl hxu.symm]; exact h64) (fun z hz=>(Ii hup hxp.neg hx hu z hz).sm zO)) ?_;rintro v4 H4 ⟨r4,rfl,hr4,hk4⟩;obtain ⟨k4,_,_⟩:=zT H zK hk4;simp only [iJ,jN,iI,lS,Xr,Xf,sS,qe,Zk,Zt,XF,WI];refine zW (aQ hl g0 g1 g2) ?_;refine ⟨?_,zK⟩;unfold Lin.wo;rw [if_neg hz,rW hp,rW hpu];exact hr4.mono (Kp.sub (H:=H4) (Kp.trans (Kp.refl k4.wf) ((Kp.refl k4.wf).up _)))
end
def Sb (tab:Nat->Option aA) (rd:Bool) (b:ACode) (Q:Ex->Tm->Heap->Prop) (x:Ex) (T:Tm) (H:Heap):Prop:=match x with
 | .nrm=>WB tab rd b T H Q
 | x=>Q x T H
def SK (R:Tm->Heap->Prop) (Q:Ex->Tm->Heap->Prop) (x:Ex) (T:Tm) (H:Heap):Prop:=match x with
 | .nrm=>R T H
 | x=>Q x T H
section
variable {tab:Nat->Option aA} {rd:Bool} {a b:ACode} {T:Tm} {H:Heap} {Q:Ex->Tm->Heap->Prop} {R:Tm->Heap->Prop}
theorem aC:Sb tab rd b Q .nrm T H=WB tab rd b T H Q:=rfl
theorem im:Sb tab rd b Q .ret T H=Q .ret T H:=rfl
theorem aW:SK R Q .nrm T H=R T H:=rfl
theorem vO:SK R Q .ret T H=Q .ret T H:=rfl
def aS (h:WC tab rd a T H (Sb tab rd b Q)):WB tab rd (.seq a b) T H Q:=zy (h.wb.mono fun x T' H' h=>by cases x <;> exact h)
def de (R:Tm->Heap->Prop) (hp:iC a=true) (h:WC tab rd a T H (SK R Q)) (hb:∀ T' H',Same (fH a) T T'->R T' H'->WB tab rd b T' H' Q):WB tab rd (.seq a b) T H Q :=
 zy ((h.wb.same hp).mono fun x T' H' ⟨hs,h⟩=>by
  cases x with
  | nrm=>exact hb T' H' hs h
  | exit e=>exact h
  | goto l=>exact h
  | ret=>exact h)
def BP {f:Nat} {fn:aA} {args:List AV} {Q:AV->Heap->Prop} (hf:tab f=some fn) (he:fn.ext=none) (hl:args.length=fn.nparams) (hn:fn.nparams<=fn.ntmps)
  (h:∀ T0:Tm,T0.length=fn.ntmps->(∀ i,i<args.length->ad T0 i=args.getD i .undef)->WB tab false fn.body T0 H (uR fn.results Q)):Ans tab (.fn f args) H Q:=by
 obtain ⟨x,T',H',⟨N,g⟩,hx,v,hv,hq⟩:=h (args++List.replicate (fn.ntmps-args.length) .undef) (by simp; omega) fun i hi=>by
  unfold ad;rw [U5,U5,VE hi]
 refine ⟨v,H',⟨N+1,fun m n hm hn=>?_⟩,hq⟩;obtain ⟨n',rfl⟩:∃ n',n=n'+1:=⟨n-1,zO⟩
 show jA tab eH (lx tab eH m n') m (.fn f args) H=_;simp only [jA,hf,he,Ai,if_pos hl];rw [g m n' zO zO];rcases hx with rfl | rfl <;> simp [hv]
end
def Cells.set1 {α:Type} {e:Q6 α} {H:Heap} {cells:List AV} {l:List α} (h:Cells (bS e) H cells l) {i:Nat} {a:α} {v:AV} (hi:i<l.length) (hr:e.R H v a):Cells (bS e) H (cells.set i v) (l.set i a):=by
 have hc:i<cells.length:=by have:=h.1; simp [bS] at this; omega
 have h2:cells.take (i*1)++[v]++cells.drop (i*1+1)=cells.set i v:=by rw [WE,XH,if_pos hc]; simp
 have this:Cells (bS e) H (cells.take (i*1)++[v]++cells.drop (i*1+1)) (l.set i a):=Cells.set h hi ⟨v,rfl,hr⟩;rw [h2] at this;exact this
def Cells.at1 {α:Type} {e:Q6 α} {H:Heap} {cells:List AV} {l:List α} (h:Cells (bS e) H cells l) {i:Nat} (hi:i<l.length):∃ v,aY cells i none=some v/\e.R H v l[i]:=by
 obtain ⟨v,h1,h2⟩:=h.2 i _ (U7 hi);have hc:i<cells.length:=by have:=h.1; simp [bS] at this; omega
 refine ⟨v,?_,h2⟩;have h1':(cells.drop (i*1)).take 1=[v]:=h1;rw [WE] at h1';have h3:((cells.drop i).take 1)[0]? = some v:=by rw [h1']; rfl
 rw [List.getElem?_take_of_lt zO,Vw] at h3
 simpa [aY] using h3
section
variable {tab:Nat->Option aA} {H:Heap} {s:AV}
def nJ (F:List (List Int)) (x:List Int) (k:Nat):List Int:=(F.take k).foldl (fun a r=>Lin.wo a r (Lin.pv r)) (Lin.prime x)
def qN {F:List (List Int)} {x:List Int} {k:Nat} (hk:k<F.length):nJ F x (k+1)=Lin.wo (nJ F x k) F[k] (Lin.pv F[k]):=by
 unfold nJ;rw [Vi hk,Yg]; rfl
def jM (F:List (List Int)) (x:List Int):nJ F x F.length=Lin.restF F x:=by
 unfold nJ Lin.restF;rw [VD]
def pu {d:Nat} {F:List (List Int)} {x:List Int} (hx:x.length=d) (hF:∀ r∈F,r.length=d):∀ k,k<=F.length->(nJ F x k).length=d
 | 0,_=>by unfold nJ; simp [Lin.prime_length,hx]
 | k+1,h=>by
  rw [qN zO];exact Lin.wo_length (pu hx hF k zO) (hF _ (U9 zO))
def oI {e f:Nat} {F:List (List Int)} {x:List Int} (hx:∀ z∈x,Bt e z) (hF:∀ r∈F,∀ z∈r,Bt f z):∀ k,k<=F.length->∀ z∈nJ F x k,Bt (e+k*(f+1)) z
 | 0,_=>by
  intro z hz;unfold nJ at hz;exact (Fx hx z (by simpa using hz)).mono zO
 | k+1,h=>by
  rw [qN zO];intro z hz;refine (Q8 (oI hx hF k zO) (hF _ (U9 zO)) z hz).mono ?_;rw [WP]; omega
def HL {r:List Int} {p:Nat} (h:Lin.pivot r=some p):Sh r=(p:Int):=by unfold Sh; rw [h]
def xC (C:Code tab) (hw:Wf H) {fb:Nat} {q va:AV} {F:List (List Int)} {x:List Int} {d e f:Nat} (hfb:H.get fb=some (.cells [q] dZ true)) (hq:dK H q F) (ha:RowV H va x) (hx:x.length=d) (h64:d<=64) (hlF:F.length<=64)
  (hF:∀ r∈F,r.length=d/\Lin.pivot r=some (Lin.pv r)/\∀ z∈r,Bt f z) (hxe:∀ z∈x,Bt e z) (hb:e+65*(f+1)<=8796093022208) :
  Ans tab (.fn iD [.ptr fb 0,va]) H fun v H'=>RowV H' v (Lin.restF F x)/\Kp H H':=by
 refine bB C.q118 zU fun T hl g0 g1=>?_;refine zW (aE hl g0 g1) ?_;refine AnsH.use (wL C zF (ha.mono (zG H)) zO fun z hz=>(hxe z hz).sm zO) ?_;rintro v H2 ⟨r2,rfl,hr2,hk2⟩;obtain ⟨k2,_,w2⟩:=zT H zK hk2;have hfb2:=k2.get hfb;refine zW (bA hl g0 g1 hfb2 hq.lenV) ?_;refine aq H [1] (fun j vs H'=>∃ v,vs=[v]/\RowV H' v (nJ F x j)) (a:=0) (N:=F.length) rfl (by refine zW (aE hl g0 g1) ?_; rfl) (zV (aE hl g0 g1)) (Vj _) zO (by simp only [U4,hl]; rfl) rfl (fun j vs H' m ⟨c,h1,h2⟩=>⟨c,h1,h2.mono (Sub.bump H' m)⟩) zK ⟨r2,by exact zV (aE hl g0 g1),by exact hr2.mono (Sub.bump H2 _)⟩ ?_ ?_
 ·rintro j T1 H1 _ hj hl1 hi1 hs1 hk1 ⟨vr,hv,hr⟩;have w1:=hk1.wf;have le_hk1:=hk1.le;simp only [Ve,Vk,Vg,and_true] at hv;have t15:ad T1 15=q:=(hs1.at_ 15 zU).trans (zV (aE hl g0 g1));obtain ⟨w,hrj,hld⟩:=dl (hq.mono hk1.sub) hj;have hix:=SlV.idx1 hq .i64 j hj;have hFj:=hF _ (U9 hj);simp only [U4,hl] at hl1;refine zW (dL hl1 t15 hi1 hix hld hv) ?_;refine AnsH.eq (tV C zF (hrj.mono (zG H1)) zO) fun H3 hk3=>?_;obtain ⟨k3,_,w3⟩:=zT H1 zK hk3;rw [HL hFj.2.1];have hlr:=pu hx (fun r h=>(hF r h).1) j zO;have hpd:Lin.pv F[j]<d:=by have:=(Lin.pivot_some.1 hFj.2.1).1; omega
  have hle:j*(f+1)<=63*(f+1):=Vl _ zO;refine zW (aD hl1 hv) ?_;refine AnsH.use (uP C zF (hr.mono k3.sub) (hrj.mono k3.sub) (hlr.trans hFj.1.symm) zO zO (oI hxe (fun r h=>(hF r h).2.2) j zO) hFj.2.2 zO) ?_;rintro v4 H4 ⟨hr4,hk4⟩;have k4:Kp H H4:=Kp.trans (Kp.trans hk1 k3) hk4;have le_k4:=k4.le;refine zW hl1 ?_;refine ⟨zK,_,rfl,?_⟩;rw [qN hj];exact hr4
 ·rintro T1 H1 hl1 hs1 hk1 ⟨vr,hv,hr⟩;have w1:=hk1.wf;have le_hk1:=hk1.le;simp only [Ve,Vk,Vg,and_true] at hv;simp only [U4,hl] at hl1;rw [jM] at hr;refine zW (aD hl1 hv) ?_;exact ⟨hr.mono (Sub.bump H1 _),zK⟩
abbrev rowsE:fw (List Int):=bS (tk intE aa)
def GW (C:Code tab) {H0:Heap} {q va:AV} {F:List (List Int)} {x:List Int} {k b2:Nat} (hk:Kp H0 H) (hq:Bl rowsE af H0 H q F) (hkF:k<=F.length) (hb2:H.get b2=some (.cells [va] af true)) (hx:RowV H va x) (hne:∀ n,q ≠ .own b2 0 n n 1 false) (hlen:F.length<1099511627776) :
  Ans tab (.fn cx [q,.int .i64 (k:Int),.own b2 0 1 1 1 true]) H fun v H'=>Kp H0 H'/\Bl rowsE af H0 H' v (F.take k++x :: F.drop k)/\(∀ b e,H.get b=some e->(∀ n,q ≠ .own b 0 n n 1 false)->H'.get b=some e)/\(∃ n,v=.own H.next 0 n n 1 false)/\H'.next=H.next+1:=by
 have hle:=hk.le;have ox:=hx.one;have hfr:H.get H.next=none:=hk.wf.fresh (Vb _)
 have hfirst:aN H 1 1 (.own b2 0 1 1 1 true)=some [va]:=by simp [aN,hb2]
 rcases hq with ⟨rfl,rfl⟩ | ⟨b,cells,rfl,hb,hcl,hb0⟩
 ·have hk0:k=0:=by simpa using hkF
  subst hk0;have hs:Sub H (({ H with next:=H.next+1 }:Heap).put H.next (.cells [va] af true)):=(Sub.bump H 1).put hfr _;refine zn C.q156 rfl rfl (v:=.own H.next 0 1 1 1 false) (H':=({ H with next:=H.next+1 }:Heap).put H.next (.cells [va] af true)) ?_ ⟨(hk.up 1).put hle (by show _<H.next+1; omega),.inr ⟨H.next,[va],rfl,ap _ _ _,?_,hle⟩,fun c e hc _=>hs.get _ _ hc,⟨1,rfl⟩,rfl⟩
  ·show vK H (.insert 1 24 af) [.nilSl,.int .i64 (.ofNat 0),.own b2 0 1 1 1 true]=_;simp [vK,hfirst,ox.2]
  ·exact Cells.one (E:=rowsE) ⟨va,rfl,hx.mono hs⟩
 ·have hl:(F.take k++x :: F.drop k).length=F.length+1:=by simp; omega
  have hbb:b≠b2:=fun e=>hne F.length (by rw [e]; rfl);have hlt:=hk.wf _ _ hb;have hcl1:cells.length=F.length:=by have:=hcl.1; simpa [bS] using this
  have hget:∀ c e,H.get c=some e->c≠b->((({ H with next:=H.next+1 }:Heap).kill b).put H.next (.cells (cells.take (k*1)++[va]++cells.drop (k*1)) af true)).get c=some e:=fun c e hc hcb=>by
   have:=hk.wf _ _ hc
   rw [az zO,cD hcb]; exact hc
  have hs:SubT (tk intE aa).tys H ((({ H with next:=H.next+1 }:Heap).kill b).put H.next (.cells (cells.take (k*1)++[va]++cells.drop (k*1)) af true)):=fun c cs t r ht hc=>hget c _ hc fun e=>by
   subst e;rw [hb] at hc; cases hc
   revert ht; decide
  refine zn C.q156 rfl rfl (v:=.own H.next 0 (F.length+1) (F.length+1) 1 false) (H':=(({ H with next:=H.next+1 }:Heap).kill b).put H.next (.cells (cells.take (k*1)++[va]++cells.drop (k*1)) af true)) ?_ ⟨((hk.up 1).kill hb0).put hle (by show _<H.next+1; omega),.inr ⟨H.next,_,by rw [hl]; rfl,ap _ _ _,?_,hle⟩,fun c e hc h=>hget c e hc fun e1=>h F.length (by rw [e1]; rfl),⟨_,rfl⟩,rfl⟩
  ·show vK H (.insert 1 24 af) [.own b 0 F.length F.length 1 false,.int .i64 (.ofNat k),.own b2 0 1 1 1 true]=_;have hones:=hcl.ones;simp only [vK,hfirst,hb,hb2];rw [if_pos ⟨trivial,trivial,hbb,zO,hkF,zO,zO,zO,trivial,by simp [ox.2],hones⟩]
  ·have h1:=(hcl.mono hs).take hkF;have h2:=(hcl.mono hs).drop k;have h3:Cells rowsE ((({ H with next:=H.next+1 }:Heap).kill b).put H.next (.cells (cells.take (k*1)++[va]++cells.drop (k*1)) af true)) [va] [x]:=Cells.one (E:=rowsE) ⟨va,rfl,SlV.monoT (E:=intE) hs hx⟩;have e:F.take k++[x]++F.drop k=F.take k++x :: F.drop k:=by simp
   rw [<- e];exact (h1.append h3).append h2
end
def jy (w:List Int->List Int) (F:List (List Int)) (j:Nat):List (List Int):=(F.take j).map w++F.drop j
def zY (w:List Int->List Int) (F:List (List Int)):jy w F 0=F:=by simp [jy]
def so (w:List Int->List Int) (F:List (List Int)) {j:Nat} (h:j<=F.length):(jy w F j).length=F.length:=by simp [jy]; omega
def Cm (w:List Int->List Int) (F:List (List Int)):jy w F F.length=F.map w:=by simp [jy]
def Cl (w:List Int->List Int) (F:List (List Int)) {j:Nat} (h:j<F.length):(jy w F j)[j]? = some F[j]:=by
 unfold jy;rw [VY (by simp; omega)];have e:j-((F.take j).map w).length=0:=by simp; omega
 rw [e,Vw];simp [h]
def Ck (w:List Int->List Int) (F:List (List Int)) {j:Nat} (h:j<F.length):(jy w F j).set j (w F[j])=jy w F (j+1):=by
 apply WM
 intro i;rw [W9];have hl:=so w F (W0 h);by_cases e:j=i
 ·subst e;rw [if_pos rfl,if_pos zO];unfold jy;rw [VE (by simp; omega)];simp [h]
 ·rw [if_neg e];unfold jy;by_cases hi:i<j
  ·rw [VE (by simp; omega),VE (by simp; omega)];simp [hi,show i<j+1 by omega]
  ·rw [VY (by simp; omega),VY (by simp; omega),Vw,Vw];congr 1
   simp; omega
def JO {x:List Int} {p:Nat}:∀ {F:List (List Int)} {k:Nat},k<=F.length->(∀ i (h:i<F.length),i<k->Lin.before (Lin.pv F[i]) p=true)->(∀ h:k<F.length,Lin.before (Lin.pv F[k]) p=false)->Lin.insP x p F=F.take k++x :: F.drop k
 | [],k,hk,_,_=>by
  have:k=0:=by simpa using hk
  subst this; rfl
 | r :: F,0,_,_,h1=>by
  have:=h1 (by simp)
  simp only [YD] at this;simp [Lin.insP,this]
 | r :: F,k+1,hk,h0,h1=>by
  have h2:=h0 0 (by simp) zO;simp only [YD] at h2;have ih:=JO (x:=x) (p:=p) (F:=F) (k:=k) (by simpa using hk) (fun i h hi=>by have:=h0 (i+1) (by simpa using h) zO; simpa using this) (fun h=>by have:=h1 (by simpa using h); simpa using this);simp [Lin.insP,h2,ih]
def GV:MuI (-1):=by
 have:=bi (n:=1) (k:=1) zU
 unfold MuI;show (ag 1).length<_;omega
section
variable {tab:Nat->Option aA} {H:Heap} {s:AV}
def Ov (C:Code tab) {H0:Heap} {fb:Nat} {q va:AV} {F:List (List Int)} {x:List Int} {d e f:Nat} (hk:Kp H0 H) (hfb0:H0.next<=fb) (hfb:H.get fb=some (.cells [q] dZ true)) (hq:Bl rowsE af H0 H q F) (ha:RowV H va x) (hx:x.length=d) (h64:d<=64) (hE:Lin.Ech d F) (hlF:F.length<=64)
  (hFe:∀ r∈F,∀ z∈r,Bt f z) (hxe:∀ z∈x,Bt e z) (hb:e+66*(f+1)<=8796093022208) :
  Ans tab (.fn fX [.ptr fb 0,va]) H fun v H'=>v=.tup []/\Kp H0 H'/\∃ q',H'.get fb=some (.cells [q'] dZ true)/\Bl rowsE af H0 H' q' (Lin.putF F x):=by
 have hw:=hk.wf;have hF:∀ r∈F,r.length=d/\Lin.pivot r=some (Lin.pv r)/\∀ z∈r,Bt f z:=fun r hr=>⟨hE.len r hr,(hE.pos hr).1,hFe r hr⟩
 have hyl:(Lin.restF F x).length=d:=by rw [<- jM]; exact pu hx (fun r h=>(hF r h).1) _ (Vb _)
 have hle64:F.length*(f+1)<=64*(f+1):=Vl _ hlF;have hye:∀ z∈Lin.restF F x,Bt (e+64*(f+1)) z:=fun z hz=>by
  rw [<- jM] at hz;exact (oI hxe (fun r h=>(hF r h).2.2) _ (Vb _) z hz).mono zO
 refine BP C.q140 rfl rfl zU fun T hl g=>?_;have hl:T.length=79:=hl;have hrs:c_P_rows_form_put.results=[]:=rfl;have g0:ad T 0=.ptr fb 0:=g 0 (by simp);have g1:ad T 1=va:=g 1 (by simp);refine aS ?_;refine zW (aQ hl g0 g1 @aC) ?_;refine AnsH.use (xC C (H:=H.up 4) zF hfb (hq.sl.mono (Sub.bump H 4)) (ha.mono (Sub.bump H 4)) hx h64 hlF hF hxe zO) ?_;rintro v H2 ⟨hr2,hk2⟩;obtain ⟨k2,_,w2⟩:=zT H zK hk2;refine zW (aQ hl g0 g1 @aC) ?_;refine aS ?_;refine zW (aQ hl g0 g1 @aC) ?_;refine AnsH.eq (tV C zF (hr2.mono (zG H2)) zO) fun H3 hk3=>?_;have k3:Kp H H3:=Kp.trans k2 (Kp.trans zK hk3);have le_k3:=k3.le;have w3:=k3.wf;have hr3:RowV H3 v (Lin.restF F x):=hr2.mono (Kp.sub (H:=H2) (Kp.trans zK hk3));cases hpv:Lin.pivot (Lin.restF F x) with
 | none =>
  have e1:Sh (Lin.restF F x) = -1:=by unfold Sh; rw [hpv]
  rw [e1];refine zW (aQ hl g0 g1 @aC) ?_;refine aS ?_;refine zW (dL hl g0 g1 @aC @im hrs) ?_;have e2:Lin.putF F x=F:=by unfold Lin.putF; rw [hpv]
  rw [e2];have k03:Kp H0 H3:=hk.trans k3;have le_k03:=k03.le;exact ⟨zK,q,k3.get hfb,hq.mono (zG H)⟩
 | some p =>
  rw [HL hpv];have hp:p<(Lin.restF F x).length:=(Lin.pivot_some.1 hpv).1;have hp0:=(Lin.pivot_some.1 hpv).2.1;have hneg:¬ (p:Int)<0:=zO;refine zW (aQ hl g0 g1 @aC) ?_;refine aS ?_;refine zW (dL hl g0 g1 @aC @im hneg) ?_;refine de (fun T' H'=>∃ va',ad T' 1=va'/\RowV H' va' (Lin.signed (Lin.restF F x) p)/\Kp H H') rfl ?_ ?_
  ·obtain ⟨w,hn,hld,hsg,hab⟩:=je hr3 hp;have hix:cI 2 v (.int .i64 (p:Int))=some (au v (p*2)):=SlV.idx hr3 .i64 p hp;have hfa:A5 0 (au v (p*2))=some (au v (p*2)):=SlV.fa hr3 zO 0 (p*2);refine zW (fy hl g0 g1 hix hfa hsg @aW) ?_;refine iteH.split (fun h=>?_) fun h=>?_
   ·refine zW (aE hl g0 g1) ?_;refine AnsH.use (iP C (n:=-1) zF zO zO) ?_;rintro v4 H4 ⟨hi4,hk4⟩;have k4:Kp H H4:=Kp.trans k3 (Kp.trans zK hk4);have le_k4:=k4.le;have w4:=k4.wf;refine zW (aE hl g0 g1) ?_;refine AnsH.use (KA C zF (hr3.mono (Kp.sub (H:=H3) (Kp.trans zK hk4))) hi4 zO (fun z hz=>(hye z hz).len zO) GV) ?_;rintro v5 H5 ⟨r5,rfl,hr5,hk5⟩;have k5:Kp H H5:=Kp.trans k4 hk5;have le_k5:=k5.le;refine zW (aQ hl g0 g1 @aW) ?_;refine ⟨_,rfl,?_,k5⟩;unfold Lin.signed;rw [if_pos (by rw [rW hp]; exact h)];exact hr5
   ·refine zW (aQ hl g0 g1 @aW) ?_;refine ⟨_,rfl,?_,zK⟩;unfold Lin.signed;rw [if_neg (by rw [rW hp]; exact h)];exact hr3.mono (Sub.bump H3 _)
  ·rintro T1 H4 hs1 ⟨va',hv1,hr4,k4⟩;have w4:=k4.wf;have k04:Kp H0 H4:=hk.trans k4;have le_k04:=k04.le;have t0:ad T1 0=.ptr fb 0:=(hs1.at_ 0 zU).trans (zV (aE hl g0 g1));have t4:ad T1 4=.int .i64 (p:Int):=(hs1.at_ 4 zU).trans (zV (aE hl g0 g1));have hl1:T1.length=79:=hs1.len.trans (by simp only [U4]; exact hl);have hfb4:=k4.get hfb;have hq4:Bl rowsE af H0 H4 q F:=hq.mono k4.sub;have hput:Lin.putF F x=Lin.insP (Lin.signed (Lin.restF F x) p) p (F.map fun r=>Lin.wo r (Lin.signed (Lin.restF F x) p) p):=by unfold Lin.putF; rw [hpv]
   have hEp:=(Lin.put_ech hE hx).1;rw [hput] at hEp ⊢;have hyl':(Lin.signed (Lin.restF F x) p).length=d:=Lin.signed_length hyl;have hye':∀ z∈Lin.signed (Lin.restF F x) p,Bt (e+64*(f+1)) z:=by
    unfold Lin.signed;split
    ·exact Hv hye
    ·exact hye
   have hmem:∀ r'∈F.map (fun r=>Lin.wo r (Lin.signed (Lin.restF F x) p) p),r'.length=d/\Lin.pivot r'=some (Lin.pv r'):=fun r' h=>by
    have hm:r'∈Lin.insP (Lin.signed (Lin.restF F x) p) p (F.map fun r=>Lin.wo r (Lin.signed (Lin.restF F x) p) p):=Lin.mem_insP.2 (.inr h);exact ⟨hEp.len _ hm,(hEp.pos hm).1⟩
   generalize Lin.signed (Lin.restF F x) p=y at *
   obtain ⟨w,hw0⟩:∃ w:List Int->List Int,w=fun r=>Lin.wo r y p:=⟨_,rfl⟩
   rw [<- hw0] at hmem ⊢;have hpd:p<d:=zO;refine WC.wb ?_;refine zW (bA hl1 t0 t4 hfb4 hq4.sl.lenV) ?_;refine aq H0 [] (fun j _ H'=>H'.get fb=some (.cells [q] dZ true)/\Bl rowsE af H0 H' q (jy w F j)/\RowV H' va' y) (a:=0) (N:=F.length) rfl (by refine zW hl1 ?_; rfl) (zV hl1) (Vj _) zO (by simp only [U4,hl1]; rfl) rfl (fun j vs H' m ⟨h1,h2,h3⟩=>⟨h1,h2.mono (Sub.bump H' m),h3.mono (Sub.bump H' m)⟩) zK ⟨hfb4,by rw [zY]; exact hq4.mono (Sub.bump H4 _),hr4.mono (Sub.bump H4 _)⟩ ?_ ?_
   ·rintro j T2 H5 _ hj hl2 hi2 hs2 hk5 ⟨j1,j2,j3⟩;have w5:=hk5.wf;have le_hk5:=hk5.le;have hsl:=so w F (W0 hj);rcases j2 with ⟨-,hnil⟩ | ⟨b,cells,hqe,hb5,hcl,hb0⟩
    ·exfalso
     rw [hnil] at hsl; simp at hsl; omega
    rw [hsl] at hqe;have hjl:j<(jy w F j).length:=zO;obtain ⟨vr,htk,hvr⟩:=hcl.at1 hjl;have hgj:(jy w F j)[j]=F[j]:=by
     have:=Cl w F hj
     rw [U7 hjl] at this;exact Option.some.inj this
    rw [hgj] at hvr;have hvr:RowV H5 vr F[j]:=hvr;have hFj:=hF _ (U9 hj);have hcn:cells.length=F.length:=by have:=hcl.1; simp [bS] at this; omega
    have hne:fb≠b:=fun e=>by
     subst e;rw [j1] at hb5; injection hb5 with h; injection h with _ h2; exact absurd h2 zU
    have t29:ad T2 29=q:=(hs2.at_ 29 zU).trans (zV hl1);have t0':ad T2 0=.ptr fb 0:=(hs2.at_ 0 zU).trans (zV (aD hl1 t0));have t1':ad T2 1=va':=(hs2.at_ 1 zU).trans (zV (aD hl1 hv1));have t4':ad T2 4=.int .i64 (p:Int):=(hs2.at_ 4 zU).trans (zV (aD hl1 t4));have hix:cI 1 q (.int .i64 (j:Int))=some (.ptr b j):=by
     have:=ke (b:=b) (off:=0) (c:=F.length) (sz:=1) (x:=false) (k:=.i64) hj
     rw [VQ,WE] at this;rw [hqe]; exact this
    simp only [U4,hl1] at hl2;refine zW (dL hl2 t29 hi2 hix hb5 htk) ?_;refine aF ?_;refine zD (dL hl2 t0' t1' t4' hi2 j1) ?_;refine AnsH.use (uP C zF (hvr.mono (zG H5)) (j3.mono (zG H5)) (hFj.1.trans hyl'.symm) zO zO hFj.2.2 hye' zO) ?_;rintro v6 H6 ⟨hr6,hk6⟩;obtain ⟨k56,_,_⟩:=zT H5 zK hk6;have k06:Kp H0 H6:=hk5.trans k56;have le_k06:=k06.le;have w6:=k06.wf;have hb6:=k56.get hb5;have lb6:=w6 _ _ hb6;have j16:=k56.get j1;have o6:=hr6.one;have hjc:j<cells.length:=zO;refine zD (qz hl2 t0' t1' t4' hi2 j1 j16 hix hb6 hjc) ?_;have mb:NoTy (tk intE aa).tys H6 b:=NoTy.ty hb6 zU;have st6:SubT (tk intE aa).tys H6 (H6.put b (.cells (cells.set j v6) af true)):=SubT.puts (SubT.refl _ _) mb;have hwj:w F[j]=Lin.wo F[j] y p:=by rw [hw0]
    have hcl6:Cells rowsE H6 cells (jy w F j):=hcl.mono (k56.sub.t _);refine ⟨zK,.inr ⟨b,_,?_,ap _ _ _,?_,hb0⟩,SlV.monoT (E:=intE) st6 (j3.mono k56.sub)⟩
    ·rw [so w F zO]; exact hqe
    ·rw [<- Ck w F hj,hwj];exact Cells.mono (E:=rowsE) st6 (hcl6.set1 hjl hr6)
   ·rintro T3 H7 hl3 hs3 hk7 ⟨j1,j2,j3⟩;have w7:=hk7.wf;have le_hk7:=hk7.le;rw [Cm] at j2;have t0'':ad T3 0=.ptr fb 0:=(hs3.at_ 0 zU).trans (zV (aD hl1 t0));have t1'':ad T3 1=va':=(hs3.at_ 1 zU).trans (zV (aD hl1 hv1));have t4'':ad T3 4=.int .i64 (p:Int):=(hs3.at_ 4 zU).trans (zV (aD hl1 t4));simp only [U4,hl1] at hl3;obtain ⟨F',hF'⟩:∃ F',F'=F.map w:=⟨_,rfl⟩
    rw [<- hF'] at j2 hmem ⊢;have hF'l:F'.length=F.length:=by rw [hF']; simp
    refine zW (aQ hl3 t0'' t1'' t4'') ?_;refine lM H0 [7] (fun m vs H'=>∃ k:Nat,vs=[.int .i64 (k:Int)]/\k<=F'.length/\(∀ i (h:i<F'.length),i<k->Lin.before (Lin.pv F'[i]) p=true)/\m=F'.length-k/\H'.get fb=some (.cells [q] dZ true)/\Bl rowsE af H0 H' q F'/\RowV H' va' y)
     (fun vs H'=>∃ k:Nat,vs=[.int .i64 (k:Int)]/\k<=F'.length/\(∀ i (h:i<F'.length),i<k->Lin.before (Lin.pv F'[i]) p=true)/\(∀ h:k<F'.length,Lin.before (Lin.pv F'[k]) p=false)/\H'.get fb=some (.cells [q] dZ true)/\Bl rowsE af H0 H' q F'/\RowV H' va' y)
     F'.length (by simp only [U4,hl3]; rfl) rfl zK ⟨0,by refine zW hl3 ?_; rfl,zO,fun i _ h=>by omega,zO,j1,j2.mono (Sub.bump H7 _),j3.mono (Sub.bump H7 _)⟩ ?_ ?_
    ·rintro m T4 H8 hl4 hs4 hk8 ⟨k,hv,hkn,hbf,hm,i1,i2,i3⟩;have w8:=hk8.wf;have le_hk8:=hk8.le;simp only [Ve,Vk,Vg,and_true] at hv;have t0a:ad T4 0=.ptr fb 0:=(hs4.at_ 0 zU).trans (zV (aD hl3 t0''));have t4a:ad T4 4=.int .i64 (p:Int):=(hs4.at_ 4 zU).trans (zV (aD hl3 t4''));by_cases hkl:k<F'.length
     ·obtain ⟨wv,hrk,hld⟩:=dl i2.sl hkl;have hix:=SlV.idx1 i2.sl .i64 k hkl;have hmk:=hmem _ (U9 hkl);refine zW (jW hl4 hv t0a t4a i1 i2.sl.lenV hkl hix hld) ?_;refine AnsH.eq (tV C zF (hrk.mono (zG H8)) zO) fun H9 hk9=>?_;obtain ⟨k89,_,w9⟩:=zT H8 zK hk9;rw [HL hmk.2];refine zW (aQ hl4 hv t0a t4a) ?_;refine AnsH.eq (Fo C zF) fun H10 hk10=>?_;have k810:Kp H8 H10:=Kp.trans k89 hk10;have le_k810:=k810.le;have k010:Kp H0 H10:=hk8.trans k810;have le_k010:=k010.le;cases hbv:Lin.before (Lin.pv F'[k]) p with
      | true =>
       have e:IntKind.i64.wrap ((k:Int)+1)=((k+1:Nat):Int):=by rw [wrap_i64] <;> omega
       refine zW (aE hl4 hv e) ?_;refine ⟨zK,F'.length-(k+1),zO,k+1,rfl,zO,fun i h hi=>?_,rfl,k810.get i1,i2.mono (zG H8),i3.mono (zG H8)⟩;by_cases ei:i=k
       ·subst ei; exact hbv
       ·exact hbf i h zO
      | false =>
       refine zW (aD hl4 hv) ?_;exact ⟨zK,k,rfl,hkn,hbf,fun _=>hbv,k810.get i1,i2.mono k810.sub,i3.mono k810.sub⟩
     ·refine zW (fy hl4 hv t0a t4a i1 i2.sl.lenV hkl) ?_;exact ⟨zK,k,rfl,hkn,hbf,fun h=>absurd h hkl,i2.mono (Sub.bump H8 _),i3.mono (Sub.bump H8 _)⟩
    ·rintro T5 H11 hl5 hs5 hk11 ⟨k,hv,hkn,hbf,hbn,i1,i2,i3⟩;have w11:=hk11.wf;have le_hk11:=hk11.le;simp only [Ve,Vk,Vg,and_true] at hv;have t0a:ad T5 0=.ptr fb 0:=(hs5.at_ 0 zU).trans (zV (aD hl3 t0''));have t1a:ad T5 1=va':=(hs5.at_ 1 zU).trans (zV (aD hl3 t1''));rw [JO hkn hbf hbn];have oa:=i3.one;have lfb:=w11 _ _ i1;refine zW (bA hl5 hv t0a t1a i1) ?_;have hf7:H11.get (H11.next+7)=none:=w11.fresh zO;have hqne:∀ n,q ≠ .own (H11.next+7) 0 n n 1 false:=fun n e=>by
      rcases i2 with ⟨h,-⟩ | ⟨b,cells,h,hb',-⟩
      ·rw [h] at e; cases e
      ·rw [h] at e; injection e with e1; rw [e1,hf7] at hb'; cases hb'
     have sx:Sub H11 ((H11.up 12).put (H11.next+7) (.cells [va'] af true)):=(Sub.bump H11 12).trans (aJ (H:=H11.up 12) hf7);refine AnsH.use (GW C (H0:=H0) (F:=F') (x:=y) (k:=k) zK (i2.mono sx) hkn (cH) (i3.mono sx) hqne zO) ?_;rintro v12 H12 ⟨k12,bl,keep,⟨n,rfl⟩,hnx⟩;have w12:=k12.wf;have hfx:((H11.up 12).put (H11.next+7) (.cells [va'] af true)).get fb=some (.cells [q] dZ true):=by exact zV i1
     have hne':∀ n,q ≠ .own fb 0 n n 1 false:=fun n=>i2.ne i1 (fun cs h=>by injection h with _ h2; exact absurd h2 zU) n;have f12:=keep fb _ hfx hne';have lt12:=w12 _ _ f12;refine zW (aE hl5 hrs f12) ?_;refine ⟨zK,_,rfl,bl.put (fun n' h=>?_) (SubT.put_ty f12 zU)⟩
     injection h with h1
     simp only [next_put,cT] at h1;omega
end
def Fq {d:Nat}:∀ {l:List Nat} {lo:Nat},lo<=d->l.Pairwise (· < ·)->(∀ a∈l,lo<a/\a<=d)->l.length+lo<=d
 | [],lo,h,_,_=>by simpa using h
 | a :: l,lo,h,hp,hb=>by
  have ha:=hb a (Vh ..);have hp':=W2.1 hp
  have:=Fq (d:=d) (lo:=a) ha.2 hp'.2 fun b hb'=>⟨hp'.1 b hb',(hb b (Vd _ hb')).2⟩
  simp only [VT];omega
def ech_len {d:Nat} {F:List (List Int)} (h:Lin.Ech d F):F.length<=d:=by
 have h1:(F.map fun r=>Lin.rank (Lin.pv r) d).Pairwise (· < ·):=by
  rw [Wx];refine h.sorted.imp_of_mem fun {r s} hr hs hb=>?_;exact (Lin.before_iff (h.pos hr).2.2 (h.pos hs).2.2).1 hb
 have h2:=Fq (d:=d) (lo:=0) (Vj _) h1 fun a ha=>by
  rw [Va] at ha;obtain ⟨r,hr,rfl⟩:=ha
  have:=(h.pos hr).2.2
  unfold Lin.rank;split <;> omega
 simpa using h2
def jB (e:Nat):Nat->Nat
 | 0=>0
 | k+1=>e+(k+1)*(jB e k+1)
def IE (e k:Nat):jB e k<=jB e (k+1):=by
 show jB e k<=e+(k+1)*(jB e k+1);rw [WP]; omega
def uy (e:Nat) {k m:Nat} (h:k<=m):jB e k<=jB e m:=by
 induction m with
 | zero =>
  have:k=0:=zO
  subst this; exact Vb _
 | succ m ih =>
  by_cases hk:k<=m
  ·exact Vn (ih hk) (IE e m)
  ·have:k=m+1:=zO
   subst this; exact Vb _
def insP_len {x:List Int} {p:Nat}:∀ F:List (List Int),(Lin.insP x p F).length=F.length+1
 | []=>rfl
 | r :: F=>by
  unfold Lin.insP;split
  ·simp [insP_len F]
  ·simp
def Qf {d e f:Nat} {F:List (List Int)} {x:List Int} (hF:∀ r∈F,∀ z∈r,Bt f z) (hx:∀ z∈x,Bt e z) :
  Lin.putF F x=F\/((Lin.putF F x).length=F.length+1/\∀ r∈Lin.putF F x,∀ z∈r,Bt (e+(F.length+1)*(f+1)) z):=by
 have hy:∀ z∈Lin.restF F x,Bt (e+F.length*(f+1)) z:=by
  rw [<- jM]; exact oI hx hF _ (Vb _)
 have hs:∀ p,∀ z∈Lin.signed (Lin.restF F x) p,Bt (e+F.length*(f+1)) z:=fun p=>by
  unfold Lin.signed;split
  ·exact Hv hy
  ·exact hy
 unfold Lin.putF;cases hp:Lin.pivot (Lin.restF F x) with
 | none=>exact .inl rfl
 | some p =>
  refine .inr ⟨by simp [insP_len],fun r hr=>?_⟩;have e1:(F.length+1)*(f+1)=F.length*(f+1)+(f+1):=WP _ _;rcases Lin.mem_insP.1 hr with rfl | hr
  ·exact fun z hz=>(hs p z hz).mono zO
  ·rw [Va] at hr;obtain ⟨u,hu,rfl⟩:=hr;exact fun z hz=>(Q8 (hF u hu) (hs p) z hz).mono zO
def ot (l:List (List Int)) (k:Nat):List (List Int):=(l.take k).foldl Lin.putF []
def yp {l:List (List Int)} {k:Nat} (h:k<l.length):ot l (k+1)=Lin.putF (ot l k) l[k]:=by
 unfold ot;rw [Vi h,Yg]; rfl
def A3 (l:List (List Int)):ot l l.length=Lin.formF l:=by
 unfold ot Lin.formF;rw [VD]
def IB {d:Nat} {l:List (List Int)} (hl:∀ r∈l,r.length=d) (k:Nat):Lin.Ech d (ot l k) :=
 (Lin.form_go (l.take k) [] (Lin.Ech.nil d) fun a ha=>hl a (Xh ha)).1
def xD {d e:Nat} {l:List (List Int)} (hl:∀ r∈l,r.length=d) (hb:∀ r∈l,∀ z∈r,Bt e z):∀ k,k<=l.length->∀ r∈ot l k,∀ z∈r,Bt (jB e (ot l k).length) z
 | 0,_=>by intro r hr; cases hr
 | k+1,h=>by
  have ih:=xD hl hb k zO;rw [yp zO];rcases Qf (d:=d) ih (hb _ (U9 (show k<l.length by omega))) with h1 | ⟨h1,h2⟩
  ·rw [h1]; exact ih
  ·rw [h1]; exact h2
section
variable {tab:Nat->Option aA} {H:Heap} {s:AV}
def qM (C:Code tab) (hw:Wf H) {l:List (List Int)} {d e:Nat} (hs:dK H s l) (hbig:l.length<1099511627776) (hd:d<=64) (hl':∀ r∈l,r.length=d) (hbt:∀ r∈l,∀ z∈r,Bt e z) (hb:e+66*(jB e d+1)<=8796093022208) :
  Ans tab (.fn nR [s]) H fun v H'=>∃ fb q,v=.ptr fb 0/\H'.get fb=some (.cells [q] dZ true)/\dK H' q (Lin.formF l)/\Kp H H':=by
 refine cR C.q117 zU fun T hl g0=>?_;have hb1:fJ (.agg [.nilSl])=some [.nilSl]:=rfl;refine zW (aQ hl g0 hs.lenV hb1) ?_;refine aq H [] (fun j _ H'=>∃ q,H'.get (H.next+2)=some (.cells [q] dZ true)/\Bl rowsE af H H' q (ot l j)) (a:=0) (N:=l.length) rfl (by refine zW (aD hl g0) ?_; rfl) (zV (aD hl g0)) (Vj _) zO (by simp only [U4,hl]; rfl) rfl (fun j vs H' m ⟨q,h1,h2⟩=>⟨q,h1,h2.mono (Sub.bump H' m)⟩) zK ⟨.nilSl,by exact cH,Bl.nil⟩ ?_ ?_
 ·rintro j T1 H1 _ hj hl1 hi1 hs1 hk1 ⟨q,j1,j2⟩;have w1:=hk1.wf;have le_hk1:=hk1.le;have t11:ad T1 11=s:=(hs1.at_ 11 zU).trans (zV (aD hl g0));have t4:ad T1 4=.fn (.func fX) [.ptr (H.next+2) 0] []:=(hs1.at_ 4 zU).trans (zV (aD hl g0));obtain ⟨w,hr,hld⟩:=dl (hs.mono hk1.sub) hj;have hix:=SlV.idx1 hs .i64 j hj;have hE:=IB hl' j;have hfm:=uy e (ech_len hE);have hlj:=ech_len hE;have hj':=U9 hj;simp only [U4,hl] at hl1;refine zW (dL hl1 t11 t4 hi1 hix hld) ?_;refine AnsH.use (Ov C (H0:=H) (f:=jB e (ot l j).length) zK zO (by exact j1) (j2.mono (Sub.bump H1 _)) (hr.mono (Sub.bump H1 _)) (hl' _ hj') hd hE zO (xD hl' hbt j zO) (hbt _ hj') zO) ?_;rintro v H2 ⟨rfl,hk2,q',i1,i2⟩;refine zW hl1 ?_;refine ⟨zK,q',i1,?_⟩;rw [yp hj];exact i2
 ·rintro T1 H1 hl1 hs1 hk1 ⟨q,j1,j2⟩;have w1:=hk1.wf;have le_hk1:=hk1.le;have t3:ad T1 3=.ptr (H.next+2) 0:=(hs1.at_ 3 zU).trans (zV (aD hl g0));simp only [U4,hl] at hl1;rw [A3] at j2;refine zW (aD hl1 t3) ?_;exact ⟨_,q,rfl,j1,j2.sl.mono (Sub.bump H1 _),zK⟩
def DJ (C:Code tab) (hw:Wf H) {l:List (List Int)} {d e:Nat} (hs:dK H s l) (h1024:l.length<=1024) (hd0:0<d) (hd:d<=64) (hl':∀ r∈l,r.length=d) (hbt:∀ r∈l,∀ z∈r,Bt e z) (hb:e+66*(jB e d+1)<=8796093022208) :
  Ans tab (.fn mz [s]) H fun v H'=>∃ q,v=.tup [q,.int .i64 0]/\dK H' q (Lin.formF l)/\Kp H H':=by
 refine cR C.q95 zU fun T hl g0=>?_;refine zW (aD hl g0) ?_;refine AnsH.eq (jX C (ty:=0) zF (hs.mono (zG H)) h1024 ⟨hd0,hd,hl',fun r hr z hz=>(hbt r hr z hz).sm zO⟩) fun H2 hk2=>?_;obtain ⟨k2,_,w2⟩:=zT H zK hk2;refine zW (aD hl g0) ?_;refine AnsH.use (qM C zF (hs.mono (zG H)) zO hd hl' hbt hb) ?_;rintro v H3 ⟨fb,q,rfl,hf,hq,hk3⟩;obtain ⟨k3,_,_⟩:=zT H zK hk3;refine zW (aE hl g0 hf) ?_;exact ⟨q,rfl,hq,k3⟩
def Fp (C:Code tab) (hw:Wf H) {a:AV} {x:List Int} {l:List (List Int)} {d e:Nat} (ha:RowV H a x) (hs:dK H s l) (h1024:l.length<=1024) (hd0:0<d) (hd:d<=64) (hx:x.length=d) (hl':∀ r∈l,r.length=d) (hxe:∀ z∈x,Bt e z) (hbt:∀ r∈l,∀ z∈r,Bt e z) (hb:e+66*(jB e d+1)<=8796093022208) :
  Ans tab (.fn nT [a,s]) H fun v H'=>∃ q,v=.tup [q,.int .i64 0]/\RowV H' q (Lin.restF (Lin.formF l) x)/\Kp H H':=by
 have oa:=ha.one;refine bB C.q96 zU fun T hl g0 g1=>?_;refine zW (aE hl g0 g1) ?_;refine AnsH.eq (jX C (ty:=0) zF (hs.mono (zG H)) h1024 ⟨hd0,hd,hl',fun r hr z hz=>(hbt r hr z hz).sm zO⟩) fun H2 hk2=>?_;obtain ⟨k2,_,w2⟩:=zT H zK hk2;refine zW (aE hl g0 g1) ?_;refine AnsH.eq (jX C (ty:=0) (d:=d) (ls:=[x]) zF (St (ha.mono k2.sub) (zG H2) (cH)) (by simp) ⟨hd0,hd,by simpa using hx,by simpa using fun z hz=>(hxe z hz).sm zO⟩) fun H3 hk3=>?_;have k3:Kp H H3:=Kp.trans k2 (Kp.trans zK hk3);have le_k3:=k3.le;have w3:=k3.wf;have hE:=(Lin.form_ech hl').1;have hlen:=ech_len hE;have hfm:=uy e hlen;have hyl:(Lin.restF (Lin.formF l) x).length=d:=by rw [<- jM]; exact pu hx hE.len _ (Vb _)
 have hfb:∀ r∈Lin.formF l,∀ z∈r,Bt (jB e d) z:=fun r hr z hz=>by
  have:=xD hl' hbt l.length (Vb _)
  rw [A3] at this;exact (this r hr z hz).mono hfm
 have hle:(Lin.formF l).length*(jB e d+1)<=64*(jB e d+1):=Vl _ zO;have hye:∀ z∈Lin.restF (Lin.formF l) x,Bt (e+64*(jB e d+1)) z:=fun z hz=>by
  rw [<- jM] at hz;exact (oI hxe hfb _ (Vb _) z hz).mono zO
 rcases Xd l.length with h0 | h0
 ·have hlv:lenV s=some (.int .i64 0):=by rw [hs.lenV,h0]; rfl
  refine zW (aQ hl g0 g1 hlv) ?_;refine AnsH.use (qM C zF (hs.mono (zG H)) zO hd hl' hbt hb) ?_;rintro v H5 ⟨fb,q,rfl,hf,hq,hk5⟩;obtain ⟨k5,_,w5⟩:=zT H zK hk5;refine zW (aE hl g0 g1) ?_;refine AnsH.use (xC C zF hf hq (ha.mono k5.sub) hx hd zO (fun r hr=>⟨hE.len r hr,(hE.pos hr).1,hfb r hr⟩) hxe zO) ?_;rintro v6 H6 ⟨hr6,hk6⟩;have k6:Kp H H6:=Kp.trans k5 hk6;have le_k6:=k6.le;have w6:=k6.wf;refine zW (aE hl g0 g1) ?_;refine AnsH.use (zA C zF hr6 zO fun z hz=>(hye z hz).sm zO) ?_;rintro v7 H7 ⟨hr7,hk7⟩;have k7:Kp H H7:=Kp.trans k6 hk7;have le_k7:=k7.le;refine zW (aE hl g0 g1) ?_;exact ⟨_,rfl,hr7,k7⟩
 ·obtain ⟨w0,hr0,hld0⟩:=dl (hs.mono k3.sub) h0;have hix0:cI 1 s (.int .i64 0)=some (au s 0):=SlV.idx1 hs .i64 0 h0;have l0:lenV w0=some (.int .i64 (d:Int)):=by rw [hr0.lenV,hl' _ (U9 h0)]
  have la:lenV a=some (.int .i64 (d:Int)):=by rw [ha.lenV,hx]
  have hpos:(0:Int)<(l.length:Int):=zO;refine zW (qz hl g0 g1 hs.lenV hpos h0 hix0 hld0 l0 la) ?_;refine AnsH.use (qM C zF (hs.mono (zG H)) zO hd hl' hbt hb) ?_;rintro v H5 ⟨fb,q,rfl,hf,hq,hk5⟩;obtain ⟨k5,_,w5⟩:=zT H zK hk5;refine zW (aE hl g0 g1) ?_;refine AnsH.use (xC C zF hf hq (ha.mono k5.sub) hx hd zO (fun r hr=>⟨hE.len r hr,(hE.pos hr).1,hfb r hr⟩) hxe zO) ?_;rintro v6 H6 ⟨hr6,hk6⟩;have k6:Kp H H6:=Kp.trans k5 hk6;have le_k6:=k6.le;have w6:=k6.wf;refine zW (aE hl g0 g1) ?_;refine AnsH.use (zA C zF hr6 zO fun z hz=>(hye z hz).sm zO) ?_;rintro v7 H7 ⟨hr7,hk7⟩;have k7:Kp H H7:=Kp.trans k6 hk7;have le_k7:=k7.le;refine zW (aE hl g0 g1) ?_;exact ⟨_,rfl,hr7,k7⟩
end
def JY {e f:Nat} {x y:List Int} (hx:∀ z∈x,Bt e z) (hy:∀ z∈y,Bt f z):∀ j,j<=x.length->j<=y.length->(xH x y j).natAbs<=j*2^(e+f)
 | 0,_,_=>by simp [xH,Lin.dot]
 | j+1,h1,h2=>by
  rw [xG zO zO,WP];have ih:=JY hx hy j zO zO;have hm:=(hx _ (U9 (show j<x.length by omega))).mul (hy _ (U9 (show j<y.length by omega)));unfold Bt at hm
  have:=XQ (xH x y j) (x[j]*y[j])
  omega
def JZ {e f:Nat} {x y:List Int} (hx:∀ z∈x,Bt e z) (hy:∀ z∈y,Bt f z) {j:Nat} (h1:j<=x.length) (h2:j<=y.length) (h64:j<=64):Bt (e+f+7) (xH x y j):=by
 have h:=JY hx hy j h1 h2;have h3:j*2^(e+f)<=64*2^(e+f):=Vl _ h64;have h4:0<2^(e+f):=VK zU;unfold Bt;rw [VZ];omega
def oy {e f:Nat} {x y:List Int} (hx:∀ z∈x,Bt e z) (hy:∀ z∈y,Bt f z) (hxy:x.length=y.length) (h64:x.length<=64):Bt (e+f+7) (Lin.dot x y):=by
 rw [<- Ge hxy]; exact JZ hx hy (Vb _) zO h64
section
variable {tab:Nat->Option aA} {H:Heap} {s:AV}
def pi (C:Code tab) (hw:Wf H) {a b:AV} {x y:List Int} {e f:Nat} (ha:RowV H a x) (hb:RowV H b y) (hxy:x.length=y.length) (h64:x.length<=64) (hx:∀ z∈x,Bt e z) (hy:∀ z∈y,Bt f z) (hb':e+f+7<=8796093022208) :
  Ans tab (.fn sA [a,b]) H fun v H'=>∃ r,v=.tup [r,.int .i64 0]/\IntV H' r (Lin.dot x y)/\Kp H H' :=
 PU C hw ha hb hxy h64 (fun z hz=>(hx z hz).len zO) (fun z hz=>(hy z hz).len zO) (fun i h h'=>((hx _ (U9 h)).mul (hy _ (U9 h'))).sm zO) fun j hj=>(JZ hx hy hj zO zO).sm hb'
def vP (C:Code tab) (hw:Wf H) {a b:AV} {x y:List Int} {e f:Nat} (ha:RowV H a x) (hb:RowV H b y) (hxy:x.length=y.length) (h64:x.length<=64) (hx:∀ z∈x,Bt e z) (hy:∀ z∈y,Bt f z) (hb':e+f+7<=8796093022208) :
  Ans tab (.fn pP [a,b]) H fun v H'=>IntV H' v (Lin.dot x y)/\Kp H H':=by
 refine bB C.q131 zU fun T hl g0 g1=>?_;refine zW (aE hl g0 g1) ?_;refine AnsH.use (pi C zF (ha.mono (zG H)) (hb.mono (zG H)) hxy h64 hx hy hb') ?_;rintro v H2 ⟨r,rfl,⟨w,rfl,hr⟩,hk2⟩;obtain ⟨k2,_,w2⟩:=zT H zK hk2;have ow:=hr.one;have n2:H.next+10<=H2.next:=hk2.le
 have d2:=hk2.get (b:=H.next) (e:=.cells [.bool false,.nilSl] aa true) (cH);have f2:H2.get (H.next+7)=none:=hk2.free (show _<H.next+10 by omega) (by rw [az zO]; exact hw.fresh (b:=H.next+7) zO);have m2:NoTy [ae] H2 H.next:=NoTy.ty d2 zU
 have m7:NoTy [ae] H2 (H.next+7):=NoTy.none f2;refine zW (aQ hl g0 g1 d2) ?_;exact ⟨⟨w,rfl,SlV.monoT (E:=bS cj) zS hr⟩,zK⟩
def xJ (C:Code tab) (hw:Wf H) {a:AV} {z:Int} (ha:IntV H a z) (hz:dJ z):Ans tab (.fn kv [a]) H fun v H'=>v=.int .i64 (ik z)/\Kp H H':=by
 obtain ⟨p,rfl,hp⟩:=ha;have op:=hp.one;refine cR C.q132 zU fun T hl g0=>?_;refine zW (aD hl g0) ?_;refine AnsH.eq (pg C zF ⟨p,rfl,hp.mono (zG H)⟩ hz) fun H2 hk2=>?_;obtain ⟨k2,_,_⟩:=zT H zK hk2;refine zW (aD hl g0) ?_;exact zK
def Be (C:Code tab) (hw:Wf H) {a:AV} {z:Int} (ha:IntV H a z) (hz:dJ z):Ans tab (.fn pN [a]) H fun v H'=>IntV H' v (-z)/\Kp H H':=by
 obtain ⟨p,rfl,hp⟩:=ha;have op:=hp.one;refine cR C.q135 zU fun T hl g0=>?_;refine zW (aD hl g0) ?_;refine AnsH.use (Cf C zF ⟨p,rfl,hp.mono (zG H)⟩ hz) ?_;rintro v H2 ⟨r,rfl,⟨w,rfl,hr⟩,hk2⟩;obtain ⟨k2,_,w2⟩:=zT H zK hk2;have ow:=hr.one;have n2:H.next+10<=H2.next:=hk2.le
 have d2:=hk2.get (b:=H.next+1) (e:=.cells [.bool false,.nilSl] aa true) (cH);have f2:H2.get (H.next+7)=none:=hk2.free (show _<H.next+10 by omega) (by rw [az zO,az zO]; exact hw.fresh (b:=H.next+7) zO);have m2:NoTy [ae] H2 (H.next+1):=NoTy.ty d2 zU;have m7:NoTy [ae] H2 (H.next+7):=NoTy.none f2;refine zW (aE hl g0 d2) ?_;exact ⟨⟨w,rfl,SlV.monoT (E:=bS cj) zS hr⟩,zK⟩
def Gj (C:Code tab) (hw:Wf H) {vm vn a b:AV} {m n:Int} {x y:List Int} {e f g h:Nat} (hm:IntV H vm m) (hn:IntV H vn n) (ha:RowV H a x) (hb:RowV H b y) (hxy:x.length=y.length) (h64:x.length<=64) (hmb:Bt g m) (hnb:Bt h n) (hx:∀ z∈x,Bt e z) (hy:∀ z∈y,Bt f z) (hbits:g+e+h+f+1<=8796093022208) :
  Ans tab (.fn pO [vm,a,vn,b]) H fun v H'=>RowV H' v (Lin.prime (Lin.mix m x n y))/\Kp H H':=by
 obtain ⟨mq,rfl,hmq⟩:=hm;obtain ⟨nq,rfl,hnq⟩:=hn;have om:=hmq.one;have on:=hnq.one;refine LJ C.q136 zU fun T hl g0 g1 g2 g3=>?_;refine zW (bA hl g0 g1 g2 g3) ?_;refine AnsH.use (Dt C zF ⟨mq,rfl,hmq.mono (zG H)⟩ ⟨nq,rfl,hnq.mono (zG H)⟩ (ha.mono (zG H)) (hb.mono (zG H)) hxy h64 (hmb.len zO) (hnb.len zO) (fun z hz=>⟨(hx z hz).len zO,(hmb.mul (hx z hz)).sm zO⟩) (fun z hz=>⟨(hy z hz).len zO,(hnb.mul (hy z hz)).sm zO⟩)) ?_;rintro v H2 ⟨r,rfl,hr,hk2⟩;obtain ⟨k2,_,w2⟩:=zT H zK hk2;refine zW (bA hl g0 g1 g2 g3) ?_;refine AnsH.use (wL C zF (hr.mono (zG H2)) (by rw [Lin.mix_length rfl hxy.symm]; exact h64) fun z hz=>(Ii hmb hnb hx hy z hz).sm zO) ?_;rintro v3 H3 ⟨r3,rfl,hr3,hk3⟩;have k3:Kp H H3:=Kp.trans k2 (Kp.trans zK hk3);have le_k3:=k3.le;refine zW (bA hl g0 g1 g2 g3) ?_;exact ⟨hr3.mono (Sub.bump H3 _),zK⟩
abbrev BS (H0 H:Heap) (v:AV) (l:List Int):Prop:=Bl (bS (LB .i64)) fz H0 H v l
def KW (C:Code tab) (hw:Wf H) {a:AV} {x:List Int} {l:List (List Int)} {d e f:Nat} (ha:RowV H a x) (hs:dK H s l) (h1024:l.length<=1024) (hd0:0<d) (hd:d<=64) (hx:x.length=d) (hl':∀ r∈l,r.length=d) (hxe:∀ z∈x,Bt e z) (hbt:∀ r∈l,∀ z∈r,Bt f z) (hb:e+f+7<=8796093022208) :
  Ans tab (.fn qZ [a,s]) H fun v H'=>∃ q,v=.tup [q,.int .i64 0]/\BS H H' q (l.map fun r=>ik (Lin.dot x r))/\Kp H H':=by
 have oa:=ha.one;refine BP C.q151 rfl rfl zU fun T hl g=>?_;have hl:T.length=55:=hl;have hrs:c_sat_Signs.results=[(4,none),(5,none)]:=rfl;have g0:ad T 0=a:=g 0 (by simp);have g1:ad T 1=s:=g 1 (by simp);refine aS ?_;refine zW (aQ hl g0 g1 @aC) ?_;refine de (fun T' H'=>ad T' 5=.int .i64 0/\Kp H H') rfl ?_ ?_
 ·refine zW (aE hl g0 g1) ?_;refine AnsH.eq (jX C (ty:=0) zF (hs.mono (zG H)) h1024 ⟨hd0,hd,hl',fun r hr z hz=>(hbt r hr z hz).sm zO⟩) fun H2 hk2=>?_;obtain ⟨k2,_,_⟩:=zT H zK hk2;refine zW (aD hl @aW) ?_;exact zK
 rintro T1 H1 hs1 ⟨t5,k1⟩;have w1:=k1.wf;have t0:ad T1 0=a:=(hs1.at_ 0 zU).trans (zV (aD hl g0));have t1:ad T1 1=s:=(hs1.at_ 1 zU).trans (zV (aD hl g1));have t4:ad T1 4=.nilSl:=(hs1.at_ 4 zU).trans (zV hl);have hl1:T1.length=55:=hs1.len.trans (by simp only [U4]; exact hl);refine de (fun T' H'=>ad T' 4=.nilSl/\ad T' 5=.int .i64 0/\Kp H H') rfl ?_ ?_
 ·refine zW (aE hl1 t0 t1) ?_;refine AnsH.eq (pj C zF (ha.mono (zG H)) zO fun z hz=>(hxe z hz).sm zO) fun H2 hk2=>?_;obtain ⟨k2,_,_⟩:=zT H zK hk2;rcases Xd l.length with h0 | h0
  ·have hlv:lenV s=some (.int .i64 0):=by rw [hs.lenV,h0]; rfl
   refine zW (fy hl1 t0 t1 hlv t4 t5 @aW) ?_;exact zK
  ·obtain ⟨w0,hr0,hld0⟩:=dl (hs.mono k2.sub) h0;have hix0:cI 1 s (.int .i64 0)=some (au s 0):=SlV.idx1 hs .i64 0 h0;have l0:lenV w0=some (.int .i64 (d:Int)):=by rw [hr0.lenV,hl' _ (U9 h0)]
   have la:lenV a=some (.int .i64 (d:Int)):=by rw [ha.lenV,hx]
   have hpos:(0:Int)<(l.length:Int):=zO;refine zW (Kn hl1 t0 t1 hs.lenV hpos h0 hix0 hld0 l0 la t4 t5 @aW) ?_;exact zK
 rintro T2 H2 hs2 ⟨t4',t5',k2⟩;have w2:=k2.wf;have t0':ad T2 0=a:=(hs2.at_ 0 zU).trans t0;have t1':ad T2 1=s:=(hs2.at_ 1 zU).trans t1;have hl2:T2.length=55:=hs2.len.trans hl1;refine WC.wb ?_;refine zW (aQ hl2 t0' t1' hs.lenV) ?_;refine aq H [4] (fun j vs H'=>∃ o,vs=[o]/\BS H H' o ((l.take j).map fun r=>ik (Lin.dot x r))) (a:=0) (N:=l.length) rfl (by refine zW hl2 ?_; rfl) (zV hl2) (Vj _) zO (by simp only [U4,hl2]; rfl) rfl (fun j vs H' m ⟨o,h1,h2⟩=>⟨o,h1,h2.mono (Sub.bump H' m)⟩) zK ⟨.nilSl,by exact zV (aD hl2 t4'),Bl.nil⟩ ?_ ?_
 ·rintro j T3 H3 _ hj hl3 hi3 hs3 hk3 ⟨o,hv,ho⟩;have w3:=hk3.wf;have le_hk3:=hk3.le;simp only [Ve,Vk,Vg,and_true] at hv;have t33:ad T3 33=s:=(hs3.at_ 33 zU).trans (zV hl2);have t00:ad T3 0=a:=(hs3.at_ 0 zU).trans (zV (aD hl2 t0'));obtain ⟨w,hr,hld⟩:=dl (hs.mono hk3.sub) hj;have hix:=SlV.idx1 hs .i64 j hj;have hj':=U9 hj;have hlr:=hl' _ hj';simp only [U4,hl2] at hl3;refine zW (dL hl3 t33 t00 hi3 hix hld) ?_;refine AnsH.use (pi C zF (ha.mono (zG H)) (hr.mono (zG H3)) zO zO hxe (hbt _ hj') hb) ?_;rintro v H4 ⟨r,rfl,⟨w4,rfl,hr4⟩,hk4⟩;obtain ⟨k34,_,_⟩:=zT H3 zK hk4;have w4':=k34.wf;have n4:H3.next+12<=H4.next:=hk4.le
  have f4:H4.get (H3.next+9)=none:=hk4.free (show _<H3.next+12 by omega) (w3.fresh (b:=H3.next+9) zO);have ow:=hr4.one;have m9:NoTy [ae] H4 (H3.next+9):=NoTy.none f4;refine zW (aD hl3 hv) ?_;refine AnsH.eq (pg C (x:=Lin.dot x l[j]) zF ⟨w4,rfl,SlV.monoT (E:=bS cj) zS hr4⟩ ((oy hxe (hbt _ hj') zO zO).sm hb)) fun H5 hk5=>?_;obtain ⟨k35,_,_⟩:=zT H3 zK hk5;have k5:Kp H H5:=hk3.trans k35;have le_k5:=k5.le;have ho5:=ho.mono k35.sub;have hlen:((l.take j).map fun r=>ik (Lin.dot x r)).length=j:=by simp; omega
  obtain ⟨n,H6,e1,h2,k6,n6,-⟩:=Bl.push (ty2:=fz) (bytes:=8) (id:=H5.next+3) (id2:=H5.next+2) (k:=5) (cs:=[.int .i64 (ik (Lin.dot x l[j]))]) (a:=ik (Lin.dot x l[j])) ho5 (fun h=>by cases h) k5 ⟨_,rfl,rfl⟩ zO zO zO zO zO zO zO;have e1':dI ((H5.up 5).put (H5.next+2) (.cells [.int .i64 (ik (Lin.dot x l[j]))] fz true)) (H5.next+3) 1 8 fz o (.own (H5.next+2) 0 1 1 1 true)=some (.own (H5.next+3) 0 n n 1 false,H6):=e1;refine zW (aE hl3 hv e1') ?_;refine ⟨k6,_,rfl,?_⟩;rw [Vi hj,VW];exact h2
 ·rintro T3 H3 hl3 hs3 hk3 ⟨o,hv,ho⟩;simp only [Ve,Vk,Vg,and_true] at hv;have t5'':ad T3 5=.int .i64 0:=(hs3.at_ 5 zU).trans (zV (aD hl2 t5'));simp only [U4,hl2] at hl3;rw [VD] at ho;refine zW (aQ hl3 hv t5'' hrs) ?_;exact ⟨o,rfl,ho,hk3⟩
end
section
variable {tab:Nat->Option aA} {base i k:Nat} {T0:Tm} {dst:Option Nat} {op:AOp} {us:List (Nat × Option Nat)} {adds:List Nat} {ds:List jx} {Vs:List AV} {Cs:List Heap} {Es:List (Option Ent)} {Q:DS->Prop}
def r8 {t:Nat} {w:Bool}:WD tab base T0 i (⟨dst,op,some (t,w),us,2,[(k,adds)]⟩ :: ds) ⟨Vs,Cs,Es⟩ Q =
  mI (ad (cn T0 Vs us) t) w (mR tab (Src.ev (cn T0 Vs us)) (du base Es (Cs.getD k default) adds) (base+i) op fun v H'=>WD tab base T0 (i+1) ds ⟨Vs++[v],Cs++[H'],Es++[none]⟩ Q) (WD tab base T0 (i+1) ds ⟨Vs++[.tup []],Cs++[du base Es (Cs.getD k default) adds],Es++[none]⟩ Q) () ():=by
 rw [Dd];have hw:bW (cn T0 Vs us) (some (t,w))=match ad (cn T0 Vs us) t with | .bool b=>some (b == w) | .tup []=>some false | _=>none:=by
  generalize cn T0 Vs us=T
  unfold ad;rw [U5];cases h:T[t]? with
  | none=>simp only [bW,h]; rfl
  | some v =>
   simp only [bW,h,WJ];cases v with
   | tup vs=>cases vs <;> rfl
   | _=>rfl
 conv=>lhs; unfold wd
 simp only [hw,mI];cases ad (cn T0 Vs us) t with
 | bool b=>cases b <;> cases w <;> rfl
 | tup vs=>cases vs <;> rfl
 | _=>rfl
end
def zX {F P Q:Prop} (f:F) (q:Q) (h:F->Q->P:=by intro h q; simp -dsimp (maxSteps:=1000000) (disch:=(first | omega | assumption | exact am _ | exact bp _ _ | exact bF | exact cO _ _ _ | exact bX _ _ | exact bP _ _ _ _ _ _ | exact cW _ _ | exact cp _)) only [↓xX,xW,↓Te,Td,↓r8,Nat.reduceLT,Nat.reduceEqDiff,Nat.reduceAdd,reduceIte,reduceCtorEq,Nat.reduceBEq,Int.reduceEq,Int.reduceLT,Int.reduceLE,Int.reduceAdd,Int.reduceSub,h]; exact q):P:=h f q
def Pk (a b:Nat):Nat:=(BitVec.ofNat 64 a &&& ~~~ BitVec.ofNat 64 b).toNat
def SV (a b:Nat):Pk a b<18446744073709551616:=(BitVec.ofNat 64 a &&& ~~~ BitVec.ofNat 64 b).isLt
def sw (a:Nat):BitVec.ofInt 64 (a:Int)=BitVec.ofNat 64 a:=by
 apply BitVec.eq_of_toNat_eq
 simp
def Mi {a b:Nat} (ha:a<18446744073709551616) (hb:b<18446744073709551616):bV .and .int (.int .u64 (a:Int)) (.int .u64 (b:Int))=some (.int .u64 ((a &&& b:Nat):Int)):=by
 have e:(BitVec.ofInt 64 (a:Int) &&& BitVec.ofInt 64 (b:Int)).toNat=a &&& b:=by
  rw [sw,sw,BitVec.toNat_and,BitVec.toNat_ofNat,BitVec.toNat_ofNat,VV zO,VV zO]
 have hlt:a &&& b<=a:=Nat.and_le_left;show some (AV.int .u64 (IntKind.u64.wrap ((BitVec.ofInt 64 (a:Int) &&& BitVec.ofInt 64 (b:Int)).toNat:Nat)))=_;rw [e,gf zO zO]
def EH (a b:Nat):bV .andNot .int (.int .u64 (a:Int)) (.int .u64 (b:Int))=some (.int .u64 ((Pk a b:Nat):Int)):=by
 have hlt:=SV a b;show some (AV.int .u64 (IntKind.u64.wrap ((BitVec.ofInt 64 (a:Int) &&& ~~~ BitVec.ofInt 64 (b:Int)).toNat:Nat)))=_;rw [sw,sw];show some (AV.int .u64 (IntKind.u64.wrap ((Pk a b:Nat):Int)))=_;rw [gf zO zO]
def O8 {a b:Nat}:Pk a b=0 ↔ ∀ j,j<64->a.testBit j=true->b.testBit j=true:=by
 unfold Pk;constructor
 ·intro h j hj ha;have h1:(BitVec.ofNat 64 a &&& ~~~ BitVec.ofNat 64 b).getLsbD j=false:=by
   rw [<- BitVec.testBit_toNat,h]; simp
  rw [BitVec.getLsbD_and,BitVec.getLsbD_not,BitVec.getLsbD_ofNat,BitVec.getLsbD_ofNat,decide_eq_true hj] at h1
  simpa [ha] using h1
 ·intro h;have h1:(BitVec.ofNat 64 a &&& ~~~ BitVec.ofNat 64 b)=0#64:=by
   apply BitVec.eq_of_getLsbD_eq
   intro j hj
   have:=h j hj
   rw [BitVec.getLsbD_and,BitVec.getLsbD_not,BitVec.getLsbD_ofNat,BitVec.getLsbD_ofNat,decide_eq_true hj];cases ha:a.testBit j with
   | false=>simp
   | true=>simp [this ha]
  rw [h1]; rfl
structure MaskUp (bs:List Bool) (k:Nat) (W:List Nat):Prop where
 len:W.length=bs.length / 64+1
 lt:∀ i,W.getD i 0<18446744073709551616
 bit:∀ i j,j<64->(W.getD i 0).testBit j=(decide (64*i+j<k) && bs.getD (64*i+j) false)
abbrev qf (bs:List Bool) (W:List Nat):Prop:=MaskUp bs bs.length W
def MaskUp.zero (bs:List Bool):MaskUp bs 0 (List.replicate (bs.length / 64+1) 0):=by
 have h0:∀ i,(List.replicate (bs.length / 64+1) 0).getD i 0=0:=fun i=>by
  rw [U5,V9]; split <;> rfl
 exact ⟨by simp,fun i=>by rw [h0]; decide,fun i j _=>by rw [h0]; simp⟩
def MaskUp.skip {bs:List Bool} {k:Nat} {W:List Nat} (h:MaskUp bs k W) (hb:bs.getD k false=false):MaskUp bs (k+1) W:=by
 refine ⟨h.len,h.lt,fun i j hj=>?_⟩;rw [h.bit i j hj];by_cases e:64*i+j=k
 ·rw [e,hb]; simp
 ·congr 2;simp only [eq_iff_iff];omega
def MaskUp.mark {bs:List Bool} {k:Nat} {W:List Nat} (h:MaskUp bs k W) (hk:k<bs.length) (hb:bs.getD k false=true):MaskUp bs (k+1) (W.set (k / 64) (W.getD (k / 64) 0 ||| 2^(k % 64))):=by
 have hi:k / 64<W.length:=by rw [h.len]; have:=YX (c:=64) (W0 hk); omega
 have hp:(2:Nat)^(k % 64)<2^64:=Yl zU (V4 _ zU);have hg:∀ i,(W.set (k / 64) (W.getD (k / 64) 0 ||| 2^(k % 64))).getD i 0=if i=k / 64 then W.getD (k / 64) 0 ||| 2^(k % 64) else W.getD i 0:=fun i=>by
  rw [U5,W9];by_cases e:k / 64=i
  ·subst e; rw [if_pos rfl,if_pos hi,if_pos rfl]; rfl
  ·rw [if_neg e,if_neg (fun e'=>e e'.symm),<- U5]
 refine ⟨by rw [U4]; exact h.len,fun i=>?_,fun i j hj=>?_⟩
 ·rw [hg];split
  ·have:=h.lt (k / 64)
   have h2:W.getD (k / 64) 0 ||| 2^(k % 64)<2^64:=Zr zO hp
   omega
  ·exact h.lt i
 ·rw [hg];by_cases ei:i=k / 64
  ·rw [if_pos ei,Nat.testBit_or,<- ei,h.bit i j hj,Nat.testBit_two_pow];by_cases e:64*i+j=k
   ·have e2:k % 64=j:=zO;rw [e,hb,e2]; simp
   ·have e2:¬ k % 64=j:=zO;rw [decide_eq_false e2,Zy];congr 2;simp only [eq_iff_iff];omega
  ·rw [if_neg ei,h.bit i j hj];have e:64*i+j≠k:=zO;congr 2;simp only [eq_iff_iff];omega
def Eo (bt ba bb:List Bool):Bool:=(List.range bt.length).all fun k=>!(ba.getD k false && bb.getD k false) || bt.getD k false
def FV {bt ba bb:List Bool} {T A B:List Nat} (ht:qf bt T) (ha:qf ba A) (hb:qf bb B) (h1:ba.length=bt.length) (h2:bb.length=bt.length) :
  Eo bt ba bb=true ↔ ∀ i,i<T.length->Pk (A.getD i 0 &&& B.getD i 0) (T.getD i 0)=0:=by
 have key:∀ i,Pk (A.getD i 0 &&& B.getD i 0) (T.getD i 0)=0 ↔ ∀ j,j<64->64*i+j<bt.length->ba.getD (64*i+j) false=true->bb.getD (64*i+j) false=true->bt.getD (64*i+j) false=true:=fun i=>by
  rw [O8];constructor
  ·intro h j hj hlt p q
   have:=h j hj (by rw [Nat.testBit_and,ha.bit i j hj,hb.bit i j hj,p,q,decide_eq_true zO,decide_eq_true zO]; rfl)
   rw [ht.bit i j hj,VG] at this;exact this.2
  ·intro h j hj hab;rw [Nat.testBit_and,ha.bit i j hj,hb.bit i j hj] at hab;simp only [VG,decide_eq_true_eq] at hab;rw [ht.bit i j hj,VG,decide_eq_true_eq];exact ⟨zO,h j hj zO hab.1.2 hab.2.2⟩
 unfold Eo;rw [Vy];constructor
 ·intro h i _;rw [key];intro j _ hlt p q
  have:=h (64*i+j) (by simpa using hlt)
  rw [p,q] at this
  simpa using this
 ·intro h k hk;have hk:k<bt.length:=by simpa using hk
  have hlt:k / 64<T.length:=by rw [ht.len]; have:=YX (c:=64) (W0 hk); omega
  have hm:=(key (k / 64)).1 (h _ hlt) (k % 64) (V4 _ zU);rw [Wj] at hm;cases p:ba.getD k false with
  | false=>simp
  | true =>
   cases q:bb.getD k false with
   | false=>simp
   | true=>simpa using hm hk p q
section
variable {tab:Nat->Option aA} {H:Heap} {s:AV}
def OP (C:Code tab) (hw:Wf H) {vt va vb:AV} {bt ba bb:List Bool} {Tw A Bw:List Nat} (ht:Lb H vt Tw) (ha:Lb H va A) (hb:Lb H vb Bw) (mt:qf bt Tw) (ma:qf ba A) (mb:qf bb Bw) (h1:ba.length=bt.length) (h2:bb.length=bt.length) (hbig:bt.length<1099511627776) :
  Ans tab (.fn uq [vt,va,vb]) H fun v H'=>v=.bool (Eo bt ba bb)/\Kp H H':=by
 refine kS C.q152 zU fun T hl g0 g1 g2=>?_;have hlt:=mt.len;have hla:=ma.len;have hlb:=mb.len;rw [h1] at hla;rw [h2] at hlb;have hdiv:bt.length / 64<=bt.length:=XD _ _;refine zW (bA hl g0 g1 g2 ht.lenV) ?_;refine aq H [] (fun j _ _=>∀ i,i<j->Pk (A.getD i 0 &&& Bw.getD i 0) (Tw.getD i 0)=0) (a:=0) (N:=Tw.length) rfl (by refine zW (aQ hl g0 g1 g2) ?_; rfl) (zV (aQ hl g0 g1 g2)) (Vj _) zO (by simp only [U4,hl]; rfl) rfl (fun _ _ _ _ h=>h) zK (fun i h=>by omega) ?_ ?_
 ·intro j T1 H1 _ hj hl1 hi1 hs1 hk1 hP;have w1:=hk1.wf;have le_hk1:=hk1.le;have t9:ad T1 9=vt:=(hs1.at_ 9 zU).trans (zV (aQ hl g0 g1 g2));have t1:ad T1 1=va:=(hs1.at_ 1 zU).trans (zV (aQ hl g0 g1 g2));have t2:ad T1 2=vb:=(hs1.at_ 2 zU).trans (zV (aQ hl g0 g1 g2));have x0:=SlV.idx1 ht .i64 j hj;have x1:=SlV.idx1 ha .i64 j zO;have x2:=SlV.idx1 hb .i64 j zO;have d0:=fp (ht.mono hk1.sub) hj;have d1:=fp (ha.mono hk1.sub) (i:=j) zO;have d2:=fp (hb.mono hk1.sub) (i:=j) zO;have la:=ma.lt j;have lb:=mb.lt j;have ba':=Mi la lb;have bn:=EH (A.getD j 0 &&& Bw.getD j 0) (Tw.getD j 0);simp only [U4,hl] at hl1;refine zW (bA hl1 t9 hi1 x0 d0) ?_;refine aF ?_;refine zD (iO hl1 t9 t1 t2 hi1 x1 x2 d1 d2 ba' bn) ?_;refine iteH.split (fun hz=>?_) fun hz=>?_
  ·have hz':¬ Pk (A.getD j 0 &&& Bw.getD j 0) (Tw.getD j 0)=0:=zO;simp only [iJ,jN,iI,lS,Xr,Xf,sS,qe,Zk,Zt,XF,WI];refine zW hl1 ?_;refine ⟨?_,zK⟩;cases hh:Eo bt ba bb with
   | false=>rfl
   | true=>exact absurd ((FV mt ma mb h1 h2).1 hh j hj) hz'
  ·have hz':Pk (A.getD j 0 &&& Bw.getD j 0) (Tw.getD j 0)=0:=zO;simp only [iJ,jN,iI,lS,Xr,Xf,sS,qe,Zk,Zt,XF,WI];refine zW hl1 ?_;refine ⟨zK,fun i hi=>?_⟩;by_cases e:i=j
   ·subst e; exact hz'
   ·exact hP i zO
 ·intro T1 H1 hl1 hs1 hk1 hP;simp only [U4,hl] at hl1;refine zW hl1 ?_;exact ⟨by rw [(FV mt ma mb h1 h2).2 hP],zK⟩
end
def Ra {k:Nat} (hk:k<4611686018427387904):bV .quo .int (.int .i64 (k:Int)) (.int .i64 64)=some (.int .i64 ((k / 64:Nat):Int)):=NL (c:=64) zO hk
def Tn (k:Nat):bV .rem .int (.int .i64 (k:Int)) (.int .i64 64)=some (.int .i64 ((k % 64:Nat):Int)):=NJ (c:=64) zO
def zeros (r:List Int) (D:List (List Int)):List Bool:=D.map fun b=>decide (Lin.dot r b=0)
def wK (r:List Int) (D:List (List Int)):(zeros r D).length=D.length:=by simp [zeros]
def il (x:Int):ik x=0 ↔ x=0:=by unfold ik; split <;> (try split) <;> omega
section
variable {tab:Nat->Option aA} {H:Heap} {s:AV}
def L8 (C:Code tab) (hw:Wf H) {ub:Nat} {ql qr qd vr:AV} {r:List Int} {D:List (List Int)} {d e f:Nat} (hub:H.get ub=some (.cells [ql,qr,qd] aR true)) (hqd:dK H qd D) (hr:RowV H vr r) (h1024:D.length<=1024) (hd0:0<d) (hd:d<=64) (hrl:r.length=d) (hDl:∀ x∈D,x.length=d) (hre:∀ z∈r,Bt e z) (hDf:∀ x∈D,∀ z∈x,Bt f z) (hb:e+f+7<=8796093022208) :
  Ans tab (.fn eJ [.ptr ub 0,vr]) H fun v H'=>∃ W,Lb H' v W/\qf (zeros r D) W/\Kp H H':=by
 refine bB C.q133 zU fun T hl g0 g1=>?_;have lub:=hw _ _ hub;have hq:=Ra (k:=D.length) zO;have hdiv:D.length / 64<=D.length:=XD _ _;have e1:IntKind.i64.wrap (((D.length / 64:Nat):Int)+1)=((D.length / 64+1:Nat):Int):=by rw [wrap_i64] <;> omega
 have hmk:∀ H':Heap,Jy H' (H.next+8) ae 1 8 [.int .u64 0] (.int .i64 ((D.length / 64+1:Nat):Int)) (.int .i64 ((D.length / 64+1:Nat):Int))=some (.own (H.next+8) 0 (D.length / 64+1) (D.length / 64+1) 1 true,H'.put (H.next+8) (.cells ((List.replicate (D.length / 64+1) [AV.int .u64 0]).flatten) ae true)):=fun H'=>jc _ _ _ _ _ _ _ _ _ zO zO rfl;refine zW (iy hl g0 g1 hub hqd.lenV hq e1 hmk) ?_;refine AnsH.use (KW C zF (hr.mono (zG H)) (hqd.mono (zG H)) h1024 hd0 hd hrl hDl hre hDf hb) ?_;rintro v H2 ⟨q,rfl,hq2,hk2⟩;obtain ⟨k2,_,w2⟩:=zT H zK hk2;have b0:=hk2.get (b:=H.next+8) (e:=.cells (aM (List.replicate (D.length / 64+1) 0)) ae true) (cH);have hsl:=hq2.sl;have hzl:=wK r D;refine zW (bA hl g0 g1 hsl.lenV @List.length_map.{0,0}) ?_;have hq2':SlV (bS (LB .i64)) fz H2 q (D.map fun b=>ik (Lin.dot r b)):=hsl;refine aq H [] (fun j _ H'=>∃ W,H'.get (H.next+8)=some (.cells (aM W) ae true)/\MaskUp (zeros r D) j W/\SlV (bS (LB .i64)) fz H' q (D.map fun b=>ik (Lin.dot r b))) (a:=0) (N:=D.length) rfl (by refine zW (aE hl g0 g1) ?_; rfl) (zV (aE hl g0 g1)) (Vj _) zO (by simp only [U4,hl]; rfl) rfl (fun j vs H' m ⟨W,h1,h2,h3⟩=>⟨W,h1,h2,h3.mono (Sub.bump H' m)⟩) zK ⟨_,by exact b0,by rw [<- hzl]; exact MaskUp.zero _,hq2'.mono (Sub.bump H2 _)⟩ ?_ ?_
 ·rintro j T1 H1 _ hj hl1 hi1 hs1 hk1 ⟨W,hW,mW,hsW⟩;have w1:=hk1.wf;have le_hk1:=hk1.le;have lt8:=w1 _ _ hW;have t27:ad T1 27=q:=(hs1.at_ 27 zU).trans (zV (aE hl g0 g1));have t5:ad T1 5=.own (H.next+8) 0 (D.length / 64+1) (D.length / 64+1) 1 true:=(hs1.at_ 5 zU).trans (zV (aE hl g0 g1));have hsj:(D.map fun b=>ik (Lin.dot r b))[j]? = some (ik (Lin.dot r D[j])):=by simp [hj]
  obtain ⟨c,hc,hld⟩:=SlV.at1 hsW hsj;have hc:c=.int .i64 (ik (Lin.dot r D[j])):=hc;rw [hc] at hld;have hix:=SlV.idx1 hsW .i64 j (by simp; exact hj);have hgz:(zeros r D).getD j false=decide (Lin.dot r D[j]=0):=by simp [zeros,hj]
  have hWl:=mW.len;rw [hzl] at hWl;have hj64:j / 64<D.length / 64+1:=by have:=YX (c:=64) (W0 hj); omega
  have hj64':j / 64<W.length:=zO;have hq':=Ra (k:=j) zO;have hr':=Tn j;have hmod:j % 64<64:=V4 _ zU;have hsh:=GJ (r:=j % 64) hmod (k:=.i64);have hp:(2:Nat)^(j % 64)<2^64:=Yl zU hmod;have hor:=wy (mW.lt (j / 64)) (b:=2^(j % 64)) zO;simp only [U4,hl] at hl1;refine zW (bA hl1 t27 hi1 hix hld) ?_;refine iteH.split (fun h=>?_) fun h=>?_
  ·have hz:=(il _).1 h;refine aF ?_;refine zD (qz hl1 t5 hi1 hq' hr' hsh hor hW hj64 hj64') ?_;have m8:NoTy [fz] H1 (H.next+8):=NoTy.ty hW zU;refine ⟨zK,_,rfl,mW.mark (by rw [hzl]; exact hj) (by rw [hgz,decide_eq_true hz]),SlV.monoT (E:=bS (LB .i64)) zS hsW⟩
  ·have hz:¬ Lin.dot r D[j]=0:=fun e=>h ((il _).2 e);refine zW hl1 ?_;exact ⟨zK,W,hW,mW.skip (by rw [hgz,decide_eq_false hz]),hsW.mono (Sub.bump H1 _)⟩
 ·rintro T1 H1 hl1 hs1 hk1 ⟨W,hW,mW,hsW⟩;have w1:=hk1.wf;have le_hk1:=hk1.le;have t5:ad T1 5=.own (H.next+8) 0 (D.length / 64+1) (D.length / 64+1) 1 true:=(hs1.at_ 5 zU).trans (zV (aE hl g0 g1));simp only [U4,hl] at hl1;have hWl:=mW.len;rw [hzl] at hWl;refine zW (aD hl1 t5) ?_;rw [<- hzl] at mW;exact ⟨W,(vA (H0:=H) hW zO hWl).sl.mono (Sub.bump H1 _),mW,zK⟩
abbrev SZ (H:Heap) (v:AV) (Ws:List (List Nat)):Prop:=BR (tk (bS cj) ae) d9 H v Ws
def AB (zs:List (List Bool)) (i k:Nat):Bool:=(List.range zs.length).all fun t=>t == i || t == k || !Eo (zs.getD t []) (zs.getD i []) (zs.getD k [])
def L7 (C:Code tab) (hw:Wf H) {vm:AV} {Ws:List (List Nat)} {zs:List (List Bool)} {n i k:Nat} (hm:SZ H vm Ws) (hl':Ws.length=zs.length) (hok:∀ t (h:t<zs.length) (h':t<Ws.length),qf zs[t] Ws[t]) (hn:∀ z∈zs,z.length=n) (hbig:n<1099511627776) (hbig2:zs.length<1099511627776) (hi:i<zs.length) (hk:k<zs.length) :
  Ans tab (.fn ni [vm,.int .i64 (i:Int),.int .i64 (k:Int)]) H fun v H'=>v=.bool (AB zs i k)/\Kp H H':=by
 refine kS C.q134 zU fun T hl g0 g1 g2=>?_;refine zW (bA hl g0 g1 g2 hm.lenV) ?_;refine aq H [] (fun j _ _=>∀ t,t<j->(t == i || t == k || !Eo (zs.getD t []) (zs.getD i []) (zs.getD k []))=true) (a:=0) (N:=Ws.length) rfl (by refine zW (aQ hl g0 g1 g2) ?_; rfl) (zV (aQ hl g0 g1 g2)) (Vj _) zO (by simp only [U4,hl]; rfl) rfl (fun _ _ _ _ h=>h) zK (fun i h=>by omega) ?_ ?_
 ·rintro j T1 H1 _ hj hl1 hi1 hs1 hk1 hP;have w1:=hk1.wf;have le_hk1:=hk1.le;have t9:ad T1 9=vm:=(hs1.at_ 9 zU).trans (zV (aQ hl g0 g1 g2));have t0:ad T1 0=vm:=(hs1.at_ 0 zU).trans (zV (aQ hl g0 g1 g2));have t1:ad T1 1=.int .i64 (i:Int):=(hs1.at_ 1 zU).trans (zV (aQ hl g0 g1 g2));have t2:ad T1 2=.int .i64 (k:Int):=(hs1.at_ 2 zU).trans (zV (aQ hl g0 g1 g2));have hm1:=hm.mono hk1.sub;have hi':i<Ws.length:=zO;have hk':k<Ws.length:=zO;have hj':j<zs.length:=zO;obtain ⟨wj,hrj,hldj⟩:=SlV.at1 hm1 (U7 hj);obtain ⟨wi,hri,hldi⟩:=SlV.at1 hm1 (U7 hi');obtain ⟨wk,hrk,hldk⟩:=SlV.at1 hm1 (U7 hk');have hrj:Lb H1 wj Ws[j]:=hrj;have hri:Lb H1 wi Ws[i]:=hri;have hrk:Lb H1 wk Ws[k]:=hrk;have xj:=SlV.idx1 hm .i64 j hj;have xi:=SlV.idx1 hm .i64 i hi';have xk:=SlV.idx1 hm .i64 k hk';have gj:zs.getD j []=zs[j]:=by simp [hj']
  have gi:zs.getD i []=zs[i]:=by simp [hi]
  have gk:zs.getD k []=zs[k]:=by simp [hk]
  simp only [U4,hl] at hl1;refine zW (bA hl1 t9 hi1 xj hldj) ?_;refine aF ?_;by_cases hji:j=i
  ·subst hji;refine zD (fy hl1 t0 t1 t2 hi1 @r8 @al) ?_;refine ⟨zK,fun t ht=>?_⟩;by_cases e:t=j
   ·subst e; simp
   ·exact hP t zO
  ·have hji':¬ (j:Int)=(i:Int):=zO;by_cases hjk:j=k
   ·subst hjk;refine zD (jW hl1 t0 t1 t2 hi1 @r8 @al hji hji') ?_;refine ⟨zK,fun t ht=>?_⟩;by_cases e:t=j
    ·subst e; simp
    ·exact hP t zO
   ·have hjk':¬ (j:Int)=(k:Int):=zO;refine zD (ME hl1 t0 t1 t2 hi1 @r8 @al hji hji' hjk hjk' xi xk hldi hldk) ?_;have lj:=hn _ (U9 hj');have li:=hn _ (U9 hi);have lk:=hn _ (U9 hk);refine AnsH.eq (OP C zF (hrj.mono (zG H1)) (hri.mono (zG H1)) (hrk.mono (zG H1)) (hok j hj' hj) (hok i hi hi') (hok k hk hk') zO zO zO) fun H2 hk2=>?_;obtain ⟨k2,_,_⟩:=zT H1 zK hk2;have k02:Kp H H2:=hk1.trans k2;have le_k02:=k02.le;cases hh:Eo zs[j] zs[i] zs[k] with
    | true =>
     refine zD (ME hl1 t0 t1 t2 hi1 @r8 @al hji hji' hjk hjk' xi xk hldi hldk) ?_;refine ⟨?_,zK⟩;cases hn':AB zs i k with
     | false=>rfl
     | true =>
      unfold AB at hn';rw [Vy] at hn'
      have:=hn' j (by simpa using hj')
      rw [gj,gi,gk,hh] at this;simp [hji,hjk] at this
    | false =>
     refine zD (ME hl1 t0 t1 t2 hi1 @r8 @al hji hji' hjk hjk' xi xk hldi hldk) ?_;refine ⟨zK,fun t ht=>?_⟩;by_cases e:t=j
     ·subst e; rw [gj,gi,gk,hh]; simp
     ·exact hP t zO
 ·rintro T1 H1 hl1 hs1 hk1 hP;simp only [U4,hl] at hl1;refine zW hl1 ?_;refine ⟨?_,zK⟩
  have:AB zs i k=true:=by
   unfold AB;rw [Vy];intro t ht;exact hP t (by simp at ht; omega)
  rw [this]
end
def MO {tab:Nat->Option aA} (ev:Src->AV) (H:Heap) (id:Nat) (Q:AV->Heap->Prop) (size:Nat) (z:List AV) (x:Src) :
  mR tab ev H id (.clear size z x) Q=gL (rI H size z (ev x)) (fun H'=>Q (.tup []) H') ():=by
 rw [ca,gH tab ev H id Q (o:=.clear size z x) (fun f a e=>by cases e) rfl];show h9 ((rI H size z (ev x)).map fun H'=>(AV.tup [],H')) _=_;cases rI H size z (ev x) <;> rfl
def Kp.at_ {H0 H H':Heap} {b:Nat} (hk:Kp H0 H) (hg:∀ c,c≠b->H'.get c=H.get c) (hn:H'.next=H.next) (hb0:H0.next<=b) (hlt:b<H.next):Kp H0 H' :=
 ⟨hk.wf0,fun c e hc=>by
  by_cases h:c=b
  ·rw [h,hn]; exact hlt
  ·rw [hn]; exact hk.wf c e (by rw [<- hg c h]; exact hc),by rw [hn]; exact hk.le,fun c hc=>by rw [hg c zO]; exact hk.same c hc⟩
section
variable {tab:Nat->Option aA} {H:Heap} {s:AV}
def rZ (C:Code tab) (hw:Wf H) {fi:Nat} {first caps:List AV} {l:List (List Int)} (hs:dK H s l) (hbig:l.length<4611686018427387904) (p:List Int->Bool)
  (hf:∀ r∈l,∀ H' w,Kp H H'->RowV H' w r->Ans tab (.fn fi (first++[w]++caps)) H' fun v H2=>v=.bool (p r)/\Kp H' H2) :
  Ans tab (.fn bY [s,.fn (.func fi) first caps]) H fun v H'=>v=.int .i64 (nr p l)/\Kp H H':=by
 refine bB C.q99 zU fun T hl g0 g1=>?_;refine zW (aQ hl g0 g1 hs.lenV) ?_;refine aq H [] (fun j _ _=>∀ k (h:k<l.length),k<j->p l[k]=false) (a:=0) (N:=l.length) rfl (by refine zW (aE hl g0 g1) ?_; rfl) (zV (aE hl g0 g1)) (Vj _) zO (by simp only [U4,hl]; rfl) rfl (fun _ _ _ _ h=>h) zK (fun k _ h=>by omega) ?_ ?_
 ·intro j T1 H1 _ hj hl1 hi1 hs1 hk1 hP;have w1:=hk1.wf;have le_hk1:=hk1.le;have t0:ad T1 0=s:=(hs1.at_ 0 zU).trans (zV (aE hl g0 g1));have t1:ad T1 1=.fn (.func fi) first caps:=(hs1.at_ 1 zU).trans (zV (aE hl g0 g1))
  obtain ⟨w,hr,hld⟩:=dl (hs.mono hk1.sub) hj;have hix:=SlV.idx1 hs .i64 j hj;simp only [U4,hl] at hl1;refine zW (dL hl1 t0 t1 hi1 hix hld) ?_;refine AnsH.eq (hf _ (U9 hj) _ w zK (hr.mono (zG H1))) fun H2 hk2=>?_;obtain ⟨k2,_,_⟩:=zT H zK hk2;cases hp:p l[j] with
  | true =>
   refine zW hl1 ?_;exact ⟨by rw [sG hj hP hp],zK⟩
  | false =>
   refine zW hl1 ?_;refine ⟨zK,fun k h hk=>?_⟩;by_cases e:k=j
   ·subst e; exact hp
   ·exact hP k h zO
 ·intro T1 H1 hl1 hs1 hk1 hP;simp only [U4,hl] at hl1;refine zW hl1 ?_;exact ⟨by rw [pR fun k h=>hP k h h],zK⟩
def I5 (C:Code tab) (hw:Wf H) {l:List (List Int)} (hs:dK H s l) (h0:0<l.length) (hbig:l.length<1099511627776):Ans tab (.fn cE [s]) H fun v H'=>Kp H H'/\∃ b,Own rowsE af H H' b false v l:=by
 refine cR C.q138 zU fun T hl g0=>?_;rcases hs.nilcase with ⟨rfl,rfl⟩ | hne
 ·simp at h0
 ·have ef:cG ([]:List AV) []=some []:=rfl;refine zW (aQ hl g0 hne ef) ?_;have k1:Kp H ((H.up 7).put (H.next+3) (.cells [] af true)):=zK;have le_k1:=k1.le;have hz:SlV rowsE af ((H.up 7).put (H.next+3) (.cells [] af true)) (.own (H.next+3) 0 0 0 1 true) ([]:List (List Int)) :=
   (show Own rowsE af H _ (H.next+3) true _ [] from ⟨_,rfl,ap _ _ _,Cells.nil _ _,zO⟩).sl
  obtain ⟨v',H2,e1,h2,hk2,hn2,hs2,ho⟩:=SlV.app (l:=[]) (id:=H.next+5) (bytes:=24) hz k1 (hs.mono k1.sub) zO (by show _<H.next+7; omega) (by rw [az zO]; exact hw.fresh (b:=H.next+5) zO) (by simp; omega) (by simp; omega);have e1':dI ((H.up 7).put (H.next+3) (.cells [] af true)) (H.next+5) 1 24 af (.own (H.next+3) 0 0 0 1 true) s=some (v',H2):=e1;refine zW (aE hl g0 e1') ?_;exact ⟨hk2,_,ho h0⟩
def QL {H':Heap} {b n i:Nat} {cells:List AV} (hb:H'.get b=some (.cells cells af true)) (hn:cells.length=n) (hi:i<n) (hbig:n<1099511627776) (hones:cells.all AV.one=true) :
  ∃ y H2 cells2,cw 1 (.own b 0 n n 1 false) (some (.int .i64 ((i+1:Nat):Int))) none none=some y/\(∀ id,dI H' id 1 24 af (.own b 0 i n 1 false) y=some (.own b 0 (n-1) n 1 false,H2))/\H2.get b=some (.cells cells2 af true)/\cells2.take (n-1)=cells.eraseIdx i/\cells2.length=n/\(∀ c,c≠b->H2.get c=H'.get c)/\H2.next=H'.next:=by
 have he:cells.eraseIdx i=cells.take i++cells.drop (i+1):=Xt ..;by_cases h:i+1<n
 ·refine ⟨.own b (0+(i+1)*1) (n-(i+1)) (n-(i+1)) 1 false,H'.put b (.cells (cells.take (0+i*1)++cells.drop (i+1)++cells.drop (0+i*1+(n-(i+1))*1)) af true),_,?_,fun id=>?_,ap _ _ _,?_,?_,fun c hc=>az hc,rfl⟩
  ·show bR 1 (.own b 0 n n 1 false) (some (.int .i64 ((i+1:Nat):Int))) none none=_;simp only [bR,fY,ne_eq,not_true_eq_false,if_false,U8,Ww,W3,WS,WU,WJ];rw [if_pos ⟨Vb _,zO⟩,if_pos (.inl h)]
  ·have hf:aN H' 1 (n-(i+1)) (.own b (0+(i+1)*1) (n-(i+1)) (n-(i+1)) 1 false)=some (cells.drop (i+1)):=by
    simp only [aN,hb];rw [if_pos ⟨trivial,Vb _,zO⟩];rw [VF (by simp; omega)]
    simp
   have hones2:(cells.drop (i+1)).all AV.one=true:=by
    rw [Vy] at hones ⊢;exact fun x hx=>hones x (XN hx)
   unfold dI;simp only [gP];rw [hf];simp only [cU,hb];rw [if_pos ⟨trivial,zO,zO,trivial,zO⟩,if_pos zO,if_neg zO,if_pos ⟨trivial,hones2⟩];congr 3;omega
  ·rw [he,Xy (by simp; omega),VF (by simp; omega)]
   simp
  ·simp; omega
 ·have hi':n=i+1:=zO;refine ⟨.sl [] 0,H',cells,?_,fun id=>?_,hb,?_,hn,fun _ _=>rfl,rfl⟩
  ·show bR 1 (.own b 0 n n 1 false) (some (.int .i64 ((i+1:Nat):Int))) none none=_;simp only [bR,fY,ne_eq,not_true_eq_false,if_false,U8,Ww,W3,WS,WU,WJ];rw [if_pos ⟨Vb _,zO⟩,if_neg zO]
   simp
  ·unfold dI;simp only [gP,aN];simp only [cU,hb]
   simp
   refine ⟨zO,?_⟩;have e:n-1=i:=zO;rw [if_pos zO,e]
  ·rw [he,X9 zO,Wy];congr 1;omega
def GX (C:Code tab) {H0:Heap} {v:AV} {l:List (List Int)} {i b:Nat} (hk:Kp H0 H) (hs:Own rowsE af H0 H b false v l) (hi:i<l.length) (hbig:l.length<1099511627776) :
  Ans tab (.fn cz [v,.int .i64 (i:Int),.int .i64 ((i+1:Nat):Int)]) H fun v' H'=>v'=.own b 0 (l.length-1) l.length 1 false/\Kp H0 H'/\(∃ cells,H'.get b=some (.cells cells af true)/\cells.length=l.length/\Cells rowsE H' (cells.take (l.length-1)) (l.eraseIdx i))/\∀ c,c≠b->H'.get c=H.get c:=by
 obtain ⟨cells,hv,hb,hcl,hb0⟩:=hs;have hv:v=.own b 0 l.length l.length 1 false:=hv;subst hv;have hn:cells.length=l.length:=by have:=hcl.1; simpa [bS] using this
 have hlt:=hk.wf _ _ hb;have hones:=hcl.ones;obtain ⟨n,hln⟩:∃ n,l.length=n:=⟨_,rfl⟩
 rw [hln] at hn hi hbig ⊢;refine kS C.q139 zU fun T hl g0 g1 g2=>?_;have e13:cw 1 (.own b 0 n n 1 false) (some (.int .i64 (i:Int))) (some (.int .i64 ((i+1:Nat):Int))) (some (.int .i64 (n:Int)))=some (.own b (0+i*1) (i+1-i) (n-i) 1 true):=by
  simp only [cw,bR,fY,ne_eq,not_true_eq_false,if_false,U8,Ww,W3,WS,WU,WJ];rw [if_pos ⟨Vb _,zO,zO⟩,if_neg zO]
 have hne1:¬ (i:Int)=((i+1:Nat):Int):=zO;have hne2:¬ i=i+1:=zO;have x22:=HV b 0 n n 1 i false .i64 (W0 hi);obtain ⟨y,H2,cells2,hy,happ,q2,qt,ql,qo,qn⟩:=QL (H':=H.up 21) (b:=b) (i:=i) hb hn hi hbig hones;have hsl:cw 1 (.own b 0 (n-1) n 1 false) (some (.int .i64 ((n-1:Nat):Int))) (some (.int .i64 (n:Int))) none=some (.own b (n-1) 1 1 1 false):=by
  simp only [cw,bR,fY,ne_eq,not_true_eq_false,if_false,U8,Ww,W3,WS,WU,WJ];rw [if_pos ⟨Vb _,zO⟩,if_pos (.inl zO)];congr 2 <;> omega
 have hclr:∀ X:Heap,X.get b=some (.cells cells2 af true)->rI X 1 [.nilSl] (.own b (n-1) 1 1 1 false)=some (X.put b (.cells (cells2.take (n-1)++(List.replicate 1 [AV.nilSl]).flatten++cells2.drop (n-1+1*1)) af true)):=fun X hX=>by
  simp only [rI,hX];rw [if_neg zO,if_pos ⟨trivial,zO,rfl,rfl⟩]
 have hclr2:=hclr (H2.up 6) q2;refine zW (fy hl g0 g1 g2 e13 hne1 hne2) ?_;refine aF ?_;simp -dsimp (maxSteps:=1000000) (disch:=(first | omega | assumption | exact am _ | exact bp _ _ | exact bF | exact cO _ _ _ | exact bX _ _ | exact bP _ _ _ _ _ _ | exact cW _ _ | exact cp _)) only [↓xX,xW,↓Te,Td,Nat.reduceLT,Nat.reduceEqDiff,Nat.reduceAdd,reduceIte,reduceCtorEq,Nat.reduceBEq,Int.reduceEq,Int.reduceLT,Int.reduceLE,Int.reduceAdd,Int.reduceSub,hl,g0,g1,g2,x22,hy,happ,JG,hsl,↓MO,hclr2];obtain ⟨cells3,hc3⟩:∃ c,c=cells2.take (n-1)++(List.replicate 1 [AV.nilSl]).flatten++cells2.drop (n-1+1):=⟨_,rfl⟩
 rw [<- hc3];have k2:Kp H0 H2:=(hk.up 21).at_ qo qn hb0 (by show b<H.next+21; omega);have le_k2:=k2.le;have lt2:b<H2.next:=by rw [qn]; show _<H.next+21; omega
 have sH:SubT (tk intE aa).tys H ((H2.up 8).put b (.cells cells3 af true)):=fun c cs t r ht hc=>by
  have hcb:c≠b:=fun e=>by
   subst e;rw [hb] at hc; cases hc
   revert ht; decide
  rw [az hcb];exact (qo c hcb).trans hc
 have ht3:cells3.take (n-1)=cells.eraseIdx i:=by
  rw [hc3,WZ,Xy (by simp; omega),VF (by simp; omega),qt]
 have hl3:cells3.length=n:=by rw [hc3]; simp; omega
 refine ⟨zK,⟨cells3,rfl,hl3,?_⟩,fun c hc=>?_⟩
 ·rw [ht3,Xt,Xt];have h1:=(hcl.mono sH).take (n:=i) zO;have h2:=(hcl.mono sH).drop (i+1);have h3:=h1.append h2;have es:rowsE.sz=1:=rfl;rw [es,WE,WE] at h3;exact h3
 ·rw [az hc]; exact qo c hc
end
end Go.Proofs.YteaefaohjlmjdaaGreat.Ev
