/- A part. -/
import Derived.Test.YtiigaeehghcjiaaGreatA0
import Derived.Test.YtiigaeehghcjiaaGreatN22
set_option linter.all false
namespace Go.Proofs.YtiigaeehghcjiaaGreat.Lin
structure Under where
 lines:List V
 rays:List V
 done:List V
def unitV (d i:Nat):V:=(lZ d).set i 1
def startU (d:Nat):Under:=⟨(List.range d).map (unitV d),[],[]⟩
def upV (a u:V):V:=if dot a u<0 then scl (-1) u else u
def addU (a:V) (eq:Bool) (u:Under):Under :=
 match u.lines.findIdx? fun l=>!decide (dot a l=0) with
 | none=>⟨u.lines,cutL u.done a eq u.rays,u.done++if eq then [] else [a]⟩
 | some i=>⟨(u.lines.eraseIdx i).map (foldV a (upV a (u.lines.getD i []))),u.rays.map (foldV a (upV a (u.lines.getD i [])))++(if eq then [] else [upV a (u.lines.getD i [])]),u.done++if eq then [] else [a]⟩
def gensU (d:Nat) (b c:List V):Under:=c.foldl (fun u a=>addU a false u) (b.foldl (fun u a=>addU a true u) (startU d))
def cmpV:V->V->Bool
 | [],_=>true
 | _ :: _,[]=>false
 | a :: x,b :: y=>if a<b then true else if a=b then cmpV x y else false
def gensL (d:Nat) (a b:List V):List V:=formF (gensU d a b).lines
def gensR (d:Nat) (a b:List V):List V:=((gensU d a b).rays.map (restF (gensL d a b))).mergeSort cmpV
section
variable {d:Nat} {E:V->Prop}
def oh {i j:Nat} (hi:i<d):at_ (unitV d i) j=if j=i then 1 else 0:=by
 unfold at_ unitV lZ;rw [qf,YP];by_cases h:i=j
 ·subst h; simp [hi]
 ·have h':¬ j=i:=fun e=>h e.symm;rw [if_neg h,if_neg h',Xv];split <;> rfl
def oX:DD d (fun _=>False) (· ∈ ([]:List V)) (· ∈ (startU d).lines) (startU d).rays:=by
 refine ⟨fun l hl=>?_,fun l hl e he=>he.elim,fun l hl i hi=>(by cases hi),fun x hx _ _=>?_,fun r hr=>(by cases hr),fun x hx=>?_,fun r hr=>(by cases hr),fun r hr=>(by cases hr),List.Pairwise.nil⟩
 ·obtain ⟨i,-,rfl⟩:=DT.1 hl;simp [unitV,lZ]
 all_goals
  first
  | (have hx:=hx.len)
  | skip
 all_goals
  have hl:∀ l,l∈(startU d).lines->l.length=d:=fun l hl=>by
   obtain ⟨i,-,rfl⟩:=DT.1 hl;simp [unitV,lZ]
  have key:∀ n,n<=d->Spn d (· ∈ (startU d).lines) (x.take n++lZ (d-n)):=by
   intro n
   induction n with
   | zero=>intro _; simp; exact .zero
   | succ n f =>
    intro hn;have b:(x.take n++lZ (d-n)).length=d:=by simp [lZ,hx]; omega
    have c:(unitV d n).length=d:=by simp [unitV,lZ]
    have e:x.take (n+1)++lZ (d-(n+1))=mix 1 (x.take n++lZ (d-n)) (at_ x n) (unitV d n):=aN (by rw [mix_length b c]; simp [lZ,hx]; omega) fun i=>by
     rw [ak (b.trans c.symm),oh zO];have g:∀ m,m<=d->at_ (x.take m++lZ (d-m)) i=if i<m then at_ x i else 0:=fun m hm=>by
      unfold at_;rw [qf,List.getElem?_append]
      have:(x.take m).length=m:=by simp [hx]; omega
      rw [this];by_cases hi:i<m
      ·rw [if_pos hi,if_pos hi,WW,if_pos hi,qf]
      ·rw [if_neg hi,if_neg hi];unfold lZ;rw [Xv];split <;> rfl
     rw [g (n+1) hn,g n zO];by_cases h1:i<n
     ·rw [if_pos zO,if_pos h1,if_neg zO]; grind
     ·by_cases h2:i=n
      ·subst h2; rw [if_pos zO,if_neg zO,if_pos rfl]; grind
      ·rw [if_neg zO,if_neg h1,if_neg h2]; grind
    rw [e];exact .line _ (f zO) (DT.2 ⟨n,XC.2 zO,rfl⟩)
  have a:=key d (Jv _);have e:x.take d++lZ (d-d)=x:=by rw [WS zO]; simp [lZ]
  rw [e] at a
 ·exact a
 ·exact a.mono (fun _ h=>h) (fun r h=>h.elim)
def IU {u:Under} {a:V} (h:DD d E (· ∈ u.done) (· ∈ u.lines) u.rays) (ha:a.length=d) (eq:Bool) :
  DD d (fun e=>E e\/(eq=true/\e=a)) (· ∈ (addU a eq u).done) (· ∈ (addU a eq u).lines) (addU a eq u).rays:=by
 unfold addU;split
 ·rename_i hn;refine SU h (fun x hx=>?_) eq
  have:=YU.1 hn x hx
  simpa using this
 ·rename_i i hi;obtain ⟨c,g,-⟩:=Xn.1 hi;have hl:u.lines.getD i []=u.lines[i]:=by simp [qf,c]
  rw [hl];have hm:u.lines[i]∈u.lines:=EL c;have hne:dot a u.lines[i]≠0:=by simpa using g
  have k:=h.lenL _ hm;have hs:∃ s:Int,(s=1\/s = -1)/\upV a u.lines[i]=scl s u.lines[i]:=by
   unfold upV;split
   ·exact ⟨-1,.inr rfl,rfl⟩
   ·exact ⟨1,.inl rfl,(uS _).symm⟩
  obtain ⟨s,m,b⟩:=hs;have l:0<dot a (upV a u.lines[i]):=by
   unfold upV;split
   ·rw [dot_scl]; omega
   ·omega
  refine QM h ha (fun x hx=>?_) (fun x hx=>W9 hx) (by rw [b]; exact ag k) (fun e he=>?_) (fun j hj=>?_) l eq
  ·obtain ⟨j,hj⟩:=Xe hx;by_cases f:j=i
   ·right
    subst f;rw [zh c] at hj;cases hj;refine ⟨s,?_⟩;rw [b];rcases m with rfl | rfl
    ·rw [uS,uS]
    ·exact aN (by simp [scl]) fun t=>by rw [aA,aA]; omega
   ·left
    exact Zo.2 ⟨j,f,hj⟩
  ·rw [b,dot_scl,h.lineE _ hm e he]; simp
  ·rw [b,dot_scl,h.lineI _ hm j hj]; simp
def DD.congr {E E' I a L L':V->Prop} {R:List V} (h:DD d E I L R) (e:∀ x,E x ↔ E' x) (f:∀ x,I x ↔ a x) (hL:∀ x,L x ↔ L' x):DD d E' a L' R:=by
 have b:E=E':=funext fun x=>propext (e x);have c:I=a:=funext fun x=>propext (f x);have e3:L=L':=funext fun x=>propext (hL x);subst b; subst c; subst e3; exact h
def zl:∀ (l:List V) (u:Under) (E:V->Prop),DD d E (· ∈ u.done) (· ∈ u.lines) u.rays->(∀ a∈l,a.length=d) ->
  DD d (fun e=>E e\/e∈l) (· ∈ (l.foldl (fun u a=>addU a true u) u).done) (· ∈ (l.foldl (fun u a=>addU a true u) u).lines) (l.foldl (fun u a=>addU a true u) u).rays/\(l.foldl (fun u a=>addU a true u) u).done=u.done
 | [],u,E,h,_=>⟨h.congr (fun x=>by simp) (fun x=>ZZ) (fun x=>ZZ),rfl⟩
 | a :: l,u,E,h,hl=>by
  obtain ⟨h1,h2⟩:=zl l (addU a true u) _ (IU h (hl a (WH ..)) true) fun b hb=>hl b (SO _ hb);simp only [Ym];refine ⟨h1.congr (fun x=>?_) (fun x=>ZZ) (fun x=>ZZ),h2.trans ?_⟩
  ·rw [WV]; simp only [true_and]; exact or_assoc
  ·unfold addU; split <;> simp
def xN:∀ (l:List V) (u:Under),DD d E (· ∈ u.done) (· ∈ u.lines) u.rays->(∀ a∈l,a.length=d) ->
  DD d E (· ∈ (l.foldl (fun u a=>addU a false u) u).done) (· ∈ (l.foldl (fun u a=>addU a false u) u).lines) (l.foldl (fun u a=>addU a false u) u).rays/\(l.foldl (fun u a=>addU a false u) u).done=u.done++l
 | [],u,h,_=>⟨h,by simp⟩
 | a :: l,u,h,hl=>by
  obtain ⟨h1,h2⟩:=xN l (addU a false u) ((IU h (hl a (WH ..)) false).congr (fun x=>by simp) (fun x=>ZZ) (fun x=>ZZ)) fun b hb=>hl b (SO _ hb);simp only [Ym];refine ⟨h1,h2.trans ?_⟩;unfold addU; split <;> simp
def gensU_dd {b c:List V} (h1:∀ a∈b,a.length=d) (h2:∀ a∈c,a.length=d):DD d (· ∈ b) (· ∈ c) (· ∈ (gensU d b c).lines) (gensU d b c).rays:=by
 obtain ⟨e,f⟩:=zl b (startU d) _ oX h1;obtain ⟨g,h⟩:=xN c _ e h2;refine g.congr (fun x=>by simp) (fun x=>?_) (fun x=>ZZ);rw [h,f];simp [startU]
def DD.rep {I L L':V->Prop} {R:List V} (h:DD d E I L R) (o:∀ x,L' x->x.length=d) (hs:∀ x,Spn d L x ↔ Spn d L' x) (f:V->V) (p:∀ r∈R,(f r).length=d/\∃ m k:Int,0<m/\0<k/\Spn d L (mix m (f r) (-k) r)):DD d E I L' (R.map f):=by
 have w:∀ r∈R,∃ m k:Int,0<m/\0<k/\∀ b,(∀ l,L l->dot b l=0)->m*dot b (f r)=k*dot b r:=fun r hr=>by
  obtain ⟨hl,m,k,hm,g,q⟩:=p r hr;refine ⟨m,k,hm,g,fun b hb=>?_⟩
  have:=Con.dot_zero (a:=b) h.lenL (fun r h=>h.elim) hb (fun r h=>h.elim) q
  rw [aW _ _ _ (hl.trans (h.lenR r hr).symm),Int.neg_mul] at this;omega
 have u:∀ r∈R,∀ b,(∀ l,L l->dot b l=0)->(dot b (f r)=0 ↔ dot b r=0):=fun r hr b hb=>by
  obtain ⟨m,k,hm,g,e⟩:=w r hr;have e:=e b hb;constructor
  ·intro h0;rw [h0] at e;rcases W2.1 (show k*dot b r=0 by omega) with h1 | h1
   ·omega
   ·exact h1
  ·intro h0;rw [h0] at e;rcases W2.1 (show m*dot b (f r)=0 by omega) with h1 | h1
   ·omega
   ·exact h1
 have j:∀ i,I i->∀ l,L l->dot i l=0:=fun i hi l hl=>h.lineI l hl i hi;have z:∀ e,E e->∀ l,L l->dot e l=0:=fun e he l hl=>h.lineE l hl e he;have A:∀ b,(∀ l,L l->dot b l=0)->∀ x,L' x->dot b x=0:=fun b hb x hx =>
  Con.dot_zero (a:=b) h.lenL (fun r h=>h.elim) hb (fun r h=>h.elim) ((hs x).2 (dK (o x hx) hx))
 have v:∀ x,x∈R.map f->x.length=d:=fun x hx=>by
  obtain ⟨r,hr,rfl⟩:=DT.1 hx;exact (p r hr).1
 refine ⟨o,fun l hl e he=>A e (z e he) l hl,fun l hl i hi=>A i (j i hi) l hl,fun x hx B C=>(hs x).1 (h.lines x hx B C),?_,?_,?_,?_,?_⟩
 ·intro x hx;obtain ⟨r,hr,rfl⟩:=DT.1 hx;refine ⟨(p r hr).1,fun e he=>(u r hr e (z e he)).2 ((h.keep r hr).eq e he),fun i hi=>?_⟩;obtain ⟨m,k,hm,g,e⟩:=w r hr;have e:=e i (j i hi)
  have:=Xi (YA g) ((h.keep r hr).ge i hi)
  rw [<- e] at this;exact YB this hm
 ·intro x hx;refine Con.trans o v (fun l hl c=>((hs _).1 (Spn.smul h.lenL (dK (h.lenL l hl) hl) c)).mono (fun _ h=>h) (fun r h=>h.elim)) (fun r hr=>?_) h.lenL h.lenR (h.all x hx);obtain ⟨hl,m,k,hm,g,q⟩:=p r hr;refine .div k g (h.lenR r hr) ?_;have e:scl k r=mix 1 (scl m (f r)) 1 (scl (-1) (mix m (f r) (-k) r)):=aN (by rw [ag (h.lenR r hr),mix_length (ag hl) (ag (mix_length hl (h.lenR r hr)))]) fun i=>by
   rw [aA,ak ((ag hl).trans (ag (mix_length hl (h.lenR r hr))).symm),aA,aA,ak (hl.trans (h.lenR r hr).symm)]; grind
  rw [e];have t1:Con d L' (· ∈ R.map f) (scl m (f r)):=(Con.of_ray hl (Yt hr)).smul o v m zO;have K:Con d L' (· ∈ R.map f) (scl (-1) (mix m (f r) (-k) r)):=((hs _).1 (Spn.smul h.lenL q (-1))).mono (fun _ h=>h) (fun r h=>h.elim);exact K.add o v _ t1
 ·intro x hx;obtain ⟨r,hr,rfl⟩:=DT.1 hx;obtain ⟨i,hi,hn⟩:=h.off r hr;exact ⟨i,hi,fun e=>hn ((u r hr i (j i hi)).1 e)⟩
 ·intro x hx y hy H;obtain ⟨r,hr,rfl⟩:=DT.1 hx;obtain ⟨k1,n,F,D,J⟩:=h.ext r hr y hy fun i hi e=>H i hi ((u r hr i (j i hi)).2 e);obtain ⟨hl,m,k,hm,g,q⟩:=p r hr;refine ⟨k*k1,n*m,Yh g F,Xi D zO,(hs _).1 ?_⟩;have t:=Spn.sum2 h.lenL J q k (-n);have e:mix k (mix k1 y (-n) r) (-n) (mix m (f r) (-k) r)=mix (k*k1) y (-(n*m)) (f r):=aN (by rw [mix_length (mix_length hy.len (h.lenR r hr)) (mix_length hl (h.lenR r hr)),mix_length hy.len hl]) fun i=>by
   rw [ak ((mix_length hy.len (h.lenR r hr)).trans (mix_length hl (h.lenR r hr)).symm),ak (hy.len.trans (h.lenR r hr).symm),ak (hl.trans (h.lenR r hr).symm),ak (hy.len.trans hl.symm)]; grind
  rw [e] at t; exact t
 ·refine Xu.2 (h.apart.imp_of_mem fun {r s} hr G hne h2=>hne fun i hi=>?_)
  have:=h2 i hi
  rw [u r hr i (j i hi),u s G i (j i hi)] at this;exact this
def DD.perm {I L:V->Prop} {R R':List V} (h:DD d E I L R) (hp:R.Perm R'):DD d E I L R':=by
 have hm:∀ x,x∈R' ↔ x∈R:=fun x=>hp.mem_iff.symm;refine ⟨h.lenL,h.lineE,h.lineI,h.lines,fun r hr=>h.keep r ((hm r).1 hr),fun x hx=>(h.all x hx).mono (fun _ h=>h) (fun r hr=>(hm r).2 hr),fun r hr=>h.off r ((hm r).1 hr),fun r hr=>h.ext r ((hm r).1 hr),?_⟩;exact (hp.pairwise_iff (fun {r s} hne h2=>hne fun i hi=>(h2 i hi).symm)).1 h.apart
def cmpV_refl:∀ x:V,cmpV x x=true
 | []=>rfl
 | a :: x=>by simp [cmpV,cmpV_refl x]
def cmpV_trans:∀ a b c:V,cmpV a b=true->cmpV b c=true->cmpV a c=true
 | [],_,_,_,_=>rfl
 | _ :: _,[],_,h,_=>by simp [cmpV] at h
 | _ :: _,_ :: _,[],_,h=>by simp [cmpV] at h
 | a :: x,b :: y,c :: z,h1,h2=>by
  have d:=cmpV_trans x y z;simp only [cmpV] at h1 h2 ⊢;split at h1
  ·split at h2
   ·rw [if_pos zO]
   ·split at h2
    ·rw [if_pos zO]
    ·cases h2
  ·split at h1
   ·split at h2
    ·rw [if_pos zO]
    ·split at h2
     ·rw [if_neg zO,if_pos zO]; exact d h1 h2
     ·cases h2
   ·cases h1
def cmpV_total:∀ a b:V,(cmpV a b || cmpV b a)=true
 | [],_=>by simp [cmpV]
 | _ :: _,[]=>by simp [cmpV]
 | a :: x,b :: y=>by
  have c:=cmpV_total x y;simp only [cmpV];by_cases h1:a<b
  ·simp [h1]
  ·by_cases h2:a=b
   ·subst h2; simpa using c
   ·have:b<a:=zO
    simp [this]
def cmpV_antisymm:∀ a b:V,cmpV a b=true->cmpV b a=true->a=b
 | [],[],_,_=>rfl
 | [],_ :: _,_,h=>by simp [cmpV] at h
 | _ :: _,[],h,_=>by simp [cmpV] at h
 | a :: x,b :: y,h1,h2=>by
  have c:=cmpV_antisymm x y;simp only [cmpV] at h1 h2;split at h1
  ·split at h2
   ·omega
   ·split at h2
    ·omega
    ·cases h2
  ·split at h1
   ·split at h2
    ·omega
    ·split at h2
     ·rename_i e _ _; rw [e,c h1 h2]
     ·cases h2
   ·cases h1
structure yV (d:Nat) (E I:V->Prop) (L R:List V):Prop where
 dd:DD d E I (· ∈ L) R
 form:Ech d L
 rest:∀ r∈R,∀ l∈L,at_ r (pv l)=0
 cont:∀ r∈R,content r=1
 sorted:R.Pairwise fun r s=>cmpV r s=true
def gens_told {b c:List V} (h1:∀ a∈b,a.length=d) (h2:∀ a∈c,a.length=d):yV d (· ∈ b) (· ∈ c) (gensL d b c) (gensR d b c):=by
 have h:=gensU_dd h1 h2;obtain ⟨f1,f⟩:=form_ech (d:=d) (l:=(gensU d b c).lines) h.lenL;have hr:∀ r∈(gensU d b c).rays,(restF (gensL d b c) r).length=d/\(∀ l∈gensL d b c,at_ (restF (gensL d b c) r) (pv l)=0)/\(∃ m k:Int,0<m/\0<k/\Spn d (· ∈ gensL d b c) (mix m (restF (gensL d b c) r) (-k) r))/\(content (restF (gensL d b c) r)=1\/∀ i,at_ (restF (gensL d b c) r) i=0):=fun r hr=>FB f1 (h.lenR r hr);have hd:DD d (· ∈ b) (· ∈ c) (· ∈ gensL d b c) ((gensU d b c).rays.map (restF (gensL d b c))):=h.rep f1.len (fun x=>(f x).symm) _ fun r e=>by
  obtain ⟨g,p,⟨m,k,hm,n,j⟩,q⟩:=hr r e;exact ⟨g,m,k,hm,n,(f _).1 j⟩
 have hp:((gensU d b c).rays.map (restF (gensL d b c))).Perm (gensR d b c):=(List.mergeSort_perm _ _).symm;refine ⟨hd.perm hp,f1,fun r e l hl=>?_,fun r e=>?_,List.pairwise_mergeSort cmpV_trans cmpV_total _⟩
 ·obtain ⟨s,hs,rfl⟩:=DT.1 (hp.mem_iff.2 e);exact (hr s hs).2.1 l hl
 ·have hm:=hp.mem_iff.2 e;obtain ⟨s,hs,rfl⟩:=DT.1 hm;refine (hr s hs).2.2.2.resolve_right fun o=>?_;obtain ⟨i,hi,hn⟩:=hd.off _ hm;refine hn ?_;rw [(IB (hr s hs).1).2 o,lc]
def OZ {L R:V->Prop} (hL:∀ x,L x->x.length=d) (a:∀ x,R x->x.length=d) {x:V} (h:Con d L R x):Spn d L x\/∃ r,R r/\∃ k c:Int,0<k/\0<c/\∃ y,Con d L R y/\scl k x=mix c r 1 y:=by
 induction h with
 | zero=>exact .inl .zero
 | @line x l c hx hl b =>
  have h1:=hx.length hL a;have h2:=hL l hl;rcases b with b | ⟨r,hr,k,f,m,g,y,hy,e⟩
  ·exact .inl (.line c b hl)
  ·refine .inr ⟨r,hr,k,f,m,g,_,.line (k*c) hy hl,aN (by rw [ag (mix_length h1 h2),mix_length (a r hr) (mix_length (hy.length hL a) h2)]) fun i=>?_⟩;have e3:k*at_ x i=f*at_ r i+1*at_ y i:=by rw [<- aA,e,ak ((a r hr).trans (hy.length hL a).symm)]
   rw [aA,ak (h1.trans h2.symm),ak ((a r hr).trans (mix_length (hy.length hL a) h2).symm),ak ((hy.length hL a).trans h2.symm)]; grind
 | @ray x l c hc hx hl b =>
  have h1:=hx.length hL a;have h2:=a l hl;by_cases n:c=0
  ·subst n;have e:mix 1 x 0 l=x:=aN (by rw [mix_length h1 h2,h1]) fun i=>by rw [ak (h1.trans h2.symm)]; grind
   rw [e]; exact b
  ·exact .inr ⟨l,hl,1,c,zO,zO,x,hx,aN (by rw [ag (mix_length h1 h2),mix_length h2 h1]) fun i=>by rw [aA,ak (h1.trans h2.symm),ak (h2.trans h1.symm)]; grind⟩
 | @div x j hj hl hx b =>
  rcases b with b | ⟨r,hr,k,f,m,g,y,hy,e⟩
  ·exact .inl (.div j hj hl b)
  ·refine .inr ⟨r,hr,k*j,f,Yh m hj,g,y,hy,?_⟩;rw [<- e];exact aN (by simp [scl]) fun i=>by rw [aA,aA,aA]; grind
def Fg {E' I o:V->Prop} {L R L' R':List V} (h:yV d E I L R) (h':yV d E' o L' R') (hs:∀ x,Keep d E I x ↔ Keep d E' o x) (hL:L=L'):∀ r∈R,r∈R':=by
 intro r hr;subst hL;have g:=h.dd.keep r hr;have z:∀ x,Keep d E I x->Spn d (· ∈ L) x->∀ i,I i->dot i x=0:=fun x _ hx i hi=>Con.dot_zero (a:=i) h.dd.lenL (fun r h=>h.elim) (fun l hl=>h.dd.lineI l hl i hi) (fun r h=>h.elim) hx;rcases OZ h'.dd.lenL h'.dd.lenR (h'.dd.all r ((hs r).1 g)) with j | ⟨b,f,k,c,H,u,y,hy,e⟩
 ·exfalso
  obtain ⟨i,hi,hn⟩:=h.dd.off r hr;exact hn (z r g j i hi)
 ·have m:=h'.dd.lenR b f;have q:Keep d E I y:=(hs y).2 (h'.dd.con_keep hy);have p:Keep d E I b:=(hs b).2 (h'.dd.keep b f);obtain ⟨k1,s,w,F,j⟩:=h.dd.ext r hr b p fun i hi B=>by
   have t:k*dot i r=c*dot i b+1*dot i y:=by rw [<- dot_scl,e,aW _ _ _ (m.trans q.len.symm)]
   rw [B] at t;have C:=Xi (YA u) (p.ge i hi);have D:=q.ge i hi;rcases W2.1 (show c*dot i b=0 by omega) with h1 | h1
   ·omega
   ·exact h1
  have G:s≠0:=fun e0=>by
   subst e0;obtain ⟨n,v,A⟩:=h'.dd.off b f
   have:=Con.dot_zero (a:=n) h'.dd.lenL (fun r h=>h.elim) (fun l hl=>h'.dd.lineI l hl n v) (fun r h=>h.elim) j
   rw [aW _ _ _ (m.trans g.len.symm)] at this;rcases W2.1 (show k1*dot n b=0 by omega) with h1 | h1
   ·omega
   ·exact A h1
  have:b=r:=xW h.form m g.len (fun l hl=>h'.rest b f l hl) (fun l hl=>h.rest r hr l hl) (h'.cont b f) (h.cont r hr) w zO j
  rw [<- this]; exact f
def qQ {E' I g:V->Prop} {L R L' R':List V} (h:yV d E I L R) (h':yV d E' g L' R') (hs:∀ x,Keep d E I x ↔ Keep d E' g x):L=L'/\R=R':=by
 have f:∀ {E I:V->Prop} {L R:List V},yV d E I L R->∀ x,x.length=d->(Spn d (· ∈ L) x ↔ Keep d E I x/\Keep d E I (scl (-1) x)):=by
  intro E I L R h x hx;constructor
  ·intro m;have j:∀ e,E e->dot e x=0:=fun e he=>Con.dot_zero (a:=e) h.dd.lenL (fun r h=>h.elim) (fun l hl=>h.dd.lineE l hl e he) (fun r h=>h.elim) m;have k:∀ e,I e->dot e x=0:=fun e he=>Con.dot_zero (a:=e) h.dd.lenL (fun r h=>h.elim) (fun l hl=>h.dd.lineI l hl e he) (fun r h=>h.elim) m;exact ⟨⟨hx,j,fun i hi=>by rw [k i hi]; omega⟩,⟨ag hx,fun e he=>by rw [dot_scl,j e he]; simp,fun i hi=>by rw [dot_scl,k i hi]; simp⟩⟩
  ·rintro ⟨h1,h2⟩;refine h.dd.lines x hx h1.eq fun i hi=>?_;have p:=h1.ge i hi;have o:=h2.ge i hi;rw [dot_scl] at o;omega
 have hL:L=L':=h.form.unique h'.form fun x=>by
  constructor
  ·intro hx;have c:=hx.length h.dd.lenL (fun r h=>h.elim);rw [f h x c] at hx;rw [f h' x c,<- hs,<- hs]; exact hx
  ·intro hx;have c:=hx.length h'.dd.lenL (fun r h=>h.elim);rw [f h' x c] at hx;rw [f h x c,hs,hs]; exact hx
 refine ⟨hL,?_⟩;have s1:=Fg h h' hs hL;have s2:=Fg h' h (fun x=>(hs x).symm) hL.symm;have n:∀ {E I:V->Prop} {L R:List V},yV d E I L R->R.Nodup:=fun h=>h.dd.apart.imp fun hne e=>hne fun i hi=>by rw [e]
 refine ZM (le:=fun a b=>cmpV a b=true) (fun a b _ _ h1 h2=>cmpV_antisymm a b h1 h2) h.sorted h'.sorted ((List.perm_ext_iff_of_nodup (n h) (n h')).2 fun x=>⟨s1 x,s2 x⟩)
end
def Bd (M:Nat) (x:V):Prop:=∀ i,(at_ x i).natAbs<=M
def Bd.mono {M N:Nat} (h:M<=N) {x:V} (hx:Bd M x):Bd N x:=fun i=>WK (hx i) h
def OJ {M N:Nat}:∀ {x y:V},(∀ a∈x,a.natAbs<=M)->(∀ b∈y,b.natAbs<=N)->(dot x y).natAbs<=x.length*(M*N)
 | [],y,_,_=>by cases y <;> simp [dot]
 | a :: x,[],_,_=>by simp [dot]
 | a :: x,b :: y,h1,h2=>by
  have d:=OJ (x:=x) (y:=y) (fun c hc=>h1 c (SO _ hc)) (fun c hc=>h2 c (SO _ hc));have ha:=h1 a (WH ..);have hb:=h2 b (WH ..);simp only [dot,W5];have g:=ZY (a*b) (dot x y);rw [ZX] at g
  have:=X3 ha hb
  rw [XI,Zp];omega
def Bd.mem {M:Nat} {x:V} (h:Bd M x):∀ a∈x,a.natAbs<=M:=fun a ha=>by
 obtain ⟨i,rfl⟩:=Ig ha;exact h i
def O8 {d M N:Nat} {x y:V} (hx:x.length=d) (h1:Bd M x) (h2:Bd N y):(dot x y).natAbs<=d*(M*N):=by
 have:=OJ h1.mem h2.mem
 rw [hx] at this; exact this
def TZ {d M b:Nat} {a u x:V} (ha:a.length=d) (g:u.length=d) (hx:x.length=d) (h1:Bd M a) (h2:Bd b u) (h3:Bd b x):Bd (2*d*M*b*b) (mv a u x):=by
 intro i;unfold mv;rw [ak (hx.trans g.symm)];have c:=O8 ha h1 h2;have f:=O8 ha h1 h3;have t:=ZY (dot a u*at_ x i) (-(dot a x)*at_ u i);rw [ZX,ZX,Zz] at t;have p1:=X3 c (h3 i);have p2:=X3 f (h2 i);have e:2*d*M*b*b=d*(M*b)*b+d*(M*b)*b:=by grind
 rw [e]; omega
def pp:List V->List V->List V
 | [],Ls=>Ls
 | a :: S,Ls=>match Ls.findIdx? fun l=>!decide (dot a l=0) with
  | none=>pp S Ls
  | some i=>pp S ((Ls.eraseIdx i).map (mv a (Ls.getD i [])))
def Et {d M:Nat} (g:1<=2*d*M):∀ (S Ls:List V) (n b:Nat),Ls.length<=n->1<=b->(∀ a∈S,a.length=d/\Bd M a)->(∀ l∈Ls,l.length=d/\Bd b l)->∀ w∈pp S Ls,w.length=d/\Bd ((2*d*M*b)^2^n) w
 | [],Ls,n,b,hn,hb,h,hL,w,f=>by
  refine ⟨(hL w f).1,(hL w f).2.mono ?_⟩;have h1:b<=2*d*M*b:=by have:=WJ b g; omega
  have h2:(2*d*M*b)^1<=(2*d*M*b)^2^n:=W8 zO (Nat.one_le_two_pow);rw [Nat.pow_one] at h2;omega
 | a :: S,Ls,n,b,hn,hb,h,hL,w,f=>by
  unfold pp at f;split at f
  ·exact Et g S Ls n b hn hb (fun c hc=>h c (SO _ hc)) hL w f
  ·rename_i i hi;obtain ⟨j,q,-⟩:=Xn.1 hi;have hl:Ls.getD i []=Ls[i]:=by simp [qf,j]
   rw [hl] at f;have hm:=hL _ (EL j);have ha:=h a (WH ..);obtain ⟨n',rfl⟩:∃ n',n=n'+1:=⟨n-1,zO⟩
   have p:1<=2*d*M*b*b:=by
    have m:=X3 g hb;have o:=X3 m hb
    simpa using o
   have:=Et g S _ n' (2*d*M*b*b) (by rw [Nj,ZE j]; omega) p (fun c hc=>h c (SO _ hc)) (fun l hl=>by
    obtain ⟨x,hx,rfl⟩:=DT.1 hl;have k:=hL x (W9 hx);exact ⟨bC hm.1 k.1,TZ ha.1 hm.1 k.1 ha.2 hm.2 k.2⟩) w f
   refine ⟨this.1,this.2.mono (Za ?_)⟩;have e:2*d*M*(2*d*M*b*b)=(2*d*M*b)^2:=by rw [Nat.pow_two]; grind
   rw [e,<- ZC,Xc 2 n',WR 2 (2^n')]
def sQ:∀ {d:Nat} (S Ls:List V),(∀ l∈Ls,l.length=d)->∀ (b:V),(∀ l∈Ls,dot b l=0)->∀ w∈pp S Ls,dot b w=0
 | d,[],Ls,hL,b,hb,w,c=>hb w c
 | d,a :: S,Ls,hL,b,hb,w,c=>by
  unfold pp at c;split at c
  ·exact sQ S Ls hL b hb w c
  ·rename_i i hi;obtain ⟨e,f,-⟩:=Xn.1 hi;have hl:Ls.getD i []=Ls[i]:=by simp [qf,e]
   rw [hl] at c;have hm:=EL e;refine sQ (d:=d) S _ (fun l hl=>?_) b (fun l hl=>?_) w c
   ·obtain ⟨x,hx,rfl⟩:=DT.1 hl;exact bC (hL _ hm) (hL x (W9 hx))
   ·obtain ⟨x,hx,rfl⟩:=DT.1 hl;rw [xl (hL _ hm) (hL x (W9 hx)),hb _ hm,hb x (W9 hx)]; simp
def rG:∀ {d:Nat} (S Ls:List V),(∀ l∈Ls,l.length=d)->∀ s∈S,∀ w∈pp S Ls,dot s w=0
 | d,[],Ls,hL,s,hs,w,b=>by cases hs
 | d,a :: S,Ls,hL,s,hs,w,b=>by
  unfold pp at b;split at b
  ·rename_i hn;rcases WV.1 hs with rfl | hs
   ·exact sQ (d:=d) S Ls hL s (fun l hl=>by have:=YU.1 hn l hl; simpa using this) w b
   ·exact rG S Ls hL s hs w b
  ·rename_i i hi;obtain ⟨e,f,-⟩:=Xn.1 hi;have hl:Ls.getD i []=Ls[i]:=by simp [qf,e]
   rw [hl] at b;have hm:=EL e;have c:∀ l∈(Ls.eraseIdx i).map (mv a Ls[i]),l.length=d:=fun l hl=>by
    obtain ⟨x,hx,rfl⟩:=DT.1 hl;exact bC (hL _ hm) (hL x (W9 hx))
   rcases WV.1 hs with rfl | hs
   ·refine sQ (d:=d) S _ c s (fun l hl=>?_) w b;obtain ⟨x,hx,rfl⟩:=DT.1 hl;rw [xl (hL _ hm) (hL x (W9 hx))]; grind
   ·exact rG S _ c s hs w b
def AT:∀ {d:Nat} (S Ls:List V),(∀ l∈Ls,l.length=d)->∀ x,x.length=d->Spn d (· ∈ Ls) x->(∀ s∈S,dot s x=0)->Spn d (· ∈ pp S Ls) x
 | d,[],Ls,hL,x,hx,hs,_=>hs
 | d,a :: S,Ls,hL,x,hx,hs,k=>by
  unfold pp;split
  ·exact AT S Ls hL x hx hs fun s hs=>k s (SO _ hs)
  ·rename_i i hi;obtain ⟨g,n,-⟩:=Xn.1 hi;have hl:Ls.getD i []=Ls[i]:=by simp [qf,g]
   rw [hl];have hm:=EL g;have b:=hL _ hm;have hne:dot a Ls[i]≠0:=by simpa using n
   have f:∀ l,l∈(Ls.eraseIdx i).map (mv a Ls[i])->l.length=d:=fun l hl=>by
    obtain ⟨x,hx,rfl⟩:=DT.1 hl;exact bC (hL _ hm) (hL x (W9 hx))
   refine AT S _ f x hx ?_ fun s hs=>k s (SO _ hs);have t:Spn d (· ∈ (Ls.eraseIdx i).map (mv a Ls[i])) (mv a Ls[i] x):=Con.image (fun l hl=>hL l hl) (fun r h=>h.elim) f (fun r h=>h.elim) (mv a Ls[i]) (HZ b) (fun x y c hx hy=>Ia b hx hy) (fun x c hx=>DX b hx) (fun x hx=>bC b hx) (fun y hy c=>by
    obtain ⟨j,hj⟩:=Xe hy;by_cases m:j=i
    ·subst m;rw [zh g] at hj;cases hj;have e:scl c (mv a Ls[j] Ls[j])=lZ d:=by
      rw [Ju b];exact aN (by simp [scl,lZ]) fun t=>by rw [aA,iR]; simp
     rw [e]; exact .zero
    ·exact Con.of_line (bC b (hL y hy)) (Yt (Zo.2 ⟨j,m,hj⟩)) c) (fun r h=>h.elim) hs
   rw [xm b hx (k a (WH ..))] at t;exact pG f hx hne t
def JH {d M:Nat} (hd:0<d) (A:0<M) {S:List V} (C:∀ a∈S,a.length=d/\Bd M a) {v:V} (y:v.length=d) (hc:content v=1) (L:∀ s∈S,dot s v=0)
  (H:∀ x,x.length=d->(∀ s∈S,dot s x=0)->∃ m n:Int,m≠0/\scl m x=scl n v):Bd ((2*d*M)^2^d) v:=by
 have u:∀ l∈(startU d).lines,l.length=d:=fun l hl=>(oX (d:=d)).lenL l hl;have J:=AT S (startU d).lines u v y ((oX (d:=d)).lines v y (fun e h=>h.elim) (fun i h=>by cases h)) L;have E:∀ l∈(startU d).lines,l.length=d/\Bd 1 l:=fun l hl=>by
  refine ⟨u l hl,fun i=>?_⟩;obtain ⟨j,hj,rfl⟩:=DT.1 hl;rw [oh (XC.1 hj)];split <;> simp
 have B:1<=2*d*M:=by have:=X3 (show 1<=2*d by omega) A; simpa using this
 have f:=Et B S (startU d).lines d 1 (by simp [startU]) zO C E;rw [XP] at f;have ⟨w,o,j,hj⟩:∃ w∈pp S (startU d).lines,∃ j,at_ w j≠0:=by
  apply W0
  intro G;have D:∀ w∈pp S (startU d).lines,∀ j,at_ w j=0:=fun w o j=>Z0.1 fun e=>G ⟨w,o,j,e⟩;have K:∀ i,at_ v i=0:=by
   have key:∀ {x:V},Spn d (· ∈ pp S (startU d).lines) x->∀ i,at_ x i=0:=by
    intro x hx
    induction hx with
    | zero=>intro i; exact iR
    | @line x l c hx hl p =>
     intro i;rw [ak ((hx.length (fun l hl=>(f l hl).1) (fun r h=>h.elim)).trans (f l hl).1.symm),p i,D l hl i]; simp
    | ray c hc hx hr p=>exact hr.elim
    | @div x k N hl hx p =>
     intro i
     have:=p i
     rw [aA] at this;rcases W2.1 this with h | h
     ·omega
     ·exact h
   exact key J
  have:=content_eq_zero.2 (zero_iff.2 K)
  omega
 obtain ⟨m,n,hm,e⟩:=H w (f w o).1 fun s hs=>rG S _ u s hs w o;have F:n≠0:=fun h0=>by
  have:=congrArg (fun z=>at_ z j) e
  simp only [aA,h0,Int.zero_mul] at this;rcases W2.1 this with h | h
  ·exact hm h
  ·exact hj h
 intro i;have h1:(m.natAbs:Int) ∣ n:=by
  have h2:∀ a∈v,(m.natAbs:Int) ∣ n*a:=fun a ha=>by
   obtain ⟨t,rfl⟩:=Ig ha
   have:=congrArg (fun z=>at_ z t) e
   simp only [aA] at this;rw [<- this];exact Int.natAbs_dvd.2 (Int.dvd_mul_right m _)
  have h3:(m.natAbs:Int) ∣ (content (scl n.natAbs v):Int):=lC fun a ha=>by
   obtain ⟨b,hb,rfl⟩:=DT.1 ha;rcases Int.natAbs_eq n with hn | hn
   ·rw [<- hn]; exact h2 b hb
   ·have:=h2 b hb
    rw [hn,Int.neg_mul] at this;exact Int.dvd_neg.1 this
  rw [nT zO,hc] at h3
  have:=Zw.2 h3
  simp only [YW,Int.mul_one,Int.natCast_one] at this;exact ZO.2 this
 obtain ⟨q,hq⟩:=h1;have I:(at_ w i).natAbs=q.natAbs*(at_ v i).natAbs:=by
  have:=congrArg (fun z=>(at_ z i).natAbs) e
  simp only [aA,ZX,hq] at this;simp only [YW] at this;rw [Xj] at this;exact Nat.eq_of_mul_eq_mul_left zO this
 have hq0:1<=q.natAbs:=by
  have:q≠0:=fun h0=>F (by rw [hq,h0]; simp)
  omega
 have:=(f w o).2 i
 rw [I] at this;have g:=WJ (at_ v i).natAbs hq0;omega
structure Ry (d:Nat) (ps:List (Nat × V)) (u:Under):Prop where
 lines:ps.map (·.2)=u.lines
 lt:∀ q∈ps,q.1<d
 diag:∀ q∈ps,at_ q.2 q.1≠0
 apart:ps.Pairwise fun q q'=>at_ q.2 q'.1=0/\at_ q'.2 q.1=0
 rays:∀ r∈u.rays,∀ q∈ps,at_ r q.1=0
 contL:∀ l∈u.lines,content l=1
 contR:∀ r∈u.rays,content r=1
section
variable {d:Nat} {ps:List (Nat × V)}
def CD {α β:Type} (f:α->β) (l:List α) (i:Nat):(l.map f).eraseIdx i=(l.eraseIdx i).map f:=by
 simp [Yj,List.map_take,List.map_drop]
def zL:∀ (l:List (Nat × V)),(l.map fun _=>(0:Int)).sum=0
 | []=>rfl
 | _ :: l=>by simp [zL l]
def LW (B:∀ q∈ps,q.2.length=d) (y:∀ q∈ps,at_ q.2 q.1≠0) (m:ps.Pairwise fun q q'=>at_ q.2 q'.1=0/\at_ q'.2 q.1=0) {x:V} (hx:Spn d (· ∈ ps.map (·.2)) x) (K:∀ q∈ps,at_ x q.1=0):∀ i,at_ x i=0:=by
 have C:ps.Nodup:=m.imp_of_mem fun {q q'} hq D h e=>by
  subst e; exact y q hq h.1
 have I:∀ q∈ps,∀ q'∈ps,q≠q'->at_ q.2 q'.1=0:=fun q hq q' D hne=>by
  obtain ⟨i,hi⟩:=Xe hq;obtain ⟨j,hj⟩:=Xe D;obtain ⟨z,rfl⟩:=WI.1 hi;obtain ⟨A,rfl⟩:=WI.1 hj;rcases Y1 i j with hlt | heq | hlt
  ·exact (Xk.1 m i j z A hlt).1
  ·subst heq; exact absurd rfl hne
  ·exact (Xk.1 m j i A z hlt).2
 have F:∀ l,l∈ps.map (·.2)->l.length=d:=fun l hl=>by
  obtain ⟨q,hq,rfl⟩:=DT.1 hl;exact B q hq
 have key:∀ {x:V},Spn d (· ∈ ps.map (·.2)) x->∃ k:Int,0<k/\∃ c:Nat × V->Int,(∀ i,k*at_ x i=(ps.map fun q=>c q*at_ q.2 i).sum):=by
  intro x hx
  induction hx with
  | zero=>exact ⟨1,zO,fun _=>0,fun i=>by rw [iR]; simp only [Int.zero_mul,ZI]; exact (zL ps).symm⟩
  | @line x l n hx hl f =>
   obtain ⟨k,b,c,hc⟩:=f;obtain ⟨q0,hq0,rfl⟩:=DT.1 hl;refine ⟨k,b,fun r=>c r+(if r=q0 then k*n else 0),fun i=>?_⟩;rw [ak ((hx.length F (fun r h=>h.elim)).trans (B q0 hq0).symm)];have e:∀ (G:List (Nat × V)),G.Nodup->(G.map fun r=>(c r+(if r=q0 then k*n else 0))*at_ r.2 i).sum=(G.map fun r=>c r*at_ r.2 i).sum+(if q0∈G then k*n*at_ q0.2 i else 0):=by
    intro G
    induction G with
    | nil=>intro _; simp
    | cons g G v =>
     intro hg;obtain ⟨o,p⟩:=Y3.1 hg;simp only [SA,Zv,v p];by_cases t:g=q0
     ·subst t;simp only [if_pos rfl,WV,true_or,if_true,o,if_false]
      grind
     ·have:¬ q0=g:=fun e=>t e.symm
      simp only [if_neg t,WV,this,false_or]
      grind
   rw [e ps C,if_pos hq0,<- hc i]
   grind
  | ray c hc hx hr f=>exact hr.elim
  | @div x j hj hl hx f =>
   obtain ⟨k,b,c,hc⟩:=f;exact ⟨k*j,Yh b hj,c,fun i=>by rw [<- hc i,aA]; grind⟩
 obtain ⟨k,b,c,hc⟩:=key hx;have H:∀ q∈ps,c q=0:=fun q hq=>by
  have a:=hc q.1;rw [K q hq] at a;have E:∀ (G:List (Nat × V)),(∀ g∈G,g∈ps)->G.Nodup->(G.map fun s=>c s*at_ s.2 q.1).sum=if q∈G then c q*at_ q.2 q.1 else 0:=by
   intro G
   induction G with
   | nil=>intro _ _; simp
   | cons g G v =>
    intro w hg;obtain ⟨o,p⟩:=Y3.1 hg;simp only [SA,Zv,v (fun x hx=>w x (SO _ hx)) p];by_cases u:g=q
    ·subst u;simp [o]
    ·have J:¬ q=g:=fun e=>u e.symm;rw [I g (w g (WH ..)) q hq u];simp [J]
  rw [E ps (fun g hg=>hg) C,if_pos hq] at a;rcases W2.1 (show c q*at_ q.2 q.1=0 by omega) with h1 | h1
  ·exact h1
  ·exact absurd h1 (y q hq)
 intro i;have a:=hc i
 have:(ps.map fun q=>c q*at_ q.2 i)=ps.map fun _=>(0:Int):=X0 fun q hq=>by rw [H q hq]; simp
 rw [this,zL] at a;rcases W2.1 a with h1 | h1
 ·omega
 ·exact h1
def ED {i:Nat} (hi:i<d):content (unitV d i)=1:=by
 have h1:(content (unitV d i):Int) ∣ 1:=by
  have:=Pa (x:=unitV d i) (i:=i) (by rw [oh hi]; simp)
  rw [oh hi,if_pos rfl] at this;exact content_dvd this
 have:=Zw.2 h1
 simpa using this
def LY (d:Nat):Ry d ((List.range d).map fun i=>(i,unitV d i)) (startU d):=by
 refine ⟨by simp [startU,Yw,Function.comp_def],fun q hq=>?_,fun q hq=>?_,?_,fun r hr=>(by cases hr),fun l hl=>?_,fun r hr=>(by cases hr)⟩
 ·obtain ⟨i,hi,rfl⟩:=DT.1 hq;exact XC.1 hi
 ·obtain ⟨i,hi,rfl⟩:=DT.1 hq;rw [oh (XC.1 hi)]; simp
 ·refine Xu.2 (YX (fun {i j} hi hj hlt=>?_) ZU);have hi:=XC.1 hi;have hj:=XC.1 hj;simp only;rw [oh hi,oh hj,if_neg zO,if_neg zO];exact ⟨rfl,rfl⟩
 ·obtain ⟨i,hi,rfl⟩:=DT.1 hl;exact ED (XC.1 hi)
def R7 (a u:V) (i:Nat):at_ (upV a u) i=0 ↔ at_ u i=0:=by
 unfold upV;split
 ·rw [aA]; omega
 ·exact ZZ
def QV {u:Under} {a:V} {E:V->Prop} (c:DD d E (· ∈ u.done) (· ∈ u.lines) u.rays) (h:Ry d ps u) (eq:Bool):∃ Q,Ry d Q (addU a eq u):=by
 have w:∀ q∈ps,q.2.length=d:=fun q hq=>c.lenL q.2 (by rw [<- h.lines]; exact Yt hq);unfold addU;split
 ·rename_i hn;have R:∀ x,x∈u.lines->dot a x=0:=fun x hx=>by
   have:=YU.1 hn x hx
   simpa using this
  refine ⟨ps,h.lines,h.lt,h.diag,h.apart,fun r hr q hq=>?_,h.contL,fun r hr=>?_⟩
  ·rcases mem_cutL.1 hr with ⟨i,r,h1,h2,rfl⟩ | ⟨i,r,h1,h2,⟨h3,rfl⟩ | ⟨k,n,h3,h4,h5,rfl⟩⟩
   ·exact h.rays _ (WN h1) q hq
   ·exact h.rays _ (WN h1) q hq
   ·rw [(lv q.1).1];unfold mx;rw [ak ((c.lenR _ (WN h1)).trans (c.lenR _ (WN h3)).symm),h.rays _ (WN h1) q hq,h.rays _ (WN h3) q hq]; simp
  ·rcases mem_cutL.1 hr with ⟨i,r,h1,h2,rfl⟩ | ⟨i,r,h1,h2,⟨h3,rfl⟩ | ⟨k,n,h3,h4,h5,rfl⟩⟩
   ·exact h.contR _ (WN h1)
   ·exact h.contR _ (WN h1)
   ·refine iV ?_;have hr:=WN h1;have D:=WN h3;obtain ⟨b,hb,hne⟩:=c.off r hr;have hm:dot b (mx a r n)≠0:=fun e=>hne ((nl (c.keep r hr) (c.keep n D) h2 h4 hb).1 e).1
    apply W0
    intro z;have g:∀ i,at_ (mx a r n) i=0:=fun i=>Z0.1 fun e=>z ⟨i,e⟩;refine hm ?_;rw [(IB (fT (c.keep r hr) (c.keep n D) h2 h4).len).2 g,lc]
 ·rename_i i hi;obtain ⟨o,K,-⟩:=Xn.1 hi;have hl:u.lines.getD i []=u.lines[i]:=by simp [qf,o]
  rw [hl];have hne:dot a u.lines[i]≠0:=by simpa using K
  have y:i<ps.length:=by have:=congrArg List.length h.lines; simp at this; omega
  have M:u.lines[i]=(ps[i]).2:=by
   have:(ps.map (·.2))[i]? = u.lines[i]?:=by rw [h.lines]
   rw [Xq,zh y,zh o] at this
   simpa using this.symm
  have I:(u.lines[i]).length=d:=c.lenL _ (EL o)
  generalize s:upV a u.lines[i]=v
  have B:v.length=d:=by
   rw [<- s]; unfold upV; split
   ·exact ag I
   ·exact I
  have S:0<dot a v:=by
   rw [<- s]; unfold upV;split
   ·rw [dot_scl]; omega
   ·omega
  have O:∀ t,at_ v t=0 ↔ at_ (ps[i]).2 t=0:=fun t=>by rw [<- s,R7,M]
  have f:∀ q∈ps.eraseIdx i,at_ v q.1=0:=fun q hq=>by
   obtain ⟨j,L,hj⟩:=Zo.1 hq;obtain ⟨C,rfl⟩:=WI.1 hj;rw [O];rcases Nat.lt_or_gt_of_ne L with hlt | hlt
   ·exact (Xk.1 h.apart j i C y hlt).2
   ·exact (Xk.1 h.apart i j y C hlt).1
  have m:∀ x:V,x.length=d->∀ t,at_ v t=0->(at_ (foldV a v x) t=0 ↔ at_ x t=0):=fun x hx t A=>by
   unfold foldV;rw [(lv t).1];unfold mv;rw [ak (hx.trans B.symm),A];constructor
   ·intro e;rcases W2.1 (show dot a v*at_ x t=0 by omega) with h1 | h1
    ·omega
    ·exact h1
   ·intro e; rw [e]; simp
  have J:∀ x:V,x.length=d->(∃ t,at_ v t=0/\at_ x t≠0)->content (foldV a v x)=1:=fun x hx ⟨t,A,P⟩=>by
   have:at_ (foldV a v x) t≠0:=fun e=>P ((m x hx t A).1 e)
   unfold foldV at this ⊢;exact iV ⟨t,fun e=>this ((lv t).1.2 e)⟩
  refine ⟨(ps.eraseIdx i).map fun q=>(q.1,foldV a v q.2),?_,?_,?_,?_,?_,?_,?_⟩
  ·simp only [Yw,<- h.lines];rw [CD,Yw];rfl
  ·intro q hq;obtain ⟨q0,hq0,rfl⟩:=DT.1 hq;exact h.lt q0 (W9 hq0)
  ·intro q hq;obtain ⟨q0,hq0,rfl⟩:=DT.1 hq;have hm:=W9 hq0;exact fun e=>h.diag q0 hm ((m q0.2 (w q0 hm) q0.1 (f q0 hq0)).1 e)
  ·refine Xu.2 ((h.apart.sublist (List.eraseIdx_sublist ps i)).imp_of_mem fun {q q'} hq F G=>?_);exact ⟨(m q.2 (w q (W9 hq)) q'.1 (f q' F)).2 G.1,(m q'.2 (w q' (W9 F)) q.1 (f q hq)).2 G.2⟩
  ·intro r hr q hq;obtain ⟨q0,hq0,rfl⟩:=DT.1 hq;rcases WQ.1 hr with hr | hr
   ·obtain ⟨r0,p,rfl⟩:=DT.1 hr;exact (m r0 (c.lenR r0 p) q0.1 (f q0 hq0)).2 (h.rays r0 p q0 (W9 hq0))
   ·cases eq
    ·simp at hr; subst hr; exact f q0 hq0
    ·simp at hr
  ·intro l hl;obtain ⟨x,hx,rfl⟩:=DT.1 hl;rw [<- h.lines,CD] at hx;obtain ⟨q,hq,rfl⟩:=DT.1 hx;have hm:=W9 hq;exact J q.2 (w q hm) ⟨q.1,f q hq,h.diag q hm⟩
  ·intro r hr;rcases WQ.1 hr with hr | hr
   ·obtain ⟨r0,p,rfl⟩:=DT.1 hr;have H:=c.lenR r0 p;obtain ⟨b,hb,hn⟩:=c.off r0 p;have N:dot b v=0:=by
     have g:=c.lineI _ (EL o) b hb;rw [<- s]; unfold upV;split
     ·rw [dot_scl,g]; simp
     ·exact g
    unfold foldV;refine iV ?_
    apply W0
    intro z;have g:∀ t,at_ (mv a v r0) t=0:=fun t=>Z0.1 fun e=>z ⟨t,e⟩;have e:=xl (a:=a) B H b;rw [(IB (bC B H)).2 g,lc,N] at e;rcases W2.1 (show dot a v*dot b r0=0 by omega) with h1 | h1
    ·omega
    ·exact hn h1
   ·cases eq
    ·simp at hr;subst hr
     have:=h.contL _ (EL o)
     rw [<- s]; unfold upV;split
     ·rw [yo]; exact this
     ·exact this
    ·simp at hr
def OS {M:Nat} (hd:0<d) (F:0<M) {u:Under} {Es:List V} (m:DD d (· ∈ Es) (· ∈ u.done) (· ∈ u.lines) u.rays) (h:Ry d ps u) (C:∀ e∈Es,e.length=d/\Bd M e) (D:∀ i∈u.done,i.length=d/\Bd M i) :
  (∀ l∈u.lines,Bd ((2*d*M)^2^d) l)/\(∀ r∈u.rays,Bd ((2*d*M)^2^d) r):=by
 have G:∀ q∈ps,q.2.length=d:=fun q hq=>m.lenL q.2 (by rw [<- h.lines]; exact Yt hq);have I:∀ {t:Nat},t<d->(unitV d t).length=d/\Bd M (unitV d t):=fun {t} z=>⟨by simp [unitV,lZ],fun i=>by rw [oh z]; split <;> simp <;> omega⟩
 have w:∀ {t:Nat} {x:V},t<d->x.length=d->dot (unitV d t) x=at_ x t:=fun {t x} z hx=>by
  have key:∀ (n t:Nat) (x:V),t<n->x.length=n->dot (unitV n t) x=at_ x t:=by
   intro n
   induction n with
   | zero=>intro t x h; omega
   | succ n B =>
    intro t x z hx;cases x with
    | nil=>simp at hx
    | cons a x =>
     cases t with
     | zero =>
      have:dot (lZ n) x=0:=by rw [dot_comm,lc]
      simp [unitV,lZ,Xt,dot,at_] at this ⊢;omega
     | succ t =>
      have:=B t x zO (by simpa using hx)
      simp [unitV,lZ,Xt,dot,at_] at this ⊢;exact this
  exact key d t x z hx
 have E:∀ {x:V},Spn d (· ∈ u.lines) x->(∀ q∈ps,at_ x q.1=0)->∀ i,at_ x i=0:=fun hx g=>LW G h.diag h.apart (by rw [h.lines]; exact hx) g;constructor
 ·intro l hl;rw [<- h.lines] at hl;obtain ⟨q0,hq0,rfl⟩:=DT.1 hl;have o:=G q0 hq0;have y:q0.2∈u.lines:=by rw [<- h.lines]; exact hl
  refine JH hd F (S:=Es++u.done++(ps.filter fun q=>!decide (q.1=q0.1)).map fun q=>unitV d q.1) (fun a ha=>?_) o (h.contL _ y) (fun s hs=>?_) (fun x hx g=>?_)
  ·rcases WQ.1 ha with ha | ha
   ·rcases WQ.1 ha with ha | ha
    ·exact C a ha
    ·exact D a ha
   ·obtain ⟨q,hq,rfl⟩:=DT.1 ha;exact I (h.lt q (WO.1 hq).1)
  ·rcases WQ.1 hs with hs | hs
   ·rcases WQ.1 hs with hs | hs
    ·exact m.lineE _ y s hs
    ·exact m.lineI _ y s hs
   ·obtain ⟨q,hq,rfl⟩:=DT.1 hs;obtain ⟨H,N⟩:=WO.1 hq;rw [w (h.lt q H) o];have hne:q≠q0:=fun e=>by subst e; simp at N
    obtain ⟨i,hi⟩:=Xe H;obtain ⟨j,hj⟩:=Xe hq0;obtain ⟨p,rfl⟩:=WI.1 hi;obtain ⟨v,rfl⟩:=WI.1 hj;rcases Y1 i j with hlt | heq | hlt
    ·exact (Xk.1 h.apart i j p v hlt).2
    ·subst heq; exact absurd rfl hne
    ·exact (Xk.1 h.apart j i v p hlt).1
  ·have P:Spn d (· ∈ u.lines) x:=m.lines x hx (fun e he=>g e (by simp [he])) (fun i hi=>g i (by simp [hi]));refine ⟨at_ q0.2 q0.1,at_ x q0.1,h.diag q0 hq0,?_⟩;have hy:=E (x:=mix (at_ q0.2 q0.1) x (-(at_ x q0.1)) q0.2) (Spn.sum2 m.lenL P (dK o y) _ _) (fun q hq=>by
    rw [ak (hx.trans o.symm)];by_cases A:q.1=q0.1
    ·rw [A]; grind
    ·have h1:at_ x q.1=0:=by
      have:=g (unitV d q.1) (Yb _ (Yt (f:=fun q=>unitV d q.1) (WO.2 ⟨hq,by simp [A]⟩)))
      rw [w (h.lt q hq) hx] at this; exact this
     have h2:at_ q0.2 q.1=0:=by
      have hne:q≠q0:=fun e=>A (by rw [e]);obtain ⟨i,hi⟩:=Xe hq;obtain ⟨j,hj⟩:=Xe hq0;obtain ⟨p,rfl⟩:=WI.1 hi;obtain ⟨v,rfl⟩:=WI.1 hj;rcases Y1 i j with hlt | heq | hlt
      ·exact (Xk.1 h.apart i j p v hlt).2
      ·subst heq; exact absurd rfl hne
      ·exact (Xk.1 h.apart j i v p hlt).1
     rw [h1,h2]; simp)
   refine aN (by rw [ag hx,ag o]) fun i=>?_
   have:=hy i
   rw [ak (hx.trans o.symm)] at this;rw [aA,aA]; grind
 ·intro r hr;have b:=m.keep r hr;refine JH hd F (S:=Es++(u.done.filter fun i=>decide (dot i r=0))++ps.map fun q=>unitV d q.1) (fun a ha=>?_) b.len (h.contR r hr) (fun s hs=>?_) (fun x hx g=>?_)
  ·rcases WQ.1 ha with ha | ha
   ·rcases WQ.1 ha with ha | ha
    ·exact C a ha
    ·exact D a (WO.1 ha).1
   ·obtain ⟨q,hq,rfl⟩:=DT.1 ha;exact I (h.lt q hq)
  ·rcases WQ.1 hs with hs | hs
   ·rcases WQ.1 hs with hs | hs
    ·exact b.eq s hs
    ·simpa using (WO.1 hs).2
   ·obtain ⟨q,hq,rfl⟩:=DT.1 hs;rw [w (h.lt q hq) b.len];exact h.rays r hr q hq
  ·
   have ⟨n,W,hn⟩:∃ n:Int,0<=n/\∀ i∈u.done,dot i r≠0->0<=n*dot i r+dot i x:=by
    have key:∀ (l:List V),(∀ i∈l,0<=dot i r)->∃ n:Int,0<=n/\∀ i∈l,dot i r≠0->0<=n*dot i r+dot i x:=by
     intro l
     induction l with
     | nil=>intro _; exact ⟨0,zO,fun i hi=>by cases hi⟩
     | cons a l B =>
      intro hl;obtain ⟨n,hn,K⟩:=B fun i hi=>hl i (SO _ hi);refine ⟨n+(dot a x).natAbs,zO,fun i hi hne=>?_⟩;have h0:=hl i hi;have L:1<=dot i r:=zO;have e:(n+((dot a x).natAbs:Int))*dot i r=n*dot i r+(dot a x).natAbs*dot i r:=by grind
      rw [e];have R:((dot a x).natAbs:Int)*1<=(dot a x).natAbs*dot i r:=Int.mul_le_mul_of_nonneg_left L zO;rcases WV.1 hi with rfl | hi
      ·have T:=Xi hn h0;omega
      ·have:=K i hi hne
       omega
    exact key u.done fun i hi=>b.ge i hi
   have J:∀ i∈u.done,dot i r=0->dot i x=0:=fun i hi h0=>g i (by simp [hi,h0]);have hy:Keep d (· ∈ Es) (· ∈ u.done) (mix n r 1 x):=by
    refine ⟨mix_length b.len hx,fun e he=>?_,fun i hi=>?_⟩
    ·rw [aW _ _ _ (b.len.trans hx.symm),b.eq e he,g e (by simp [he])]; simp
    ·rw [aW _ _ _ (b.len.trans hx.symm)];by_cases h0:dot i r=0
     ·rw [h0,J i hi h0]; simp
     ·have:=hn i hi h0; omega
   obtain ⟨k,c,U,hc,O⟩:=m.ext r hr _ hy fun i hi h0=>by
    rw [aW _ _ _ (b.len.trans hx.symm),h0,J i hi h0]; simp
   have Q:=E O fun q hq=>by
    rw [ak (hy.len.trans b.len.symm),ak (b.len.trans hx.symm),h.rays r hr q hq]
    have:=g (unitV d q.1) (Yb _ (Yt (f:=fun q:Nat × V=>unitV d q.1) hq))
    rw [w (h.lt q hq) hx] at this;rw [this]; simp
   refine ⟨k,c-k*n,zO,aN (by rw [ag hx,ag b.len]) fun i=>?_⟩
   have:=Q i
   rw [ak (hy.len.trans b.len.symm),ak (b.len.trans hx.symm)] at this;rw [aA,aA]; grind
end
end Go.Proofs.YtiigaeehghcjiaaGreat.Lin
namespace Go.Proofs.YtiigaeehghcjiaaGreat.Ev
open Go Nn
def J8 {x y a:AV} (ha:One a):im [x,y] [((1,1),a)]=some (.agg [x,a]):=by
 simp [im,cP,ha.1,ha.2]
theorem aS (T0:Tm) (Vs:List AV) (u v w x:Nat × Option Nat):ct T0 Vs [u,v,w,x]=((((List.replicate T0.length .undef).set u.1 (nC T0 Vs u)).set v.1 (nC T0 Vs v)).set w.1 (nC T0 Vs w)).set x.1 (nC T0 Vs x):=rfl
section
variable {tab:Nat->Option au} {f n:Nat} {res:List (Nat × Option (Option Nat))} {body:ACode} {H:Heap} {Q:AV->Heap->Prop}
def Uq {a b c d e:AV} (i:tab f=some ⟨5,n,res,body,none⟩) (hn:5<=n) (h:∀ T:Tm,T.length=n->ad T 0=a->ad T 1=b->ad T 2=c->ad T 3=d->ad T 4=e->WC tab false body T H (wP res Q)):Ans tab (.fn f [a,b,c,d,e]) H Q :=
 pz i rfl rfl hn fun T hl g=>h T hl (g 0 (by simp)) (g 1 (by simp)) (g 2 (by simp)) (g 3 (by simp)) (g 4 (by simp))
end
def nQ {H:Heap} (a:Wf H) {v:AV} {l:List Int} (hs:RowV H v l) {i:Nat} (hi:i<l.length):∃ w,cm H w (l[i]).natAbs/\Ldd H (some 2) (az v (i*2)) (.agg [.bool (decide (l[i]<0)),w])/\cG 2 v (.int .i64 (i:Int))=some (az v (i*2)):=by
 obtain ⟨w,h1,h2,-,-⟩:=jM hs hi;exact ⟨w,h1,Ldd.of a h2,SlV.idx hs .i64 i hi⟩
def BoxI (H:Heap) (b:Nat) (z:Int):Prop:=∃ q,H.get b=some (.cells [.bool (decide (z<0)),q] aa true)/\cm H q z.natAbs
def BoxI.mono {H H':Heap} (hs:Sub H H') {b:Nat} {z:Int} (h:BoxI H b z):BoxI H' b z:=by
 obtain ⟨q,h1,h2⟩:=h; exact ⟨q,hs.get _ _ h1,h2.mono hs⟩
def BoxR (H:Heap) (b:Nat) (l:List Int):Prop:=∃ q,H.get b=some (.cells [q] af true)/\RowV H q l
def BoxR.mono {H H':Heap} (hs:Sub H H') {b:Nat} {l:List Int} (h:BoxR H b l):BoxR H' b l:=by
 obtain ⟨q,h1,h2⟩:=h; exact ⟨q,hs.get _ _ h1,h2.mono hs⟩
section
variable {tab:Nat->Option au} {H:Heap} {s:AV}
def Dm (C:Code tab) (h:Wf H) {i:Int} {a:AV} {b:Nat} {x y:Int} (ha:IntV H a x) (hb:BoxI H b y) (hx:MuI x) (hy:MuI y) :
  Ans tab (.fn m6 [.int .i64 i,a,.ptr b 0]) H fun v H'=>IntV H' v (x*y)/\Kp H H':=by
 obtain ⟨p,rfl,hp⟩:=ha;obtain ⟨q,hb,hq⟩:=hb;have op:=hp.one;have j:=h _ _ hb;refine mz C.q164 zU fun T hl c d f=>?_;refine zW (cn hl c d f hb) ?_;refine AnsH.use (nD C zF ⟨p,rfl,hp.mono (zG H)⟩ ⟨q,rfl,hq.mono (zG H)⟩ hx hy) ?_;rintro v H2 ⟨⟨w,rfl,hr⟩,g⟩;obtain ⟨k2,_,w2⟩:=zT H zK g;have m:=hr.one;have d1:=g.get (b:=H.next+1) (e:=.cells [.bool false,.nilSl] aa true) (cY);have k:=w2 _ _ d1;have l:NoTy [ae] H2 (H.next+1):=NoTy.ty d1 zU;refine zW (cn hl c d f d1) ?_;exact ⟨⟨w,rfl,SlV.monoT (E:=bz cq) zS hr⟩,zK⟩
def uL (C:Code tab) (D:Wf H) {a:AV} {l:List Int} {y:Int} (hs:RowV H s l) (ha:IntV H a y) (n:l.length<=64) (k:∀ z∈l,MuI z) (hy:MuI y) :
  Ans tab (.fn nH [s,a]) H fun v H'=>∃ r,v=.tup [r,.int .i64 0]/\RowV H' r (Lin.scl y l)/\Kp H H'/\Fr H r:=by
 obtain ⟨q,rfl,hq⟩:=ha;have F:=hq.one;have os:=hs.one;refine bE C.q144 zU fun T hl c f=>?_;refine zW (aC hl c f) ?_;refine AnsH.eq (gR C (d:=l.length) zF (SE hs (zG H) (by refine yY ?_; rfl)) (by simp) (by simp) n fun r hr=>?_) fun H2 h=>?_
 ·simp at hr; subst hr; exact ⟨rfl,fun z u=>(k z u).sm⟩
 obtain ⟨k2,_,w2⟩:=zT H zK h;have b0:=h.get (b:=H.next) (e:=.cells [.bool (decide (y<0)),q] aa true) (cY);refine zW (aZ hl c f @b0) ?_;refine AnsH.eq (fq C zF ⟨q,rfl,hq.mono (zG H)⟩ hy.sm) fun A j=>?_;obtain ⟨x,_,G⟩:=zT H zK j;have m:=j.get (b:=H.next) b0;refine zW (aC hl c f) ?_;refine AnsH.use (xS C zF (hs.mono (zG H)) zO (fun _ z=>z*y) fun i hi H' w g t=>?_) ?_
 ·exact Dm C g.wf t ⟨q,g.get (b:=H.next) (zV m),hq.mono (Kp.sub (H:=H) (Kp.trans zK g))⟩ (k _ (EL hi)) hy
 ·rintro v B ⟨hr,p,o⟩;obtain ⟨E,_,_⟩:=zT H zK p;have e:l.mapIdx (fun _ z=>z*y)=Lin.scl y l:=by
   apply X1 <;> simp [Lin.scl,Int.mul_comm]
  rw [e] at hr;refine zW (aC hl c f) ?_;exact ⟨_,rfl,hr,zK,fun b hb=>WK x.le (WK (W3 _ _) (o b hb))⟩
def Ky (C:Code tab) (d:Wf H) {a:AV} {l:List Int} {y:Int} (hs:RowV H s l) (ha:IntV H a y) (b:l.length<=64) (c:∀ z∈l,MuI z) (hy:MuI y) :
  Ans tab (.fn nH [s,a]) H fun v H'=>∃ r,v=.tup [r,.int .i64 0]/\RowV H' r (Lin.scl y l)/\Kp H H':=(uL C d hs ha b c hy).mono fun _ _ ⟨r,h1,h2,h3,_⟩=>⟨r,h1,h2,h3⟩
def MD {l m:List Int} (h:l.length=m.length) (g:Int->Int->Int):l.mapIdx (fun i z=>g z (m.getD i 0))=List.zipWith g l m:=by
 apply X1
 ·simp [h]
 ·intro i h1 h2;have hi:i<m.length:=by simp at h1; omega
  simp [hi]
def Hp (C:Code tab) (u:Wf H) {i:Nat} {a:AV} {bm I b:Nat} {x m n:Int} {l:List Int} (hi:i<l.length) (ha:IntV H a x) (hm:BoxI H bm m) (hn:BoxI H I n) (hb:BoxR H b l) (hx:MuI x) (N:MuI m) (P:MuI n) (hy:MuI l[i]) (R:fm (m*x)) (S:fm (n*l[i])) :
  Ans tab (.fn pO [.int .i64 (i:Int),a,.ptr bm 0,.ptr I 0,.ptr b 0]) H fun v H'=>IntV H' v (m*x+n*l[i])/\Kp H H':=by
 obtain ⟨p,rfl,hp⟩:=ha;obtain ⟨q,hb,hq⟩:=hb;obtain ⟨X,c,O⟩:=hm;obtain ⟨Y,d,Q⟩:=hn;have op:=hp.one;have lb:=u _ _ hb;have lm:=u _ _ c;have ln:=u _ _ d;obtain ⟨w,W,L,t⟩:=nQ u hq hi;have s:=L.put;have o:=L.ld;refine Uq C.q176 zU fun T hl f g h j k=>?_;refine zW (fy hl f g h j k) ?_;refine aJ ?_;refine zD (BL hl f g h j k hb c d t s o) ?_;refine AnsH.use (nD C zF ⟨X,rfl,O.mono (zG H)⟩ ⟨p,rfl,hp.mono (zG H)⟩ N hx) ?_;rintro v H2 ⟨U,J⟩;obtain ⟨k2,_,w2⟩:=zT H zK J;have G:=L.mono k2;have z:=G.put;have y:=G.ld;have A:=k2.get hb;have F:=k2.get d;have D:=k2.get c;refine zD (PA hl f g h j k hb c d t s o z y A F D) ?_;refine AnsH.use (nD C zF ⟨Y,rfl,Q.mono (zG H)⟩ ⟨w,rfl,W.mono (zG H)⟩ P hy) ?_;rintro v3 H3 ⟨V,B⟩;obtain ⟨k3,_,w3⟩:=zT H zK B;refine zD (PA hl f g h j k hb c d t s o z y A F D) ?_;refine AnsH.use (I5 C zF (U.mono B.sub) V R S) ?_;rintro v4 M ⟨⟨r,rfl,hr⟩,K⟩;obtain ⟨k4,_,Z⟩:=zT H zK K;have ad:=hr.one;have d1:=K.get (b:=H.next+1) (B.get (b:=H.next+1) (J.get (b:=H.next+1) (e:=.cells [.bool false,.nilSl] aa true) (cY)));have ab:=Z _ _ d1;have m1:NoTy [ae] M (H.next+1):=NoTy.ty d1 zU;refine zD (Pz hl f g h j k hb c d t s o z y A F D d1) ?_;exact ⟨⟨r,rfl,SlV.monoT (E:=bz cq) zS hr⟩,zK⟩
def I6 (C:Code tab) (Y:Wf H) {vm M a b:AV} {m n:Int} {x y:List Int} (hm:IntV H vm m) (hn:IntV H M n) (ha:RowV H a x) (hb:RowV H b y) (L:x.length=y.length) (Q:x.length<=64) (J:MuI m) (K:MuI n) (D:∀ z∈x,MuI z/\fm (m*z)) (E:∀ z∈y,MuI z/\fm (n*z)) :
  Ans tab (.fn wV [vm,a,M,b]) H fun v H'=>∃ r,v=.tup [r,.int .i64 0]/\RowV H' r (Lin.mix m x n y)/\Kp H H':=by
 obtain ⟨q,rfl,A⟩:=hm;obtain ⟨s,rfl,B⟩:=hn;have om:=A.one;have on:=B.one;have oa:=ha.one;have ob:=hb.one;refine Ox C.q163 zU fun T hl c f g h=>?_;refine zW (cn hl c f g h) ?_;refine AnsH.eq (fq C zF ⟨q,rfl,A.mono (zG H)⟩ J.sm) fun H2 l=>?_;obtain ⟨k2,_,w2⟩:=zT H zK l;have b0:=l.get (b:=H.next) (e:=.cells [.bool (decide (m<0)),q] aa true) (cY);have I:=l.get (b:=H.next+1) (e:=.cells [.bool (decide (n<0)),s] aa true) (cY);have N:=l.get (b:=H.next+2) (e:=.cells [b] af true) (cY);refine zW (fy hl c f g h I) ?_;refine AnsH.eq (fq C zF ⟨s,rfl,B.mono (zG H)⟩ K.sm) fun V o=>?_;obtain ⟨Z,_,U⟩:=zT H zK o;have O:=o.get (b:=H.next) b0;have P:=o.get (b:=H.next+1) I;have t:=o.get (b:=H.next+2) N;have ab:=U _ _ t;refine zW (fy hl c f g h @t) ?_;refine AnsH.eq (gR C (d:=x.length) zF (BR ha hb (zG H) (by refine yY ?_; rfl)) (by simp) (by simp) Q fun r hr=>?_) fun W p=>?_
 ·simp at hr; rcases hr with rfl | rfl
  ·exact ⟨rfl,fun z F=>(D z F).1.sm⟩
  ·exact ⟨L.symm,fun z F=>(E z F).1.sm⟩
 obtain ⟨k4,_,w4⟩:=zT H zK p;have d0:=p.get (b:=H.next) (e:=.cells [.bool (decide (m<0)),q] aa true) (zV O);have d1:=p.get (b:=H.next+1) (e:=.cells [.bool (decide (n<0)),s] aa true) (zV @P);have d2:=p.get (b:=H.next+2) (e:=.cells [b] af true) (zV @t);refine zW (cn hl c f g h) ?_;refine AnsH.use (zt C zF (ha.mono (zG H)) zO (fun i z=>m*z+n*y.getD i 0) fun i hi H' w j S=>?_) ?_
 ·have k:i<y.length:=zO;have e:y.getD i 0=y[i]:=by simp [k]
  have G:Sub H H':=Kp.sub (H:=H) (Kp.trans zK j);show Ans tab _ H' fun v H2=>IntV H2 v (m*x[i]+n*y.getD i 0)/\Kp H' H2;rw [e];exact Hp C j.wf k S ⟨q,j.get (b:=H.next) (zV d0),A.mono G⟩ ⟨s,j.get (b:=H.next+1) (zV d1),B.mono G⟩ ⟨b,j.get (b:=H.next+2) (zV d2),hb.mono G⟩ (D _ (EL hi)).1 J K (E _ (EL k)).1 (D _ (EL hi)).2 (E _ (EL k)).2
 ·rintro v X ⟨hr,R⟩;obtain ⟨k5,_,_⟩:=zT H zK R;rw [MD L (fun u v=>m*u+n*v)] at hr;refine zW (cn hl c f g h) ?_;exact ⟨_,rfl,hr,zK⟩
def xB (a b:List Int) (j:Nat):Int:=Lin.dot (a.take j) (b.take j)
def Gp:∀ (a b:List Int) (x y:Int),a.length=b.length->Lin.dot (a++[x]) (b++[y])=Lin.dot a b+x*y
 | [],[],x,y,_=>by simp [Lin.dot]
 | [],_ :: _,x,y,h=>by simp at h
 | _ :: _,[],x,y,h=>by simp at h
 | u :: a,v :: b,x,y,h=>by
  have:=Gp a b x y (by simpa using h)
  simp only [Yn,Lin.dot,this];omega
def xA {a b:List Int} {j:Nat} (ha:j<a.length) (hb:j<b.length):xB a b (j+1)=xB a b j+a[j]*b[j]:=by
 unfold xB;rw [TY ha,TY hb,Gp _ _ _ _ (by simp; omega)]
def VW {a b:List Int} (h:a.length=b.length):xB a b a.length=Lin.dot a b:=by
 unfold xB;rw [WZ,h,WZ]
def P2 (C:Code tab) (hw:Wf H) {a b:AV} {x y:List Int} (ha:RowV H a x) (hb:RowV H b y) (O:x.length=y.length) (S:x.length<=64) (M:∀ z∈x,MuI z) (P:∀ z∈y,MuI z) (hp:∀ i (h:i<x.length) (h':i<y.length),fm (x[i]*y[i])) (U:∀ j,j<=x.length->fm (xB x y j)) :
  Ans tab (.fn sJ [a,b]) H fun v H'=>∃ r,v=.tup [r,.int .i64 0]/\IntV H' r (Lin.dot x y)/\Kp H H':=by
 have oa:=ha.one;have ob:=hb.one;refine bE C.q75 zU fun T hl c f=>?_;refine zW (aC hl c f) ?_;refine AnsH.eq (gR C (d:=x.length) zF (BR ha hb (zG H) (by refine yY ?_; rfl)) (by simp) (by simp) S fun r hr=>?_) fun H2 J=>?_
 ·simp at hr; rcases hr with rfl | rfl
  ·exact ⟨rfl,fun z F=>(M z F).sm⟩
  ·exact ⟨O.symm,fun z F=>(P z F).sm⟩
 obtain ⟨k2,_,w2⟩:=zT H zK J;have b0:=J.get (b:=H.next) (e:=.cells [.bool false,.nilSl] aa true) (cY);refine zW (aZ hl c f ha.lenV) ?_;refine aq H [] (fun j _ H'=>BoxI H' H.next (xB x y j)) (a:=0) (N:=x.length) rfl (by refine zW (aC hl c f) ?_; rfl) (zV (aC hl c f)) (WG _) zO (by simp only [jL,hl]; rfl) rfl (fun j vs H' m h=>h.mono (Sub.bump H' m)) zK ⟨.nilSl,by refine zW @b0 ?_; simp [xB,Lin.dot],by simpa [xB,Lin.dot] using eM _⟩ ?_ ?_
 ·rintro j T1 n _ hj k p l g ⟨q,hq0,hq⟩;have w1:=g.wf;have ab:=g.le;have o:j<y.length:=zO;have af:ad T1 14=a:=(l.at_ 14 zU).trans (zV (aB hl c));have t4:ad T1 4=.ptr H.next 0:=(l.at_ 4 zU).trans (zV (aC hl c f))
  have t1:ad T1 1=b:=(l.at_ 1 zU).trans (zV (aZ hl c f f));obtain ⟨w,hn,X,-,-⟩:=jM (ha.mono g.sub) hj;have V:cG 2 a (.int .i64 (j:Int))=some (az a (j*2)):=SlV.idx ha .i64 j hj;obtain ⟨u,Z,L,A⟩:=nQ w1 (hb.mono g.sub) o;have ow:=hn.one;have aj:=w1 _ _ hq0;have t:=L.put;have s:=L.ld;have oq:=hq.one;simp only [jL,hl] at k;refine zW (cn k af p V X) ?_;refine aJ ?_;refine zD (lp k t4 t1 p hq0 A t s) ?_;refine AnsH.use (nD C zF ⟨w,rfl,hn.mono (zG n)⟩ ⟨u,rfl,Z.mono (zG n)⟩ (M _ (EL hj)) (P _ (EL o))) ?_;rintro v R ⟨Y,W⟩;obtain ⟨k13,_,_⟩:=zT n zK W;have G:Kp H R:=Kp.trans g k13;have ag:=G.le;have w3:=G.wf;have B:=k13.get hq0;refine zD (lh k t4 t1 p hq0 A t s B) ?_;refine AnsH.use (I5 C zF ⟨q,rfl,hq.mono (zG n)⟩ Y (U j zO) (hp j hj o)) ?_;rintro v4 I ⟨⟨r,rfl,hr⟩,K⟩;have Q:Kp H I:=Kp.trans G K;have ah:=Q.le;have w4:=Q.wf;have al:=hr.one;have D:=K.get B;have ak:=w4 _ _ D;have m0:NoTy [ae] I H.next:=NoTy.ty D zU
  refine zD (pD k t4 t1 p hq0 A t s B D) ?_;refine ⟨zK,r,?_,?_⟩
  ·rw [xA hj o]; exact cY
  ·rw [xA hj o]; exact SlV.monoT (E:=bz cq) zS hr
 ·rintro T1 n k l g ⟨q,hq0,hq⟩;have w1:=g.wf;have ab:=g.le;have t4:ad T1 4=.ptr H.next 0:=(l.at_ 4 zU).trans (zV (aC hl c f))
  have t5:ad T1 5=.int .i64 0:=(l.at_ 5 zU).trans (zV (aC hl c f));simp only [jL,hl] at k;rw [VW O] at hq0 hq;refine zW (aZ k t4 t5 hq0) ?_;exact ⟨_,rfl,⟨q,rfl,hq⟩,zK⟩
end
def AY {l:List Int} (h:∀ z∈l,fm z):Sm (Lin.content l):=by
 by_cases h0:Lin.content l=0
 ·rw [h0]; unfold Sm; rw [cD]; simp
 ·have b:∃ a∈l,a≠0:=W0 fun hn=>h0 (Lin.content_eq_zero.2 fun a ha=>W0 fun hne=>hn ⟨a,ha,hne⟩);obtain ⟨a,ha,hne⟩:=b;have hd:=Lin.content_dvd ha;have c:Lin.content l<=a.natAbs:=Nat.le_of_dvd zO (ZO.1 hd);exact Sm.mono c (h a ha)
def EE {l:List Int} {j:Nat} (hj:j<l.length):Lin.content (l.take (j+1))=Nat.gcd (Lin.content (l.take j)) (l[j]).natAbs:=by
 unfold Lin.content;rw [TY hj,Zx];rfl
section
variable {tab:Nat->Option au} {H:Heap} {s:AV}
def Fb (C:Code tab) (D:Wf H) {l:List Int} (hs:RowV H s l) (o:l.length<=64) (n:∀ z∈l,fm z) :
  Ans tab (.fn oD [s]) H fun v H'=>∃ r,v=.tup [r,.int .i64 0]/\cm H' r (Lin.content l)/\Kp H H':=by
 have os:=hs.one;refine cz C.q167 zU fun T hl b=>?_;refine zW (aB hl b) ?_;refine AnsH.eq (gR C (d:=l.length) zF (SE hs (zG H) (by refine yY ?_; rfl)) (by simp) (by simp) o fun r hr=>?_) fun H2 t=>?_
 ·simp at hr; subst hr; exact ⟨rfl,n⟩
 obtain ⟨k2,_,w2⟩:=zT H zK t;refine zW (aC hl b hs.lenV) ?_;refine aq H [2] (fun j vs H'=>∃ c,vs=[c]/\cm H' c (Lin.content (l.take j))) (a:=0) (N:=l.length) rfl (by refine zW (aB hl b) ?_; rfl) (zV (aB hl b)) (WG _) zO (by simp only [jL,hl]; rfl) rfl (fun j vs H' m ⟨c,h1,h2⟩=>⟨c,h1,h2.mono (Sub.bump H' m)⟩) zK ⟨.nilSl,by exact zV (aB hl b),by simpa [Lin.content] using eM _⟩ ?_ ?_
 ·rintro j T1 i _ hj f p k e ⟨c,g,hc⟩;have w1:=e.wf;have y:=e.le;simp only [SA,WF,Ud,and_true] at g;have A:ad T1 11=s:=(k.at_ 11 zU).trans (zV (aB hl b));obtain ⟨w,hn,x,-,-⟩:=jM (hs.mono e.sub) hj;have q:cG 2 s (.int .i64 (j:Int))=some (az s (j*2)):=SlV.idx hs .i64 j hj;have F:=hn.one;simp only [jL,hl] at f;refine zW (fy f A p q x g) ?_;refine AnsH.use (QK C zF (hc.mono (zG i)) (hn.mono (zG i)) (AY fun z h=>n z (YJ h)) (n _ (EL hj))) ?_;rintro v B ⟨r,rfl,hr,u⟩;obtain ⟨E,_,G⟩:=zT H zK u;refine zW f ?_;refine ⟨zK,_,rfl,?_⟩;rw [EE hj];exact hr
 ·rintro T1 i f k e ⟨c,g,hc⟩;have w1:=e.wf;have y:=e.le;simp only [SA,WF,Ud,and_true] at g;have t3:ad T1 3=.int .i64 0:=(k.at_ 3 zU).trans (zV (aB hl b));simp only [jL,hl] at f;rw [WZ] at hc;refine zW (aC f g t3) ?_;exact ⟨_,rfl,hc,zK⟩
def Fa (C:Code tab) (g:Wf H) {i:Int} {a:AV} {x:Int} (ha:IntV H a x) (hx:fm x) :
  Ans tab (.fn oC [.int .i64 i,a]) H fun v H'=>IntV H' v x/\Kp H H':=by
 obtain ⟨p,rfl,hp⟩:=ha;have op:=hp.one;refine bE C.q152 zU fun T hl c d=>?_;refine zW (aC hl c d) ?_;refine aJ ?_;refine zD (aC hl c d) ?_;refine AnsH.use (kI C zF (hp.mono (zG H)) (by unfold fm Sm at hx; omega)) ?_;rintro v H2 ⟨hr,f⟩;obtain ⟨k2,_,w2⟩:=zT H zK f;have k:=hr.one;have b0:=f.get (b:=H.next) (e:=.cells [.bool (decide (x<0)),p] aa true) (cY);have d1:=f.get (b:=H.next+1) (e:=.cells [.bool false,.nilSl] aa true) (cY);have h:=w2 _ _ d1;have j:NoTy [ae] H2 (H.next+1):=NoTy.ty d1 zU;refine zD (cn hl c d @b0 d1) ?_;exact ⟨⟨v,rfl,SlV.monoT (E:=bz cq) zS hr⟩,zK⟩
def zu (C:Code tab) (h:Wf H) {l:List Int} (hs:RowV H s l) (b:l.length<1099511627776) (g:∀ z∈l,fm z) :
  Ans tab (.fn um [s]) H fun v H'=>RowV H' v l/\Kp H H':=by
 refine cz C.q124 zU fun T hl a=>?_;refine zW (aB hl a) ?_;refine AnsH.use (zt C zF (hs.mono (zG H)) b (fun _ z=>z) fun i hi H' w c f=>Fa C c.wf f (g _ (EL hi))) ?_;rintro v H2 ⟨hr,d⟩;obtain ⟨k2,_,_⟩:=zT H zK d;have e:l.mapIdx (fun _ z=>z)=l:=by apply X1 <;> simp
 rw [e] at hr;refine zW (aB hl a) ?_;exact ⟨hr,zK⟩
def Dn (C:Code tab) (h:Wf H) {i:Int} {a q:AV} {b n:Nat} {x:Int} (ha:IntV H a x) (hb:H.get b=some (.cells [q] aI true)) (hq:cm H q n) (h0:n≠0) (hd:(n:Int) ∣ x) (hx:fm x) (hn:Sm n) :
  Ans tab (.fn nd [.int .i64 i,a,.ptr b 0]) H fun v H'=>IntV H' v (x / n)/\Kp H H':=by
 obtain ⟨p,rfl,hp⟩:=ha;have op:=hp.one;have l:=hq.one;have m:=h _ _ hb;refine mz C.q168 zU fun T hl d f g=>?_;have k:im [.bool false,.nilSl] [((1,1),q)]=some (.agg [.bool false,q]):=J8 l;refine zW (fy hl d f g hb k) ?_;refine AnsH.use (E7 C (y:=(n:Int)) zF ⟨p,rfl,hp.mono (zG H)⟩ ⟨q,by rw [decide_eq_false zO],by simpa using hq.mono (zG H)⟩ hx (by unfold fm; simpa using hn) zO ?_) ?_
 ·rw [YW]; exact Nat.mod_eq_zero_of_dvd (ZO.1 hd)
 rintro v H2 ⟨r,rfl,⟨w,rfl,hr⟩,c⟩;rw [Int.tdiv_eq_ediv_of_dvd hd] at hr ⊢;obtain ⟨k2,_,w2⟩:=zT H zK c;have u:=hr.one;have t:H.next+12<=H2.next:=c.le
 have d1:=c.get (b:=H.next+1) (e:=.cells [.bool false,.nilSl] aa true) (cY);have j:H2.get (H.next+9)=none:=c.free (show _<H.next+12 by omega) (by rw [aw zO,aw zO]; exact h.fresh (b:=H.next+9) zO);have o:NoTy [ae] H2 (H.next+1):=NoTy.ty d1 zU;have s:NoTy [ae] H2 (H.next+9):=NoTy.none j;refine zW (cn hl d f g d1) ?_;exact ⟨⟨w,rfl,SlV.monoT (E:=bz cq) zS hr⟩,zK⟩
def wF (C:Code tab) (q:Wf H) {l:List Int} (hs:RowV H s l) (k:l.length<=64) (d:∀ z∈l,fm z) :
  Ans tab (.fn rl [s]) H fun v H'=>∃ r,v=.tup [r,.int .i64 0]/\RowV H' r (Lin.prime l)/\Kp H H':=by
 refine cz C.q148 zU fun T hl a=>?_;refine zW (aB hl a) ?_;refine AnsH.use (Fb C zF (hs.mono (zG H)) k d) ?_;rintro v H2 ⟨c,rfl,hc,g⟩;obtain ⟨k2,_,w2⟩:=zT H zK g;have D:=hc.one;have B:H.next+10<=H2.next:=g.le
 have j:H2.get (H.next+7)=none:=g.free (show _<H.next+10 by omega) (q.fresh (b:=H.next+7) zO);have x:=bZ (Lin.content l);refine zW (aC hl a hc.lenV) ?_;refine iteH.split (fun h=>?_) fun h=>?_
 ·have h0:Lin.content l=0:=zO;refine zW (aB hl a) ?_;refine AnsH.use (zu C zF (hs.mono (zG H)) zO d) ?_;rintro v t ⟨hr,n⟩;obtain ⟨y,_,_⟩:=zT H zK n;refine zW (aB hl a) ?_;refine ⟨_,rfl,?_,zK⟩;unfold Lin.prime;rw [if_pos h0];exact hr
 ·have h0:Lin.content l≠0:=zO;refine zW (aB hl a) ?_;have s2:∀ m,Sub H2 (((H2.up m).put (H.next+7) (.cells [.nilSl] aI true)).put (H.next+7) (.cells [c] aI true)):=fun m=>(Sub.bump H2 m).trans ((aH (H:=H2.up m) j).put j _);refine AnsH.use (zt C zF (hs.mono (zG H)) zO (fun _ z=>z / (Lin.content l:Int)) fun i hi H' w f p=>?_) ?_
  ·exact Dn C f.wf p (f.get (b:=H.next+7) (cY)) ((hc.mono (s2 _)).mono f.sub) h0 (Lin.content_dvd (EL hi)) (d _ (EL hi)) (AY d)
  ·rintro v u ⟨hr,o⟩;obtain ⟨A,_,_⟩:=zT H zK o;have e:l.mapIdx (fun _ z=>z / (Lin.content l:Int))=Lin.prime l:=by
    unfold Lin.prime;rw [if_neg h0]
    apply X1 <;> simp
   rw [e] at hr;refine zW (aB hl a) ?_;exact ⟨_,rfl,hr,zK⟩
def BX (c:Int->Int->Int):List Int->List Int->Int
 | x :: l,y :: m=>if c x y=0 then BX c l m else c x y
 | _,_=>0
def VX {c:Int->Int->Int}:∀ {l m:List Int} {j:Nat} (hj:j<l.length) (a:j<m.length),(∀ k (h:k<l.length) (h':k<m.length),k<j->c l[k] m[k]=0)->c l[j] m[j]≠0->BX c l m=c l[j] m[j]
 | [],m,j,hj,_,_,_=>by simp at hj
 | _ :: _,[],j,_,a,_,_=>by simp at a
 | x :: l,y :: m,0,_,_,_,h1=>by
  have b:¬ c x y=0:=h1;show (if c x y=0 then BX c l m else c x y)=_;rw [if_neg b]; rfl
 | x :: l,y :: m,j+1,hj,a,h0,h1=>by
  have b:c x y=0:=h0 0 (by simp) (by simp) zO;show (if c x y=0 then BX c l m else c x y)=_;rw [if_pos b];exact VX (by simpa using hj) (by simpa using a) (fun k h h' d=>h0 (k+1) (by simpa using h) (by simpa using h') zO) h1
def CP {c:Int->Int->Int}:∀ {l m:List Int},(∀ k (h:k<l.length) (h':k<m.length),c l[k] m[k]=0)->BX c l m=0
 | [],m,_=>by cases m <;> rfl
 | _ :: _,[],_=>rfl
 | x :: l,y :: m,h0=>by
  have a:c x y=0:=h0 0 (by simp) (by simp);show (if c x y=0 then BX c l m else c x y)=_;rw [if_pos a];exact CP fun k h h'=>h0 (k+1) (by simpa using h) (by simpa using h')
def yW (C:Code tab) (R:Wf H) {fi:Nat} {first caps:List AV} {a b:AV} {l m:List Int} (ha:RowV H a l) (hb:RowV H b m) (K:l.length=m.length) (P:l.length<1099511627776) (c:Int->Int->Int)
  (D:∀ i (h:i<l.length) (h':i<m.length) H' u v,Kp H H'->IntV H' u l[i]->IntV H' v m[i]->Ans tab (.fn fi (first++[u,v]++caps)) H' fun r H2=>r=.int .i64 (c l[i] m[i])/\Kp H' H2) :
  Ans tab (.fn bg [a,b,.fn (.func fi) first caps]) H fun r H'=>r=.int .i64 (BX c l m)/\Kp H H':=by
 refine mz C.q153 zU fun T hl d f g=>?_;refine zW (cn hl d f g ha.lenV) ?_;refine aq H [] (fun j _ _=>∀ k (h:k<l.length) (h':k<m.length),k<j->c l[k] m[k]=0) (a:=0) (N:=l.length) rfl (by refine zW (aZ hl d f g) ?_; rfl) (zV (aZ hl d f g)) (WG _) zO (by simp only [jL,hl]; rfl) rfl (fun _ _ _ _ h=>h) zK (fun k _ _ h=>by omega) ?_ ?_
 ·intro j T1 t _ hj n E o p q;have w1:=p.wf;have S:=p.le;have x:j<m.length:=zO;have M:ad T1 11=a:=(o.at_ 11 zU).trans (zV (aB hl d));have t1:ad T1 1=b:=(o.at_ 1 zU).trans (zV (cn hl d f g f));have O:ad T1 2=.fn (.func fi) first caps:=(o.at_ 2 zU).trans (zV (cn hl d f g g))
  obtain ⟨w,hn,J,-,-⟩:=jM (ha.mono p.sub) hj;have F:cG 2 a (.int .i64 (j:Int))=some (az a (j*2)):=SlV.idx ha .i64 j hj;obtain ⟨u,y,L,G⟩:=nQ w1 (hb.mono p.sub) x;have V:=hn.one;have U:=y.one;have A:=L.put;have z:=L.ld;have hge:¬ m.length<=j:=zO;simp only [jL,hl] at n;refine zW (BL n M t1 O E F J hb.lenV hge G A z) ?_;refine AnsH.eq (D j hj x _ (.agg [.bool (decide (l[j]<0)),w]) (.agg [.bool (decide (m[j]<0)),u]) zK ⟨w,rfl,hn.mono (zG t)⟩ ⟨u,rfl,y.mono (zG t)⟩) fun H2 I=>?_;obtain ⟨k2,_,_⟩:=zT H zK I;by_cases s:c l[j] m[j]=0
  ·refine zW (aB n s) ?_;refine ⟨zK,fun k h h' Q=>?_⟩;by_cases e:k=j
   ·subst e; exact s
   ·exact q k h h' zO
  ·refine zW (aB n s) ?_;exact ⟨by rw [VX hj x q s],zK⟩
 ·intro T1 t n o p q;have t0:ad T1 0=a:=(o.at_ 0 zU).trans (zV (aB hl d));have t1:ad T1 1=b:=(o.at_ 1 zU).trans (zV (cn hl d f g f));have B:lenV a=some (.int .i64 (m.length:Int)):=by rw [ha.lenV,K]
  simp only [jL,hl] at n;refine zW (cn n t0 t1 B hb.lenV) ?_;exact ⟨by rw [CP fun k h h'=>q k h h' h],zK⟩
def Hq (C:Code tab) (f:Wf H) {a b:AV} {x y:Int} (ha:IntV H a x) (hb:IntV H b y) (hx:fm x) (hy:fm y) :
  Ans tab (.fn pP [a,b]) H fun v H'=>v=.int .i64 (jx (x-y))/\Kp H H':=by
 obtain ⟨p,rfl,hp⟩:=ha;obtain ⟨q,rfl,hq⟩:=hb;have op:=hp.one;have g:=hq.one;refine bE C.q154 zU fun T hl c d=>?_;refine zW (aC hl c d) ?_;refine AnsH.eq (Kv C zF ⟨p,rfl,hp.mono (zG H)⟩ ⟨q,rfl,hq.mono (zG H)⟩ hx hy) fun H2 e=>?_;obtain ⟨k2,_,_⟩:=zT H zK e;refine zW (aC hl c d) ?_;exact zK
def EI (l m:List Int):Int:=BX (fun x y=>jx (x-y)) l m
def P3 (C:Code tab) (w:Wf H) {a b:AV} {l m:List Int} (ha:RowV H a l) (hb:RowV H b m) (g:l.length=m.length) (k:l.length<=64) (f:∀ z∈l,fm z) (j:∀ z∈m,fm z) :
  Ans tab (.fn wW [a,b]) H fun v H'=>v=.tup [.int .i64 (EI l m),.int .i64 0]/\Kp H H':=by
 have B:=ha.one;have D:=hb.one;refine bE C.q125 zU fun T hl c e=>?_;refine zW (aC hl c e) ?_;refine AnsH.eq (gR C (d:=l.length) zF (BR ha hb (zG H) (by refine yY ?_; rfl)) (by simp) (by simp) k fun r hr=>?_) fun H2 o=>?_
 ·simp at hr; rcases hr with rfl | rfl
  ·exact ⟨rfl,f⟩
  ·exact ⟨g.symm,j⟩
 obtain ⟨k2,_,w2⟩:=zT H zK o;refine zW (aC hl c e) ?_;refine AnsH.eq (yW C zF (ha.mono (zG H)) (hb.mono (zG H)) g zO (fun x y=>jx (x-y)) fun i h h' H' u v n q s=>Hq C n.wf q s (f _ (EL h)) (j _ (EL h'))) fun t p=>?_;obtain ⟨A,_,_⟩:=zT H zK p;refine zW (aC hl c e) ?_;exact ⟨rfl,zK⟩
end
abbrev Pj (H:Heap) (v:AV) (ls:List (List (Bool × List Nat))):Prop:=pC (Vt rawE aa) af H v ls
def xK (r:List (Bool × List Nat)):Bool:=!BH r || decide (r.length=0)
def cF (ls:List (List (Bool × List Nat))):Int :=
 if 1024<ls.length then 4 else if ls.any xK then 8 else if ls.any (fun r=>decide (r.length≠(ls.headD []).length)) then 70 else 0
def Cl {ls:List (List (Bool × List Nat))} (h0:ls.length<=1024) {j:Nat} (hj:j<ls.length) (h:xK ls[j]=true):cF ls=8:=by
 have:ls.any xK=true:=W7.2 ⟨_,EL hj,h⟩
 unfold cF;rw [if_neg zO,if_pos this]
def HF {ls:List (List (Bool × List Nat))} (h0:ls.length<=1024) (hb:∀ k (h:k<ls.length),xK ls[k]=false) {j:Nat} (hj:j<ls.length) (h:ls[j].length≠(ls[0]'zO).length):cF ls=70:=by
 have h1:¬ ls.any xK=true:=by
  rw [W7]; rintro ⟨r,hr,b⟩;obtain ⟨k,c,rfl⟩:=XH hr;rw [hb k c] at b; cases b
 have e:ls.headD []=ls[0]'zO:=by cases ls with | nil=>simp at hj | cons a l=>rfl
 have h2:ls.any (fun r=>decide (r.length≠(ls.headD []).length))=true:=W7.2 ⟨_,EL hj,by rw [e]; simpa using h⟩;unfold cF;rw [if_neg zO,if_neg h1,if_pos h2]
def wO {ls:List (List (Bool × List Nat))} (h0:ls.length<=1024) (hb:∀ k (h:k<ls.length),xK ls[k]=false) (hl:∀ k (h:k<ls.length),ls[k].length=(ls[0]'zO).length):cF ls=0:=by
 have h1:¬ ls.any xK=true:=by
  rw [W7]; rintro ⟨r,hr,b⟩;obtain ⟨k,c,rfl⟩:=XH hr;rw [hb k c] at b; cases b
 have h2:¬ ls.any (fun r=>decide (r.length≠(ls.headD []).length))=true:=by
  rw [W7]; rintro ⟨r,hr,b⟩;obtain ⟨k,c,rfl⟩:=XH hr;have e:ls.headD []=ls[0]'zO:=by cases ls with | nil=>simp at c | cons a l=>rfl
  rw [e,hl k c] at b;simp at b
 unfold cF;rw [if_neg zO,if_neg h1,if_neg h2]
section
variable {tab:Nat->Option au} {H:Heap} {s:AV}
def Al {ty:Nat} {ls:List (List (Bool × List Nat))} (hs:pC (Vt rawE aa) ty H s ls) {i:Nat} (hi:i<ls.length):∃ w,SlV rawE aa H w ls[i]/\bc H none (az s i)=some w:=SlV.at1 hs (zh hi)
def ui (C:Code tab) (M:Wf H) {ls:List (List (Bool × List Nat))} (hs:Pj H s ls) (L:ls.length<4611686018427387904) (hb:∀ r∈ls,xI r) :
  Ans tab (.fn mr [s]) H fun v H'=>v=.int .i64 (cF ls)/\Kp H H':=by
 refine cz C.q118 zU fun T hl d=>?_;by_cases h0:1024<ls.length
 ·have e:(1024:Int)<(ls.length:Int):=zO;refine zW (aZ hl d hs.lenV e) ?_;exact ⟨by unfold cF; rw [if_pos h0],zK⟩
 ·have e:¬ (1024:Int)<(ls.length:Int):=zO;have i:ls.length<=1024:=zO;refine zW (aZ hl d hs.lenV e) ?_;refine aq H [] (fun j _ _=>∀ k (h:k<ls.length),k<j->xK ls[k]=false) (a:=0) (N:=ls.length) rfl (by refine zW (aB hl d) ?_; rfl) (zV (aB hl d)) (WG _) zO (by simp only [jL,hl]; rfl) rfl (fun _ _ _ _ h=>h) zK (fun k _ h=>by omega) ?_ ?_
  ·intro j T1 x _ hj b E t f m;have w1:=f.wf;have J:=f.le;have K:ad T1 10=s:=(t.at_ 10 zU).trans (zV (aB hl d));obtain ⟨w,hr,o⟩:=Al (hs.mono f.sub) hj;have n:=SlV.idx1 hs .i64 j hj;simp only [jL,hl] at b;refine zW (cn b K E n o) ?_;refine AnsH.eq (su C zF (hr.mono (zG x)) (hb _ (EL hj))) fun H2 c=>?_;obtain ⟨k2,_,_⟩:=zT H zK c;cases q:BH ls[j] with
   | false =>
    refine zW b ?_;exact ⟨by rw [Cl i hj (by simp [xK,q])],zK⟩
   | true =>
    refine zW (aB b hr.lenV) ?_;refine iteH.split (fun G=>?_) fun G=>?_
    ·refine zW b ?_;exact ⟨by rw [Cl i hj (by unfold xK; rw [q,decide_eq_true zO]; rfl)],zK⟩
    ·refine zW b ?_;refine ⟨zK,fun k h F=>?_⟩;by_cases ek:k=j
     ·subst ek; unfold xK; rw [q,decide_eq_false zO]; rfl
     ·exact m k h zO
  ·intro T1 x b t f m;have w1:=f.wf;have J:=f.le;have t0:ad T1 0=s:=(t.at_ 0 zU).trans (zV (aB hl d));simp only [jL,hl] at b;refine zW (aC b t0 hs.lenV) ?_;refine aq H [] (fun j _ _=>∀ k (h:k<ls.length),k<j->ls[k].length=(ls[0]'zO).length) (a:=0) (N:=ls.length) rfl (by refine zW b ?_; rfl) (zV b) (WG _) zO (by simp only [jL,b]; rfl) rfl (fun _ _ _ _ h=>h) zK (fun k _ h=>by omega) ?_ ?_
   ·intro j T2 H2 _ hj g y u c p;have w2:=c.wf;have O:=c.le;have l:0<ls.length:=zO;have t25:ad T2 25=s:=(u.at_ 25 zU).trans (zV (aB b t0));have D:ad T2 0=s:=(u.at_ 0 zU).trans (zV (aB b t0));obtain ⟨w,hr,o⟩:=Al (hs.mono c.sub) hj;obtain ⟨w0,B,A⟩:=Al (hs.mono c.sub) l;have n:=SlV.idx1 hs .i64 j hj;have z:cG 1 s (.int .i64 0)=some (az s 0):=SlV.idx1 hs .i64 0 l;simp only [jL,b] at g;by_cases he:ls[j].length=(ls[0]'l).length
    ·have I:lenV w=some (.int .i64 ((ls[0]'l).length:Int)):=by rw [hr.lenV,he]
     refine zW (pD g t25 D y n o z A I B.lenV) ?_;refine ⟨zK,fun k h F=>?_⟩;by_cases ek:k=j
     ·subst ek; exact he
     ·exact p k h zO
    ·refine zW (mo g t25 D y n o z A hr.lenV B.lenV he) ?_;exact ⟨by rw [HF i (fun k h=>m k h h) hj he],zK⟩
   ·intro T2 H2 g u c p;simp only [jL,b] at g;refine zW g ?_;exact ⟨by rw [wO i (fun k h=>m k h h) fun k h=>p k h h],zK⟩
def Ag {ty:Nat} {ls:List (List Int)} (hs:pC (Vt intE aa) ty H s ls):pC (Vt rawE aa) ty H s (ls.map fun r=>r.map fd):=by
 obtain ⟨cells,hr,c,hc,ha⟩:=hs;refine ⟨cells,hr,c,by rw [hc,Nj]; rfl,fun i a hi=>?_⟩;rw [Xq] at hi;cases b:ls[i]? with
 | none=>rw [b] at hi; cases hi
 | some z =>
  rw [b] at hi; cases hi;obtain ⟨w,h1,h2⟩:=ha i z b;exact ⟨w,h1,SlV.raw h2⟩
def uX {r:List Int} (c:r.length<=64) (b:∀ z∈r,fm z):xI (r.map fd):=by
 refine ⟨by rw [Nj]; omega,fun z h=>?_⟩;rw [DT] at h;obtain ⟨a,ha,rfl⟩:=h
 have:=b a ha
 unfold fm Sm at this;show (ah a.natAbs).length<_;omega
def DK {r:List Int} (a:r.length<=64):BH (r.map fd)=true:=by
 simp only [BH,Nj,List.any_map,W6,decide_eq_true_eq,XA,XV];exact ⟨a,fun z _=>by simp [GR]⟩
structure xP (d:Nat) (ls:List (List Int)):Prop where
 pos:0<d
 le:d<=64
 len:∀ r∈ls,r.length=d
 sm:∀ r∈ls,∀ z∈r,fm z
def kV (C:Code tab) (g:Wf H) {d:Nat} {ls:List (List Int)} {ty:Nat} (hs:d9 H s ls) (f:ls.length<=1024) (b:xP d ls) :
  Ans tab (.fn mr [s]) H fun v H'=>v=.int .i64 0/\Kp H H':=by
 have h:=ui C g (Ag hs) (by rw [Nj]; omega) fun r hr=>by
  rw [DT] at hr;obtain ⟨a,ha,rfl⟩:=hr;exact uX (by rw [b.len a ha]; exact b.le) (b.sm a ha)
 have e:cF (ls.map fun r=>r.map fd)=0:=by
  refine wO (by rw [Nj]; exact f) (fun k c=>?_) fun k c=>?_
  ·rw [Nj] at c;have hm:=EL c;simp only [Zn];unfold xK;rw [DK (by rw [b.len _ hm]; exact b.le),decide_eq_false (by rw [Nj,b.len _ hm]; have:=b.pos; omega)];rfl
  ·rw [Nj] at c;simp only [Zn,Nj];rw [b.len _ (EL c),b.len _ (EL zO)]
 rw [e] at h;exact h
def Fy (C:Code tab) (j:Wf H) {a b:Nat}:Ans tab (.fn oG [.int .i64 (a:Int),.int .i64 (b:Int)]) H fun v H'=>v=.bool (Lin.before a b)/\Kp H H':=by
 refine bE C.q165 zU fun T hl c d=>?_;by_cases h1:a=b
 ·subst h1;refine zW (aC hl c d) ?_;exact ⟨by simp [Lin.before],zK⟩
 ·have e:¬ (a:Int)=(b:Int):=zO;by_cases h2:a=0
  ·have g:(a:Int)=0:=zO;have h4:¬ (0:Int)=(b:Int):=zO;have h5:¬ 0=b:=zO;refine zW (lp hl c d e h1 g h4 h5) ?_;exact ⟨by simp [Lin.before,h2],zK⟩
  ·have f:¬ (a:Int)=0:=zO;by_cases h3:b=0
   ·have i:(b:Int)=0:=zO;refine zW (lp hl c d e f i h1 h2) ?_;exact ⟨by simp [Lin.before,h2,h3],zK⟩
   ·have h:¬ (b:Int)=0:=zO;refine zW (lh hl c d e f h h1 h2 h3) ?_;exact ⟨by unfold Lin.before; rw [show (a != b)=true from by simpa using h1,show (a != 0)=true from by simpa using h2,show (b == 0)=false from by simpa using h3]; rfl,zK⟩
def Fx (C:Code tab) (b:Wf H) {d:Nat} :
  Ans tab (.fn oE [.int .i64 (d:Int)]) H fun v H'=>v=.fn (.func ft) [] [.ptr H.next 0]/\H'.get H.next=some (.cells [.int .i64 (d:Int)] aL true)/\H.next+1<=H'.next/\Kp H H':=by
 refine cz C.q169 zU fun T hl a=>?_;refine zW (aB hl a) ?_;exact ⟨zO,zK⟩
def La {d k:Nat} (a:k+1<d):(Lin.places d)[k]? = some (k+1):=by
 unfold Lin.places;rw [W4 (by simp; omega),List.getElem?_range' zO];congr 1; omega
def FI {d:Nat} (hd:0<d):(Lin.places d)[d-1]? = some 0:=by
 unfold Lin.places;rw [Xm (by simp),if_neg zO]
 simp
def HO (C:Code tab) {H0:Heap} {t b d:Nat} (hd:d<1099511627776) (J:Nat->Heap->Prop) (R:Heap->Prop) (B:Kp H0 H) (h0:J 0 H) (j:∀ k H m,J k H->J k (H.up m)) (A:∀ H m,R H->R (H.up m))
  (hA:∀ k H,J k H->H.get b=some (.cells [.int .i64 (d:Int)] aL true))
  (hr:∀ (k p:Nat) H,(Lin.places d)[k]? = some p->Kp H0 H->J k H->Ans tab (.round t [.int .i64 (p:Int)]) H fun v H'=>Kp H0 H'/\((v=.bool true/\J (k+1) H')\/(v=.bool false/\R H'))) :
  Ans tab (.ent ft [.loopv t,.ptr b 0]) H fun _ H'=>Kp H0 H'/\(J d H'\/R H'):=by
 refine ST C.q179 zU fun T hl l n=>?_;refine zW (aC hl l n) ?_;refine bk H0 [3] (fun m vs H'=>∃ i:Nat,vs=[.int .i64 (i:Int)]/\1<=i/\i<=d+1/\(0<d->i<=d)/\(d=0->i=1)/\m=d+1-i/\J (i-1) H') d (by simp only [jL]; exact hl) rfl zK ⟨1,by refine zW (aC hl l n) ?_; rfl,Jv _,zO,fun h=>h,fun _=>rfl,zO,j _ _ _ h0⟩ ?_;rintro k T1 z a w u ⟨i,q,s,D,x,y,hm,o⟩;have w1:=u.wf;have E:=u.le;simp only [SA,WF,Ud,and_true] at q;have t0:ad T1 0=.loopv t:=(w.at_ 0 zU).trans (zV (aB hl l));have t1:ad T1 1=.ptr b 0:=(w.at_ 1 zU).trans (zV (aZ hl l n n));have hb:=hA _ _ o;refine zW (cn a q t0 t1 hb) ?_;refine iteH.split (fun h=>?_) fun h=>?_
 ·have hi:i<d:=zO;have hp:(Lin.places d)[i-1]? = some i:=by have:=La (d:=d) (k:=i-1) zO; rwa [Nat.sub_add_cancel s] at this
  refine zW (aZ a q t0 t1) ?_;refine AnsH.use (hr (i-1) i _ hp zK (j _ _ _ o)) ?_;rintro v H2 ⟨c,⟨rfl,f⟩ | ⟨rfl,r⟩⟩
  ·rw [Nat.sub_add_cancel s] at f;have e:IntKind.i64.wrap ((i:Int)+1)=((i+1:Nat):Int):=by rw [wrap_i64] <;> omega
   have w2:=c.wf;have F:=c.le;refine zW (aC a q e) ?_;exact ⟨zK,d-i,zO,i+1,rfl,zO,zO,fun _=>hi,fun h=>by omega,zO,by simpa using j _ _ _ f⟩
  ·have w2:=c.wf;refine zW a ?_;exact ⟨zK,.inr r⟩
 ·have hi:¬ i<d:=zO;refine zW (aZ a t0 t1 hb) ?_;refine iteH.split (fun h=>?_) fun h=>?_
  ·have g:0<d:=zO;have e:i=d:=by have:=x g; omega
   subst e;refine zW (aB a t0) ?_;refine AnsH.use (hr (i-1) 0 _ (FI g) zK (j _ _ _ o)) ?_;rintro v H2 ⟨c,⟨rfl,f⟩ | ⟨rfl,r⟩⟩
   ·rw [Nat.sub_add_cancel s] at f;refine zW a ?_;exact ⟨c,.inl f⟩
   ·refine zW a ?_;exact ⟨c,.inr r⟩
  ·have g:d=0:=zO;have e:=y g;subst e;refine zW a ?_;refine ⟨zK,.inl ?_⟩;rw [g];exact j _ _ _ o
theorem NE (b:Nat) (T T':Tm) (ps:List Nat) (a body:ACode) (Q:AV->Heap->Prop) (H2:Heap):Sp b T ps a body Q .ret T' H2=(H2.get b=some (.loop T ps a body .busy none)/\Q (.bool false) (H2.put b (.loop T ps a body .done (some .ret)))):=rfl
def JR {α:Type} {p:α->Bool}:∀ {l:List α} {k:Nat} {x:α},l[k]? = some x->(∀ i y,i<k->l[i]? = some y->p y=false)->p x=true->l.find? p=some x
 | [],k,x,h,_,_=>by simp at h
 | a :: l,0,x,h,_,hp=>by
  simp at h; subst h; simp [hp]
 | a :: l,k+1,x,h,h0,hp=>by
  rw [List.find?_cons_of_neg (by rw [h0 0 a zO rfl]; simp)];exact JR (by simpa using h) (fun i y hi hy=>h0 (i+1) y zO (by simpa using hy)) hp
end
def Sr (l:List Int):Int:=match Lin.pivot l with
 | some p=>(p:Int)
 | none=>-1
section
variable {tab:Nat->Option au} {H:Heap} {s:AV}
def r9 {l:List Int} {p:Nat} (hp:p<l.length):Lin.at_ l p=l[p]:=by simp [Lin.at_,hp]
def tZ (C:Code tab) (L:Wf H) {l:List Int} (hs:RowV H s l) (P:l.length<=64):Ans tab (.fn pQ [s]) H fun v H'=>v=.int .i64 (Sr l)/\Kp H H':=by
 have os:=hs.one;refine cz C.q149 zU fun T hl c=>?_;refine zW (aC hl c hs.lenV) ?_;refine AnsH.use (Fx C zF) ?_;rintro v H2 ⟨rfl,b0,I,q⟩;obtain ⟨k2,_,w2⟩:=zT H zK q;simp only [next_put,bL] at b0 I;have p0:=q.get (b:=H.next) (e:=.cells [s] af true) (cY);have p1:=q.get (b:=H.next+1) (e:=.cells [.int .i64 0] aL true) (cY);refine zW (aB hl c) ?_;refine pJ (fi:=ft) (args:=[.loopv H2.next,.ptr (H.next+5) 0]) (by refine zW (aB hl c) ?_; rfl) ?_
 generalize he:Ent.loop _ _ _ _ LoopState.ready none=e0
 generalize hd:Ent.loop _ _ _ _ LoopState.done (some ACode.ret)=A
 have u:Kp H ((H2.up 1).put H2.next e0):=zK;have V:=u.le;refine (HO C (H0:=H) (d:=l.length) zO (fun k H'=>H'.get H2.next=some e0/\H'.get H.next=some (.cells [s] af true)/\H'.get (H.next+1)=some (.cells [.int .i64 0] aL true)/\H'.get (H.next+5)=some (.cells [.int .i64 (l.length:Int)] aL true)/\(∀ i y,i<k->(Lin.places l.length)[i]? = some y->Lin.at_ l y=0))
  (fun H'=>∃ p:Nat,Lin.pivot l=some p/\H'.get H2.next=some A/\H'.get (H.next+1)=some (.cells [.int .i64 (p:Int)] aL true)) u ⟨by exact cY,by exact zV p0,by exact zV p1,by exact zV @b0,fun i y h=>by omega⟩ (fun _ _ _ h=>h) (fun _ _ h=>h) (fun k H' h=>h.2.2.2.1) ?_).mono ?_
 ·rintro k p O hp o ⟨a,m,f,t,n⟩;rw [<- he] at a;have w1:=o.wf;have U:=o.le;have hlt:=w1 _ _ a;have j:p<l.length:=Lin.mem_places.1 (WN hp);obtain ⟨w,hn,Q,R,r⟩:=jM hs j;have z:=(Ldd.of L r).put;have x:=bV o.sub r;have F:cG 2 s (.int .i64 (p:Int))=some (az s (p*2)):=SlV.idx hs .i64 p j;have D:BI 1 (az s (p*2))=some (az s (p*2+1)):=SlV.fa hs zO 1 (p*2);have G:=bZ (l[p]).natAbs;refine qp a rfl ?_;refine zW (pD hl c a m f F D z x hn.lenV) ?_;refine iteH.split (fun h=>?_) fun h=>?_
  ·have K:Lin.pivot l=some p:=by
    refine JR hp (fun i y hi hy=>by simp [n i y hi hy]) ?_;rw [r9 j]; simp; omega
   refine zW (fy hl c a m f @NE) ?_
   generalize Ent.loop _ _ _ _ LoopState.busy none=B
   rw [hd];exact ⟨zK,.inr ⟨p,K,by exact cY,by exact cY⟩⟩
  ·have M:Lin.at_ l p=0:=by rw [r9 j]; omega
   refine zW (fy hl c a m f @uU) ?_
   generalize Ent.loop _ _ _ _ LoopState.busy none=B
   rw [he];refine ⟨zK,.inl ⟨rfl,t,fun i y hi hy=>?_⟩⟩;by_cases e:i=k
   ·subst e;rw [hp] at hy; cases hy; exact M
   ·exact n i y zO hy
 ·rintro _ H' ⟨g,⟨a,m,f,t,n⟩ | ⟨p,hp,a,f⟩⟩
  ·refine .inl ⟨a,?_⟩;have w1:=g.wf;have N:=g.le;have W:=w1 _ _ f;have S:Kp H (H'.up 1):=g.up 1;refine zW (aC hl c f) ?_;have J:Lin.pivot l=none:=by
    unfold Lin.pivot;rw [List.find?_eq_none];intro y hy;obtain ⟨i,hi⟩:=Xe hy;have G:(Lin.places l.length).length=l.length:=by
     unfold Lin.places;rw [WM,List.length_range'];split <;> simp <;> omega
    have E:i<l.length:=by have:=(WI.1 hi).1; omega
    simp [n i y E hi]
   exact ⟨by unfold Sr; rw [J],zK⟩
  ·refine .inr (.inl ⟨a,?_⟩);have w1:=g.wf;have N:=g.le;refine zW (aC hl c f) ?_;exact ⟨by unfold Sr; rw [hp],zK⟩
def Ie {m n:Int} {e f g h:Nat} {x y:List Int} (hm:Bt g m) (hn:Bt h n) (hx:∀ z∈x,Bt e z) (hy:∀ z∈y,Bt f z):∀ z∈Lin.mix m x n y,Bt (max (g+e) (h+f)+1) z:=by
 intro z a;unfold Lin.mix at a;rw [List.mem_iff_getElem] at a;obtain ⟨i,hi,rfl⟩:=a;have h1:i<x.length:=by simp at hi; omega
 have h2:i<y.length:=by simp at hi; omega
 rw [List.getElem_zipWith];exact Bt.add (hm.mul (hx _ (EL h1))) (hn.mul (hy _ (EL h2)))
def FH {e:Nat} {x:List Int} (hx:∀ z∈x,Bt e z):∀ z∈Lin.prime x,Bt e z:=by
 intro z b;unfold Lin.prime at b;split at b
 ·exact hx z b
 ·rw [DT] at b;obtain ⟨a,ha,rfl⟩:=b;have h:=hx a ha;unfold Bt at *;refine XD ?_ h;rw [Int.natAbs_ediv_of_dvd (Lin.content_dvd ha)];exact Y4 _ _
def HC {e:Nat} {x:List Int} (hx:∀ z∈x,Bt e z):∀ z∈Lin.scl (-1) x,Bt e z:=by
 intro z b;unfold Lin.scl at b;rw [DT] at b;obtain ⟨a,ha,rfl⟩:=b
 have:=(hx a ha).neg
 rwa [show -a = -1*a by omega] at this
def Rh {e f p:Nat} {a u:List Int} (ha:∀ z∈a,Bt e z) (d:∀ z∈u,Bt f z):∀ z∈Lin.wo a u p,Bt (e+f+1) z:=by
 intro z c;unfold Lin.wo at c;split at c
 ·exact (ha z c).mono zO
 ·have hm:Bt f (Lin.at_ u p):=by
   unfold Lin.at_; rw [qf];cases h:u[p]? with
   | none=>exact Bt.zero f
   | some b=>exact d b (WN h)
  have hn:Bt e (-(Lin.at_ a p)):=by
   refine Bt.neg ?_;unfold Lin.at_; rw [qf];cases h:a[p]? with
   | none=>exact Bt.zero e
   | some b=>exact ha b (WN h)
  exact (FH (Ie hm hn ha d) z c).mono zO
def uT (C:Code tab) (E:Wf H) {va J:AV} {x u:List Int} {p e f:Nat} (ha:RowV H va x) (hb:RowV H J u) (F:x.length=u.length) (y:x.length<=64) (hp:p<x.length) (hx:∀ z∈x,Bt e z) (i:∀ z∈u,Bt f z) (he:e+f+1<=8796093022208) :
  Ans tab (.fn ng [va,J,.int .i64 (p:Int)]) H fun v H'=>RowV H' v (Lin.wo x u p)/\Kp H H':=by
 refine mz C.q150 zU fun T hl c d g=>?_;have k:p<u.length:=zO;obtain ⟨w,hn,R,-,N⟩:=jM ha hp;have B:cG 2 va (.int .i64 (p:Int))=some (az va (p*2)):=SlV.idx ha .i64 p hp;have O:BI 1 (az va (p*2))=some (az va (p*2+1)):=SlV.fa ha zO 1 (p*2);have X:=bZ (x[p]).natAbs;refine zW (lp hl c d g B O N hn.lenV) ?_;refine iteH.split (fun h=>?_) fun h=>?_
 ·have a:Lin.at_ x p=0:=by rw [r9 hp]; omega
  refine zW (aB hl c) ?_;refine ⟨?_,zK⟩;unfold Lin.wo;rw [if_pos a];exact ha.mono (zG H)
 ·have a:¬ Lin.at_ x p=0:=by rw [r9 hp]; omega
  refine zW (fy hl c d g B R) ?_;refine AnsH.use (Cc C zF ⟨w,rfl,hn.mono (zG H)⟩ ((hx _ (EL hp)).sm zO)) ?_;rintro v H2 ⟨r,rfl,hr,j⟩;obtain ⟨k2,_,w2⟩:=zT H zK j;obtain ⟨I,rfl,D⟩:=hr;have ab:=D.one;obtain ⟨W,S,L,A⟩:=nQ E hb k;have s:=L.put;have q:=(L.mono k2).ld;have Z:H.next+19<=H2.next:=j.le
  have t:H2.get (H.next+16)=none:=j.free (show _<H.next+19 by omega) (E.fresh (b:=H.next+16) zO);have s2:∀ m,Sub H2 (((H2.up m).put (H.next+16) (.cells [.bool false,.nilSl] aa true)).put (H.next+16) (.cells [.bool (decide (-x[p]<0)),I] aa true)):=fun m=>(Sub.bump H2 m).trans ((aH (H:=H2.up m) t).put t _);refine zW (aZ hl c d g) ?_;refine aJ ?_;refine zD (lp hl c d g A s q @aS) ?_;have l:=i _ (EL k);have o:=hx _ (EL hp);refine AnsH.use (I6 C (m:=u[p]) (n:=-x[p]) zF ⟨W,rfl,S.mono (zG H)⟩ ⟨I,rfl,D.mono (s2 _)⟩ (ha.mono (zG H)) (hb.mono (zG H)) F y (l.len zO) (o.neg.len zO) (fun z a=>⟨(hx z a).len zO,(l.mul (hx z a)).sm zO⟩) (fun z a=>⟨(i z a).len zO,(o.neg.mul (i z a)).sm zO⟩)) ?_;rintro v3 K ⟨r3,rfl,U,P⟩;obtain ⟨Y,_,w3⟩:=zT H zK P;refine zD (lp hl c d g A s q @aS) ?_;refine AnsH.use (wF C zF (U.mono (zG K)) (by rw [Lin.mix_length rfl F.symm]; exact y) (fun z a=>(Ie l o.neg hx i z a).sm zO)) ?_;rintro v4 M ⟨r4,rfl,V,Q⟩;obtain ⟨G,_,_⟩:=zT H zK Q;simp only [jl,kK,jk,mI,XS,Yn,sY,qq,List.getLastD_cons,List.getLastD_nil,Y5,Yl];refine zW (aZ hl c d g) ?_;refine ⟨?_,zK⟩;unfold Lin.wo;rw [if_neg a,r9 hp,r9 k];exact V.mono (Kp.sub (H:=M) (Kp.trans (Kp.refl G.wf) ((Kp.refl G.wf).up _)))
end
def Sj (tab:Nat->Option au) (rd:Bool) (b:ACode) (Q:Ex->Tm->Heap->Prop) (x:Ex) (T:Tm) (H:Heap):Prop:=match x with
 | .nrm=>WB tab rd b T H Q
 | x=>Q x T H
def SV (R:Tm->Heap->Prop) (Q:Ex->Tm->Heap->Prop) (x:Ex) (T:Tm) (H:Heap):Prop:=match x with
 | .nrm=>R T H
 | x=>Q x T H
section
variable {tab:Nat->Option au} {rd:Bool} {a b:ACode} {T:Tm} {H:Heap} {Q:Ex->Tm->Heap->Prop} {R:Tm->Heap->Prop}
theorem aD:Sj tab rd b Q .nrm T H=WB tab rd b T H Q:=rfl
theorem qU:Sj tab rd b Q .ret T H=Q .ret T H:=rfl
theorem aV:SV R Q .nrm T H=R T H:=rfl
theorem pt:SV R Q .ret T H=Q .ret T H:=rfl
def bf (h:WC tab rd a T H (Sj tab rd b Q)):WB tab rd (.seq a b) T H Q:=zr (h.wb.mono fun x T' H' h=>by cases x <;> exact h)
def cZ (R:Tm->Heap->Prop) (hp:jf a=true) (h:WC tab rd a T H (SV R Q)) (hb:∀ T' H',Same (gh a) T T'->R T' H'->WB tab rd b T' H' Q):WB tab rd (.seq a b) T H Q :=
 zr ((h.wb.same hp).mono fun x T' H' ⟨hs,h⟩=>by
  cases x with
  | nrm=>exact hb T' H' hs h
  | exit e=>exact h
  | goto l=>exact h
  | ret=>exact h)
def B0 {f:Nat} {fn:au} {args:List AV} {Q:AV->Heap->Prop} (a:tab f=some fn) (he:fn.ext=none) (hl:args.length=fn.nparams) (hn:fn.nparams<=fn.ntmps)
  (h:∀ T0:Tm,T0.length=fn.ntmps->(∀ i,i<args.length->ad T0 i=args.getD i .undef)->WB tab false fn.body T0 H (wP fn.results Q)):Ans tab (.fn f args) H Q:=by
 obtain ⟨x,T',H',⟨N,g⟩,hx,v,b,hq⟩:=h (args++List.replicate (fn.ntmps-args.length) .undef) (by simp; omega) fun i hi=>by
  unfold ad;rw [qf,qf,W4 hi]
 refine ⟨v,H',⟨N+1,fun m n hm hn=>?_⟩,hq⟩;obtain ⟨n',rfl⟩:∃ n',n=n'+1:=⟨n-1,zO⟩
 show kh tab fe (mp tab fe m n') m (.fn f args) H=_;simp only [kh,a,he,Ae,if_pos hl];rw [g m n' zO zO];rcases hx with rfl | rfl <;> simp [b]
end
def Cells.set1 {α:Type} {e:Rf α} {H:Heap} {cells:List AV} {l:List α} (h:Cells (bz e) H cells l) {i:Nat} {a:α} {v:AV} (hi:i<l.length) (hr:e.R H v a):Cells (bz e) H (cells.set i v) (l.set i a):=by
 have hc:i<cells.length:=by have:=h.1; simp [bz] at this; omega
 have h2:cells.take (i*1)++[v]++cells.drop (i*1+1)=cells.set i v:=by rw [XP,YL,if_pos hc]; simp
 have this:Cells (bz e) H (cells.take (i*1)++[v]++cells.drop (i*1+1)) (l.set i a):=Cells.set h hi ⟨v,rfl,hr⟩;rw [h2] at this;exact this
def Cells.at1 {α:Type} {e:Rf α} {H:Heap} {cells:List AV} {l:List α} (h:Cells (bz e) H cells l) {i:Nat} (hi:i<l.length):∃ v,bN cells i none=some v/\e.R H v l[i]:=by
 obtain ⟨v,h1,h2⟩:=h.2 i _ (zh hi);have hc:i<cells.length:=by have:=h.1; simp [bz] at this; omega
 refine ⟨v,?_,h2⟩;have a:(cells.drop (i*1)).take 1=[v]:=h1;rw [XP] at a;have h3:((cells.drop i).take 1)[0]? = some v:=by rw [a]; rfl
 rw [List.getElem?_take_of_lt zO,WX] at h3
 simpa [bN] using h3
section
variable {tab:Nat->Option au} {H:Heap} {s:AV}
def ot (F:List (List Int)) (x:List Int) (k:Nat):List Int:=(F.take k).foldl (fun a r=>Lin.wo a r (Lin.pv r)) (Lin.prime x)
def qY {F:List (List Int)} {x:List Int} {k:Nat} (a:k<F.length):ot F x (k+1)=Lin.wo (ot F x k) F[k] (Lin.pv F[k]):=by
 unfold ot;rw [TY a,Zx]; rfl
def kJ (F:List (List Int)) (x:List Int):ot F x F.length=Lin.restF F x:=by
 unfold ot Lin.restF;rw [WZ]
def pH {d:Nat} {F:List (List Int)} {x:List Int} (hx:x.length=d) (a:∀ r∈F,r.length=d):∀ k,k<=F.length->(ot F x k).length=d
 | 0,_=>by unfold ot; simp [Lin.prime_length,hx]
 | k+1,h=>by
  rw [qY zO];exact Lin.wo_length (pH hx a k zO) (a _ (EL zO))
def oZ {e f:Nat} {F:List (List Int)} {x:List Int} (hx:∀ z∈x,Bt e z) (b:∀ r∈F,∀ z∈r,Bt f z):∀ k,k<=F.length->∀ z∈ot F x k,Bt (e+k*(f+1)) z
 | 0,_=>by
  intro z a;unfold ot at a;exact (FH hx z (by simpa using a)).mono zO
 | k+1,h=>by
  rw [qY zO];intro z a;refine (Rh (oZ hx b k zO) (b _ (EL zO)) z a).mono ?_;rw [Yk]; omega
def HK {r:List Int} {p:Nat} (h:Lin.pivot r=some p):Sr r=(p:Int):=by unfold Sr; rw [h]
def xv (C:Code tab) (hw:Wf H) {fb:Nat} {q va:AV} {F:List (List Int)} {x:List Int} {d e f:Nat} (B:H.get fb=some (.cells [q] eP true)) (hq:d9 H q F) (ha:RowV H va x) (hx:x.length=d) (W:d<=64) (X:F.length<=64)
  (p:∀ r∈F,r.length=d/\Lin.pivot r=some (Lin.pv r)/\∀ z∈r,Bt f z) (y:∀ z∈x,Bt e z) (hb:e+65*(f+1)<=8796093022208) :
  Ans tab (.fn jg [.ptr fb 0,va]) H fun v H'=>RowV H' v (Lin.restF F x)/\Kp H H':=by
 refine bE C.q123 zU fun T hl i k=>?_;refine zW (aC hl i k) ?_;refine AnsH.use (wF C zF (ha.mono (zG H)) zO fun z Q=>(y z Q).sm zO) ?_;rintro v H2 ⟨r2,rfl,O,I⟩;obtain ⟨k2,_,w2⟩:=zT H zK I;have D:=k2.get B;refine zW (cn hl i k D hq.lenV) ?_;refine aq H [1] (fun j vs H'=>∃ v,vs=[v]/\RowV H' v (ot F x j)) (a:=0) (N:=F.length) rfl (by refine zW (aC hl i k) ?_; rfl) (zV (aC hl i k)) (WG _) zO (by simp only [jL,hl]; rfl) rfl (fun j vs H' m ⟨c,h1,h2⟩=>⟨c,h1,h2.mono (Sub.bump H' m)⟩) zK ⟨r2,by exact zV (aC hl i k),by exact O.mono (Sub.bump H2 _)⟩ ?_ ?_
 ·rintro j T1 n _ hj g E u b ⟨vr,l,hr⟩;have w1:=b.wf;have S:=b.le;simp only [SA,WF,Ud,and_true] at l;have U:ad T1 15=q:=(u.at_ 15 zU).trans (zV (aC hl i k));obtain ⟨w,t,L⟩:=dE (hq.mono b.sub) hj;have G:=SlV.idx1 hq .i64 j hj;have o:=p _ (EL hj);simp only [jL,hl] at g;refine zW (fy g U E G L l) ?_;refine AnsH.eq (tZ C zF (t.mono (zG n)) zO) fun V J=>?_;obtain ⟨s,_,w3⟩:=zT n zK J;rw [HK o.2.1];have M:=pH hx (fun r h=>(p r h).1) j zO;have Z:Lin.pv F[j]<d:=by have:=(Lin.pivot_some.1 o.2.1).1; omega
  have Y:j*(f+1)<=63*(f+1):=WJ _ zO;refine zW (aB g l) ?_;refine AnsH.use (uT C zF (hr.mono s.sub) (t.mono s.sub) (M.trans o.1.symm) zO zO (oZ y (fun r h=>(p r h).2.2) j zO) o.2.2 zO) ?_;rintro v4 A ⟨P,K⟩;have R:Kp H A:=Kp.trans (Kp.trans b s) K;have aa:=R.le;refine zW g ?_;refine ⟨zK,_,rfl,?_⟩;rw [qY hj];exact P
 ·rintro T1 n g u b ⟨vr,l,hr⟩;have w1:=b.wf;have S:=b.le;simp only [SA,WF,Ud,and_true] at l;simp only [jL,hl] at g;rw [kJ] at hr;refine zW (aB g l) ?_;exact ⟨hr.mono (Sub.bump n _),zK⟩
abbrev rowsE:gr (List Int):=bz (Vt intE aa)
def G8 (C:Code tab) {H0:Heap} {q va:AV} {F:List (List Int)} {x:List Int} {k a:Nat} (d:Kp H0 H) (hq:Bl rowsE af H0 H q F) (g:k<=F.length) (i:H.get a=some (.cells [va] af true)) (hx:RowV H va x) (hne:∀ n,q ≠ .own a 0 n n 1 false) (D:F.length<1099511627776) :
  Ans tab (.fn cA [q,.int .i64 (k:Int),.own a 0 1 1 1 true]) H fun v H'=>Kp H0 H'/\Bl rowsE af H0 H' v (F.take k++x :: F.drop k)/\(∀ b e,H.get b=some e->(∀ n,q ≠ .own b 0 n n 1 false)->H'.get b=some e)/\(∃ n,v=.own H.next 0 n n 1 false)/\H'.next=H.next+1:=by
 have f:=d.le;have m:=hx.one;have w:H.get H.next=none:=d.wf.fresh (Jv _)
 have j:aK H 1 1 (.own a 0 1 1 1 true)=some [va]:=by simp [aK,i]
 rcases hq with ⟨rfl,rfl⟩ | ⟨b,cells,rfl,hb,hcl,p⟩
 ·have y:k=0:=by simpa using g
  subst y;have hs:Sub H (({ H with next:=H.next+1 }:Heap).put H.next (.cells [va] af true)):=(Sub.bump H 1).put w _;refine zk C.q166 rfl rfl (v:=.own H.next 0 1 1 1 false) (H':=({ H with next:=H.next+1 }:Heap).put H.next (.cells [va] af true)) ?_ ⟨(d.up 1).put f (by show _<H.next+1; omega),.inr ⟨H.next,[va],rfl,am _ _ _,?_,f⟩,fun c e hc _=>hs.get _ _ hc,⟨1,rfl⟩,rfl⟩
  ·show vL H (.insert 1 24 af) [.nilSl,.int .i64 (.ofNat 0),.own a 0 1 1 1 true]=_;simp [vL,j,m.2]
  ·exact Cells.one (E:=rowsE) ⟨va,rfl,hx.mono hs⟩
 ·have hl:(F.take k++x :: F.drop k).length=F.length+1:=by simp; omega
  have s:b≠a:=fun e=>hne F.length (by rw [e]; rfl);have hlt:=d.wf _ _ hb;have B:cells.length=F.length:=by have:=hcl.1; simpa [bz] using this
  have l:∀ c e,H.get c=some e->c≠b->((({ H with next:=H.next+1 }:Heap).kill b).put H.next (.cells (cells.take (k*1)++[va]++cells.drop (k*1)) af true)).get c=some e:=fun c e hc u=>by
   have:=d.wf _ _ hc
   rw [aw zO,cH u]; exact hc
  have hs:SubT (Vt intE aa).tys H ((({ H with next:=H.next+1 }:Heap).kill b).put H.next (.cells (cells.take (k*1)++[va]++cells.drop (k*1)) af true)):=fun c cs t r A hc=>l c _ hc fun e=>by
   subst e;rw [hb] at hc; cases hc
   revert A; decide
  refine zk C.q166 rfl rfl (v:=.own H.next 0 (F.length+1) (F.length+1) 1 false) (H':=(({ H with next:=H.next+1 }:Heap).kill b).put H.next (.cells (cells.take (k*1)++[va]++cells.drop (k*1)) af true)) ?_ ⟨((d.up 1).kill p).put f (by show _<H.next+1; omega),.inr ⟨H.next,_,by rw [hl]; rfl,am _ _ _,?_,f⟩,fun c e hc h=>l c e hc fun o=>h F.length (by rw [o]; rfl),⟨_,rfl⟩,rfl⟩
  ·show vL H (.insert 1 24 af) [.own b 0 F.length F.length 1 false,.int .i64 (.ofNat k),.own a 0 1 1 1 true]=_;have z:=hcl.ones;simp only [vL,j,hb,i];rw [if_pos ⟨trivial,trivial,s,zO,g,zO,zO,zO,trivial,by simp [m.2],z⟩]
  ·have h1:=(hcl.mono hs).take g;have h2:=(hcl.mono hs).drop k;have h3:Cells rowsE ((({ H with next:=H.next+1 }:Heap).kill b).put H.next (.cells (cells.take (k*1)++[va]++cells.drop (k*1)) af true)) [va] [x]:=Cells.one (E:=rowsE) ⟨va,rfl,SlV.monoT (E:=intE) hs hx⟩;have e:F.take k++[x]++F.drop k=F.take k++x :: F.drop k:=by simp
   rw [<- e];exact (h1.append h3).append h2
end
def kg (w:List Int->List Int) (F:List (List Int)) (j:Nat):List (List Int):=(F.take j).map w++F.drop j
def zQ (w:List Int->List Int) (F:List (List Int)):kg w F 0=F:=by simp [kg]
def sB (w:List Int->List Int) (F:List (List Int)) {j:Nat} (h:j<=F.length):(kg w F j).length=F.length:=by simp [kg]; omega
def Ch (w:List Int->List Int) (F:List (List Int)):kg w F F.length=F.map w:=by simp [kg]
def Cg (w:List Int->List Int) (F:List (List Int)) {j:Nat} (h:j<F.length):(kg w F j)[j]? = some F[j]:=by
 unfold kg;rw [Xm (by simp; omega)];have e:j-((F.take j).map w).length=0:=by simp; omega
 rw [e,WX];simp [h]
def Cf (w:List Int->List Int) (F:List (List Int)) {j:Nat} (h:j<F.length):(kg w F j).set j (w F[j])=kg w F (j+1):=by
 apply Yg
 intro i;rw [YP];have hl:=sB w F (Yx h);by_cases e:j=i
 ·subst e;rw [if_pos rfl,if_pos zO];unfold kg;rw [W4 (by simp; omega)];simp [h]
 ·rw [if_neg e];unfold kg;by_cases hi:i<j
  ·rw [W4 (by simp; omega),W4 (by simp; omega)];simp [hi,show i<j+1 by omega]
  ·rw [Xm (by simp; omega),Xm (by simp; omega),WX,WX];congr 1
   simp; omega
def JL {x:List Int} {p:Nat}:∀ {F:List (List Int)} {k:Nat},k<=F.length->(∀ i (h:i<F.length),i<k->Lin.before (Lin.pv F[i]) p=true)->(∀ h:k<F.length,Lin.before (Lin.pv F[k]) p=false)->Lin.insP x p F=F.take k++x :: F.drop k
 | [],k,a,_,_=>by
  have:k=0:=by simpa using a
  subst this; rfl
 | r :: F,0,_,_,h1=>by
  have:=h1 (by simp)
  simp only [Z1] at this;simp [Lin.insP,this]
 | r :: F,k+1,a,h0,h1=>by
  have h2:=h0 0 (by simp) zO;simp only [Z1] at h2;have b:=JL (x:=x) (p:=p) (F:=F) (k:=k) (by simpa using a) (fun i h hi=>by have:=h0 (i+1) (by simpa using h) zO; simpa using this) (fun h=>by have:=h1 (by simpa using h); simpa using this);simp [Lin.insP,h2,b]
def G7:MuI (-1):=by
 have:=bu (n:=1) (k:=1) zU
 unfold MuI;show (ah 1).length<_;omega
section
variable {tab:Nat->Option au} {H:Heap} {s:AV}
def Oy (C:Code tab) {H0:Heap} {fb:Nat} {q va:AV} {F:List (List Int)} {x:List Int} {d e f:Nat} (hk:Kp H0 H) (cc:H0.next<=fb) (av:H.get fb=some (.cells [q] eP true)) (hq:Bl rowsE af H0 H q F) (ha:RowV H va x) (hx:x.length=d) (bp:d<=64) (hE:Lin.Ech d F) (a2:F.length<=64)
  (bq:∀ r∈F,∀ z∈r,Bt f z) (bc:∀ z∈x,Bt e z) (hb:e+66*(f+1)<=8796093022208) :
  Ans tab (.fn gM [.ptr fb 0,va]) H fun v H'=>v=.tup []/\Kp H0 H'/\∃ q',H'.get fb=some (.cells [q'] eP true)/\Bl rowsE af H0 H' q' (Lin.putF F x):=by
 have hw:=hk.wf;have hF:∀ r∈F,r.length=d/\Lin.pivot r=some (Lin.pv r)/\∀ z∈r,Bt f z:=fun r hr=>⟨hE.len r hr,(hE.pos hr).1,bq r hr⟩
 have bW:(Lin.restF F x).length=d:=by rw [<- kJ]; exact pH hx (fun r h=>(hF r h).1) _ (Jv _)
 have cd:F.length*(f+1)<=64*(f+1):=WJ _ a2;have aL:∀ z∈Lin.restF F x,Bt (e+64*(f+1)) z:=fun z hz=>by
  rw [<- kJ] at hz;exact (oZ bc (fun r h=>(hF r h).2.2) _ (Jv _) z hz).mono zO
 refine B0 C.q147 rfl rfl zU fun T hl g=>?_;have hl:T.length=79:=hl;have a7:c_P_rows_form_put.results=[]:=rfl;have l:ad T 0=.ptr fb 0:=g 0 (by simp);have o:ad T 1=va:=g 1 (by simp);refine bf ?_;refine zW (aZ hl l o @aD) ?_;refine AnsH.use (xv C (H:=H.up 4) zF av (hq.sl.mono (Sub.bump H 4)) (ha.mono (Sub.bump H 4)) hx bp a2 hF bc zO) ?_;rintro v H2 ⟨a5,bD⟩;obtain ⟨k2,_,w2⟩:=zT H zK bD;refine zW (aZ hl l o @aD) ?_;refine bf ?_;refine zW (aZ hl l o @aD) ?_;refine AnsH.eq (tZ C zF (a5.mono (zG H2)) zO) fun U aX=>?_;have k3:Kp H U:=Kp.trans k2 (Kp.trans zK aX);have cr:=k3.le;have w3:=k3.wf;have Z:RowV U v (Lin.restF F x):=a5.mono (Kp.sub (H:=H2) (Kp.trans zK aX));cases P:Lin.pivot (Lin.restF F x) with
 | none =>
  have e1:Sr (Lin.restF F x) = -1:=by unfold Sr; rw [P]
  rw [e1];refine zW (aZ hl l o @aD) ?_;refine bf ?_;refine zW (fy hl l o @aD @qU a7) ?_;have e2:Lin.putF F x=F:=by unfold Lin.putF; rw [P]
  rw [e2];have b1:Kp H0 U:=hk.trans k3;have co:=b1.le;exact ⟨zK,q,k3.get av,hq.mono (zG H)⟩
 | some p =>
  rw [HK P];have hp:p<(Lin.restF F x).length:=(Lin.pivot_some.1 P).1;have cf:=(Lin.pivot_some.1 P).2.1;have bI:¬ (p:Int)<0:=zO;refine zW (aZ hl l o @aD) ?_;refine bf ?_;refine zW (fy hl l o @aD @qU bI) ?_;refine cZ (fun T' H'=>∃ u,ad T' 1=u/\RowV H' u (Lin.signed (Lin.restF F x) p)/\Kp H H') rfl ?_ ?_
  ·obtain ⟨w,hn,a3,bR,ca⟩:=jM Z hp;have M:cG 2 v (.int .i64 (p:Int))=some (az v (p*2)):=SlV.idx Z .i64 p hp;have bu:BI 0 (az v (p*2))=some (az v (p*2)):=SlV.fa Z zO 0 (p*2);refine zW (ip hl l o M bu bR @aV) ?_;refine iteH.split (fun h=>?_) fun h=>?_
   ·refine zW (aC hl l o) ?_;refine AnsH.use (qN C (n:=-1) zF zO zO) ?_;rintro v4 K ⟨bx,aY⟩;have I:Kp H K:=Kp.trans k3 (Kp.trans zK aY);have ct:=I.le;have w4:=I.wf;refine zW (aC hl l o) ?_;refine AnsH.use (Ky C zF (Z.mono (Kp.sub (H:=U) (Kp.trans zK aY))) bx zO (fun z hz=>(aL z hz).len zO) G7) ?_;rintro v5 L ⟨r5,rfl,bP,W⟩;have k5:Kp H L:=Kp.trans I W;have cu:=k5.le;refine zW (aZ hl l o @aV) ?_;refine ⟨_,rfl,?_,k5⟩;unfold Lin.signed;rw [if_pos (by rw [r9 hp]; exact h)];exact bP
   ·refine zW (aZ hl l o @aV) ?_;refine ⟨_,rfl,?_,zK⟩;unfold Lin.signed;rw [if_neg (by rw [r9 hp]; exact h)];exact Z.mono (Sub.bump U _)
  ·rintro T1 K aG ⟨u,ba,bO,I⟩;have w4:=I.wf;have b2:Kp H0 K:=hk.trans I;have cp:=b2.le;have t0:ad T1 0=.ptr fb 0:=(aG.at_ 0 zU).trans (zV (aC hl l o));have t4:ad T1 4=.int .i64 (p:Int):=(aG.at_ 4 zU).trans (zV (aC hl l o));have s:T1.length=79:=aG.len.trans (by simp only [jL]; exact hl);have aU:=I.get av;have a4:Bl rowsE af H0 K q F:=hq.mono I.sub;have bM:Lin.putF F x=Lin.insP (Lin.signed (Lin.restF F x) p) p (F.map fun r=>Lin.wo r (Lin.signed (Lin.restF F x) p) p):=by unfold Lin.putF; rw [P]
   have ao:=(Lin.put_ech hE hx).1;rw [bM] at ao ⊢;have bY:(Lin.signed (Lin.restF F x) p).length=d:=Lin.signed_length bW;have bV:∀ z∈Lin.signed (Lin.restF F x) p,Bt (e+64*(f+1)) z:=by
    unfold Lin.signed;split
    ·exact HC aL
    ·exact aL
   have aA:∀ r'∈F.map (fun r=>Lin.wo r (Lin.signed (Lin.restF F x) p) p),r'.length=d/\Lin.pivot r'=some (Lin.pv r'):=fun r' h=>by
    have hm:r'∈Lin.insP (Lin.signed (Lin.restF F x) p) p (F.map fun r=>Lin.wo r (Lin.signed (Lin.restF F x) p) p):=Lin.mem_insP.2 (.inr h);exact ⟨ao.len _ hm,(ao.pos hm).1⟩
   generalize Lin.signed (Lin.restF F x) p=y at *
   obtain ⟨w,bb⟩:∃ w:List Int->List Int,w=fun r=>Lin.wo r y p:=⟨_,rfl⟩
   rw [<- bb] at aA ⊢;have cg:p<d:=zO;refine WC.wb ?_;refine zW (cn s t0 t4 aU a4.sl.lenV) ?_;refine aq H0 [] (fun j _ H'=>H'.get fb=some (.cells [q] eP true)/\Bl rowsE af H0 H' q (kg w F j)/\RowV H' u y) (a:=0) (N:=F.length) rfl (by refine zW s ?_; rfl) (zV s) (WG _) zO (by simp only [jL,s]; rfl) rfl (fun j vs H' m ⟨h1,h2,h3⟩=>⟨h1,h2.mono (Sub.bump H' m),h3.mono (Sub.bump H' m)⟩) zK ⟨aU,by rw [zQ]; exact a4.mono (Sub.bump K _),bO.mono (Sub.bump K _)⟩ ?_ ?_
   ·rintro j T2 L _ hj ah aw aj W ⟨R,j2,j3⟩;have w5:=W.wf;have cj:=W.le;have aK:=sB w F (Yx hj);rcases j2 with ⟨-,bK⟩ | ⟨b,cells,aE,ag,hcl,br⟩
    ·exfalso
     rw [bK] at aK; simp at aK; omega
    rw [aK] at aE;have ax:j<(kg w F j).length:=zO;obtain ⟨vr,bT,ak⟩:=hcl.at1 ax;have bw:(kg w F j)[j]=F[j]:=by
     have:=Cg w F hj
     rw [zh ax] at this;exact Option.some.inj this
    rw [bw] at ak;have ak:RowV L vr F[j]:=ak;have aQ:=hF _ (EL hj);have cb:cells.length=F.length:=by have:=hcl.1; simp [bz] at this; omega
    have hne:fb≠b:=fun e=>by
     subst e;rw [R] at ag; injection ag with h; injection h with _ h2; exact absurd h2 zU
    have b6:ad T2 29=q:=(aj.at_ 29 zU).trans (zV s);have bh:ad T2 0=.ptr fb 0:=(aj.at_ 0 zU).trans (zV (aB s t0));have bj:ad T2 1=u:=(aj.at_ 1 zU).trans (zV (aB s ba));have bm:ad T2 4=.int .i64 (p:Int):=(aj.at_ 4 zU).trans (zV (aB s t4));have M:cG 1 q (.int .i64 (j:Int))=some (.ptr b j):=by
     have:=iB (b:=b) (off:=0) (c:=F.length) (sz:=1) (x:=false) (k:=.i64) hj
     rw [Xg,XP] at this;rw [aE]; exact this
    simp only [jL,s] at ah;refine zW (fy ah b6 aw M ag bT) ?_;refine aJ ?_;refine zD (fy ah bh bj bm aw R) ?_;refine AnsH.use (uT C zF (ak.mono (zG L)) (j3.mono (zG L)) (aQ.1.trans bY.symm) zO zO aQ.2.2 bV zO) ?_;rintro v6 V ⟨a6,bE⟩;obtain ⟨ab,_,_⟩:=zT L zK bE;have bd:Kp H0 V:=W.trans ab;have cq:=bd.le;have w6:=bd.wf;have ar:=ab.get ag;have ch:=w6 _ _ ar;have bZ:=ab.get R;have o6:=a6.one;have bA:j<cells.length:=zO;refine zD (pD ah bh bj bm aw R bZ M ar bA) ?_;have mb:NoTy (Vt intE aa).tys V b:=NoTy.ty ar zU;have bg:SubT (Vt intE aa).tys V (V.put b (.cells (cells.set j v6) af true)):=SubT.puts (SubT.refl _ _) mb;have bU:w F[j]=Lin.wo F[j] y p:=by rw [bb]
    have bt:Cells rowsE V cells (kg w F j):=hcl.mono (ab.sub.t _);refine ⟨zK,.inr ⟨b,_,?_,am _ _ _,?_,br⟩,SlV.monoT (E:=intE) bg (j3.mono ab.sub)⟩
    ·rw [sB w F zO]; exact aE
    ·rw [<- Cf w F hj,bU];exact Cells.mono (E:=rowsE) bg (bt.set1 ax a6)
   ·rintro T3 H7 G aI a0 ⟨R,j2,j3⟩;have w7:=a0.wf;have ck:=a0.le;rw [Ch] at j2;have aM:ad T3 0=.ptr fb 0:=(aI.at_ 0 zU).trans (zV (aB s t0));have bk:ad T3 1=u:=(aI.at_ 1 zU).trans (zV (aB s ba));have bn:ad T3 4=.int .i64 (p:Int):=(aI.at_ 4 zU).trans (zV (aB s t4));simp only [jL,s] at G;obtain ⟨F',aP⟩:∃ F',F'=F.map w:=⟨_,rfl⟩
    rw [<- aP] at j2 aA ⊢;have b9:F'.length=F.length:=by rw [aP]; simp
    refine zW (aZ G aM bk bn) ?_;refine mF H0 [7] (fun m vs H'=>∃ k:Nat,vs=[.int .i64 (k:Int)]/\k<=F'.length/\(∀ i (h:i<F'.length),i<k->Lin.before (Lin.pv F'[i]) p=true)/\m=F'.length-k/\H'.get fb=some (.cells [q] eP true)/\Bl rowsE af H0 H' q F'/\RowV H' u y)
     (fun vs H'=>∃ k:Nat,vs=[.int .i64 (k:Int)]/\k<=F'.length/\(∀ i (h:i<F'.length),i<k->Lin.before (Lin.pv F'[i]) p=true)/\(∀ h:k<F'.length,Lin.before (Lin.pv F'[k]) p=false)/\H'.get fb=some (.cells [q] eP true)/\Bl rowsE af H0 H' q F'/\RowV H' u y)
     F'.length (by simp only [jL,G]; rfl) rfl zK ⟨0,by refine zW G ?_; rfl,zO,fun i _ h=>by omega,zO,R,j2.mono (Sub.bump H7 _),j3.mono (Sub.bump H7 _)⟩ ?_ ?_
    ·rintro m T4 J Y a8 ay ⟨k,B,X,hbf,hm,D,t,Q⟩;have w8:=ay.wf;have cl:=ay.le;simp only [SA,WF,Ud,and_true] at B;have ae:ad T4 0=.ptr fb 0:=(a8.at_ 0 zU).trans (zV (aB G aM));have aN:ad T4 4=.int .i64 (p:Int):=(a8.at_ 4 zU).trans (zV (aB G bn));by_cases O:k<F'.length
     ·obtain ⟨wv,bQ,a3⟩:=dE t.sl O;have M:=SlV.idx1 t.sl .i64 k O;have bG:=aA _ (EL O);refine zW (lh Y B ae aN D t.sl.lenV O M a3) ?_;refine AnsH.eq (tZ C zF (bQ.mono (zG J)) zO) fun H9 bF=>?_;obtain ⟨b4,_,w9⟩:=zT J zK bF;rw [HK bG.2];refine zW (aZ Y B ae aN) ?_;refine AnsH.eq (Fy C zF) fun aO bC=>?_;have S:Kp J aO:=Kp.trans b4 bC;have cv:=S.le;have b0:Kp H0 aO:=ay.trans S;have cm:=b0.le;cases aS:Lin.before (Lin.pv F'[k]) p with
      | true =>
       have e:IntKind.i64.wrap ((k:Int)+1)=((k+1:Nat):Int):=by rw [wrap_i64] <;> omega
       refine zW (aC Y B e) ?_;refine ⟨zK,F'.length-(k+1),zO,k+1,rfl,zO,fun i h hi=>?_,rfl,S.get D,t.mono (zG J),Q.mono (zG J)⟩;by_cases ei:i=k
       ·subst ei; exact aS
       ·exact hbf i h zO
      | false =>
       refine zW (aB Y B) ?_;exact ⟨zK,k,rfl,X,hbf,fun _=>aS,S.get D,t.mono S.sub,Q.mono S.sub⟩
     ·refine zW (ip Y B ae aN D t.sl.lenV O) ?_;exact ⟨zK,k,rfl,X,hbf,fun h=>absurd h O,t.mono (Sub.bump J _),Q.mono (Sub.bump J _)⟩
    ·rintro T5 A a1 a9 aW ⟨k,B,X,hbf,bs,D,t,Q⟩;have bo:=aW.wf;have ci:=aW.le;simp only [SA,WF,Ud,and_true] at B;have ae:ad T5 0=.ptr fb 0:=(a9.at_ 0 zU).trans (zV (aB G aM));have b5:ad T5 1=u:=(a9.at_ 1 zU).trans (zV (aB G bk));rw [JL X hbf bs];have oa:=Q.one;have cw:=bo _ _ D;refine zW (cn a1 B ae b5 D) ?_;have aT:A.get (A.next+7)=none:=bo.fresh zO;have bN:∀ n,q ≠ .own (A.next+7) 0 n n 1 false:=fun n e=>by
      rcases t with ⟨h,-⟩ | ⟨b,cells,h,aR,-⟩
      ·rw [h] at e; cases e
      ·rw [h] at e; injection e with e1; rw [e1,aT] at aR; cases aR
     have sx:Sub A ((A.up 12).put (A.next+7) (.cells [u] af true)):=(Sub.bump A 12).trans (aH (H:=A.up 12) aT);refine AnsH.use (G8 C (H0:=H0) (F:=F') (x:=y) (k:=k) zK (t.mono sx) X (cY) (Q.mono sx) bN zO) ?_;rintro cy b8 ⟨b3,bl,keep,⟨n,rfl⟩,ce⟩;have b7:=b3.wf;have bv:((A.up 12).put (A.next+7) (.cells [u] af true)).get fb=some (.cells [q] eP true):=by exact zV D
     have bH:∀ n,q ≠ .own fb 0 n n 1 false:=fun n=>t.ne D (fun cs h=>by injection h with _ h2; exact absurd h2 zU) n;have al:=keep fb _ bv bH;have cx:=b7 _ _ al;refine zW (aC a1 a7 al) ?_;refine ⟨zK,_,rfl,bl.put (fun n' h=>?_) (SubT.put_ty al zU)⟩
     injection h with h1
     simp only [next_put,bL] at h1;omega
end
def FA {d:Nat}:∀ {l:List Nat} {lo:Nat},lo<=d->l.Pairwise (· < ·)->(∀ a∈l,lo<a/\a<=d)->l.length+lo<=d
 | [],lo,h,_,_=>by simpa using h
 | a :: l,lo,h,hp,hb=>by
  have ha:=hb a (WH ..);have e:=Yp.1 hp
  have:=FA (d:=d) (lo:=a) ha.2 e.2 fun b c=>⟨e.1 b c,(hb b (SO _ c)).2⟩
  simp only [W5];omega
def ech_len {d:Nat} {F:List (List Int)} (h:Lin.Ech d F):F.length<=d:=by
 have h1:(F.map fun r=>Lin.rank (Lin.pv r) d).Pairwise (· < ·):=by
  rw [Xu];refine h.sorted.imp_of_mem fun {r s} hr hs hb=>?_;exact (Lin.before_iff (h.pos hr).2.2 (h.pos hs).2.2).1 hb
 have h2:=FA (d:=d) (lo:=0) (WG _) h1 fun a ha=>by
  rw [DT] at ha;obtain ⟨r,hr,rfl⟩:=ha
  have:=(h.pos hr).2.2
  unfold Lin.rank;split <;> omega
 simpa using h2
def kj (e:Nat):Nat->Nat
 | 0=>0
 | k+1=>e+(k+1)*(kj e k+1)
def Iz (e k:Nat):kj e k<=kj e (k+1):=by
 show kj e k<=e+(k+1)*(kj e k+1);rw [Yk]; omega
def uC (e:Nat) {k m:Nat} (h:k<=m):kj e k<=kj e m:=by
 induction m with
 | zero =>
  have:k=0:=zO
  subst this; exact Jv _
 | succ m b =>
  by_cases a:k<=m
  ·exact WK (b a) (Iz e m)
  ·have:k=m+1:=zO
   subst this; exact Jv _
def insP_len {x:List Int} {p:Nat}:∀ F:List (List Int),(Lin.insP x p F).length=F.length+1
 | []=>rfl
 | r :: F=>by
  unfold Lin.insP;split
  ·simp [insP_len F]
  ·simp
def Qh {d e f:Nat} {F:List (List Int)} {x:List Int} (b:∀ r∈F,∀ z∈r,Bt f z) (hx:∀ z∈x,Bt e z) :
  Lin.putF F x=F\/((Lin.putF F x).length=F.length+1/\∀ r∈Lin.putF F x,∀ z∈r,Bt (e+(F.length+1)*(f+1)) z):=by
 have hy:∀ z∈Lin.restF F x,Bt (e+F.length*(f+1)) z:=by
  rw [<- kJ]; exact oZ hx b _ (Jv _)
 have hs:∀ p,∀ z∈Lin.signed (Lin.restF F x) p,Bt (e+F.length*(f+1)) z:=fun p=>by
  unfold Lin.signed;split
  ·exact HC hy
  ·exact hy
 unfold Lin.putF;cases hp:Lin.pivot (Lin.restF F x) with
 | none=>exact .inl rfl
 | some p =>
  refine .inr ⟨by simp [insP_len],fun r hr=>?_⟩;have g:(F.length+1)*(f+1)=F.length*(f+1)+(f+1):=Yk _ _;rcases Lin.mem_insP.1 hr with rfl | hr
  ·exact fun z a=>(hs p z a).mono zO
  ·rw [DT] at hr;obtain ⟨u,c,rfl⟩:=hr;exact fun z a=>(Rh (b u c) (hs p) z a).mono zO
def oO (l:List (List Int)) (k:Nat):List (List Int):=(l.take k).foldl Lin.putF []
def yf {l:List (List Int)} {k:Nat} (h:k<l.length):oO l (k+1)=Lin.putF (oO l k) l[k]:=by
 unfold oO;rw [TY h,Zx]; rfl
def AQ (l:List (List Int)):oO l l.length=Lin.formF l:=by
 unfold oO Lin.formF;rw [WZ]
def Iw {d:Nat} {l:List (List Int)} (hl:∀ r∈l,r.length=d) (k:Nat):Lin.Ech d (oO l k) :=
 (Lin.form_go (l.take k) [] (Lin.Ech.nil d) fun a ha=>hl a (YJ ha)).1
def xw {d e:Nat} {l:List (List Int)} (hl:∀ r∈l,r.length=d) (hb:∀ r∈l,∀ z∈r,Bt e z):∀ k,k<=l.length->∀ r∈oO l k,∀ z∈r,Bt (kj e (oO l k).length) z
 | 0,_=>by intro r hr; cases hr
 | k+1,h=>by
  have a:=xw hl hb k zO;rw [yf zO];rcases Qh (d:=d) a (hb _ (EL (show k<l.length by omega))) with h1 | ⟨h1,h2⟩
  ·rw [h1]; exact a
  ·rw [h1]; exact h2
section
variable {tab:Nat->Option au} {H:Heap} {s:AV}
def Vl (C:Code tab) (M:Wf H) {l:List (List Int)} {d e:Nat} (hs:d9 H s l) (I:l.length<1099511627776) (hd:d<=64) (o:∀ r∈l,r.length=d) (t:∀ r∈l,∀ z∈r,Bt e z) (hb:e+66*(kj e d+1)<=8796093022208) :
  Ans tab (.fn oF [s]) H fun v H'=>∃ fb q,v=.ptr fb 0/\H'.get fb=some (.cells [q] eP true)/\d9 H' q (Lin.formF l)/\Kp H H':=by
 refine cz C.q122 zU fun T hl b=>?_;have x:io (.agg [.nilSl])=some [.nilSl]:=rfl;refine zW (aZ hl b hs.lenV x) ?_;refine aq H [] (fun j _ H'=>∃ q,H'.get (H.next+2)=some (.cells [q] eP true)/\Bl rowsE af H H' q (oO l j)) (a:=0) (N:=l.length) rfl (by refine zW (aB hl b) ?_; rfl) (zV (aB hl b)) (WG _) zO (by simp only [jL,hl]; rfl) rfl (fun j vs H' m ⟨q,h1,h2⟩=>⟨q,h1,h2.mono (Sub.bump H' m)⟩) zK ⟨.nilSl,by exact cY,Bl.nil⟩ ?_ ?_
 ·rintro j T1 h _ hj g y i c ⟨q,p,k⟩;have w1:=c.wf;have F:=c.le;have G:ad T1 11=s:=(i.at_ 11 zU).trans (zV (aB hl b));have t4:ad T1 4=.fn (.func gM) [.ptr (H.next+2) 0] []:=(i.at_ 4 zU).trans (zV (aB hl b));obtain ⟨w,hr,B⟩:=dE (hs.mono c.sub) hj;have A:=SlV.idx1 hs .i64 j hj;have n:=Iw o j;have J:=uC e (ech_len n);have L:=ech_len n;have u:=EL hj;simp only [jL,hl] at g;refine zW (fy g G t4 y A B) ?_;refine AnsH.use (Oy C (H0:=H) (f:=kj e (oO l j).length) zK zO (by exact p) (k.mono (Sub.bump h _)) (hr.mono (Sub.bump h _)) (o _ u) hd n zO (xw o t j zO) (t _ u) zO) ?_;rintro v H2 ⟨rfl,K,q',D,E⟩;refine zW g ?_;refine ⟨zK,q',D,?_⟩;rw [yf hj];exact E
 ·rintro T1 h g i c ⟨q,p,k⟩;have w1:=c.wf;have F:=c.le;have t3:ad T1 3=.ptr (H.next+2) 0:=(i.at_ 3 zU).trans (zV (aB hl b));simp only [jL,hl] at g;rw [AQ] at k;refine zW (aB g t3) ?_;exact ⟨_,q,rfl,p,k.sl.mono (Sub.bump h _),zK⟩
def DC (C:Code tab) (o:Wf H) {l:List (List Int)} {d e:Nat} (hs:d9 H s l) (f:l.length<=1024) (g:0<d) (hd:d<=64) (c:∀ r∈l,r.length=d) (b:∀ r∈l,∀ z∈r,Bt e z) (hb:e+66*(kj e d+1)<=8796093022208) :
  Ans tab (.fn nh [s]) H fun v H'=>∃ q,v=.tup [q,.int .i64 0]/\d9 H' q (Lin.formF l)/\Kp H H':=by
 refine cz C.q90 zU fun T hl a=>?_;refine zW (aB hl a) ?_;refine AnsH.eq (kV C (ty:=0) zF (hs.mono (zG H)) f ⟨g,hd,c,fun r hr z k=>(b r hr z k).sm zO⟩) fun H2 i=>?_;obtain ⟨k2,_,w2⟩:=zT H zK i;refine zW (aB hl a) ?_;refine AnsH.use (Vl C zF (hs.mono (zG H)) zO hd c b hb) ?_;rintro v n ⟨fb,q,rfl,h,hq,j⟩;obtain ⟨m,_,_⟩:=zT H zK j;refine zW (aC hl a h) ?_;exact ⟨q,rfl,hq,m⟩
def Fz (C:Code tab) (hw:Wf H) {a:AV} {x:List Int} {l:List (List Int)} {d e:Nat} (ha:RowV H a x) (hs:d9 H s l) (K:l.length<=1024) (F:0<d) (hd:d<=64) (hx:x.length=d) (i:∀ r∈l,r.length=d) (n:∀ z∈x,Bt e z) (m:∀ r∈l,∀ z∈r,Bt e z) (hb:e+66*(kj e d+1)<=8796093022208) :
  Ans tab (.fn oH [a,s]) H fun v H'=>∃ q,v=.tup [q,.int .i64 0]/\RowV H' q (Lin.restF (Lin.formF l) x)/\Kp H H':=by
 have oa:=ha.one;refine bE C.q91 zU fun T hl c f=>?_;refine zW (aC hl c f) ?_;refine AnsH.eq (kV C (ty:=0) zF (hs.mono (zG H)) K ⟨F,hd,i,fun r hr z b=>(m r hr z b).sm zO⟩) fun H2 N=>?_;obtain ⟨k2,_,w2⟩:=zT H zK N;refine zW (aC hl c f) ?_;refine AnsH.eq (kV C (ty:=0) (d:=d) (ls:=[x]) zF (SE (ha.mono k2.sub) (zG H2) (cY)) (by simp) ⟨F,hd,by simpa using hx,by simpa using fun z b=>(n z b).sm zO⟩) fun I O=>?_;have E:Kp H I:=Kp.trans k2 (Kp.trans zK O);have ad:=E.le;have w3:=E.wf;have h:=(Lin.form_ech i).1;have Q:=ech_len h;have L:=uC e Q;have ab:(Lin.restF (Lin.formF l) x).length=d:=by rw [<- kJ]; exact pH hx h.len _ (Jv _)
 have u:∀ r∈Lin.formF l,∀ z∈r,Bt (kj e d) z:=fun r hr z b=>by
  have:=xw i m l.length (Jv _)
  rw [AQ] at this;exact (this r hr z b).mono L
 have aa:(Lin.formF l).length*(kj e d+1)<=64*(kj e d+1):=WJ _ zO;have G:∀ z∈Lin.restF (Lin.formF l) x,Bt (e+64*(kj e d+1)) z:=fun z b=>by
  rw [<- kJ] at b;exact (oZ n u _ (Jv _) z b).mono zO
 rcases YG l.length with h0 | h0
 ·have R:lenV s=some (.int .i64 0):=by rw [hs.lenV,h0]; rfl
  refine zW (aZ hl c f R) ?_;refine AnsH.use (Vl C zF (hs.mono (zG H)) zO hd i m hb) ?_;rintro v J ⟨fb,q,rfl,t,hq,w⟩;obtain ⟨j,_,w5⟩:=zT H zK w;refine zW (aC hl c f) ?_;refine AnsH.use (xv C zF t hq (ha.mono j.sub) hx hd zO (fun r hr=>⟨h.len r hr,(h.pos hr).1,u r hr⟩) n zO) ?_;rintro Z o ⟨B,y⟩;have g:Kp H o:=Kp.trans j y;have X:=g.le;have w6:=g.wf;refine zW (aC hl c f) ?_;refine AnsH.use (zu C zF B zO fun z b=>(G z b).sm zO) ?_;rintro v7 p ⟨D,A⟩;have k:Kp H p:=Kp.trans g A;have Y:=k.le;refine zW (aC hl c f) ?_;exact ⟨_,rfl,D,k⟩
 ·obtain ⟨w0,U,P⟩:=dE (hs.mono E.sub) h0;have M:cG 1 s (.int .i64 0)=some (az s 0):=SlV.idx1 hs .i64 0 h0;have V:lenV w0=some (.int .i64 (d:Int)):=by rw [U.lenV,i _ (EL h0)]
  have W:lenV a=some (.int .i64 (d:Int)):=by rw [ha.lenV,hx]
  have S:(0:Int)<(l.length:Int):=zO;refine zW (pD hl c f hs.lenV S h0 M P V W) ?_;refine AnsH.use (Vl C zF (hs.mono (zG H)) zO hd i m hb) ?_;rintro v J ⟨fb,q,rfl,t,hq,w⟩;obtain ⟨j,_,w5⟩:=zT H zK w;refine zW (aC hl c f) ?_;refine AnsH.use (xv C zF t hq (ha.mono j.sub) hx hd zO (fun r hr=>⟨h.len r hr,(h.pos hr).1,u r hr⟩) n zO) ?_;rintro Z o ⟨B,y⟩;have g:Kp H o:=Kp.trans j y;have X:=g.le;have w6:=g.wf;refine zW (aC hl c f) ?_;refine AnsH.use (zu C zF B zO fun z b=>(G z b).sm zO) ?_;rintro v7 p ⟨D,A⟩;have k:Kp H p:=Kp.trans g A;have Y:=k.le;refine zW (aC hl c f) ?_;exact ⟨_,rfl,D,k⟩
end
def JV {e f:Nat} {x y:List Int} (hx:∀ z∈x,Bt e z) (hy:∀ z∈y,Bt f z):∀ j,j<=x.length->j<=y.length->(xB x y j).natAbs<=j*2^(e+f)
 | 0,_,_=>by simp [xB,Lin.dot]
 | j+1,h1,h2=>by
  rw [xA zO zO,Yk];have a:=JV hx hy j zO zO;have hm:=(hx _ (EL (show j<x.length by omega))).mul (hy _ (EL (show j<y.length by omega)));unfold Bt at hm
  have:=ZY (xB x y j) (x[j]*y[j])
  omega
def JW {e f:Nat} {x y:List Int} (hx:∀ z∈x,Bt e z) (hy:∀ z∈y,Bt f z) {j:Nat} (h1:j<=x.length) (h2:j<=y.length) (a:j<=64):Bt (e+f+7) (xB x y j):=by
 have h:=JV hx hy j h1 h2;have h3:j*2^(e+f)<=64*2^(e+f):=WJ _ a;have h4:0<2^(e+f):=Xh zU;unfold Bt;rw [Xw];omega
def rH {e f:Nat} {x y:List Int} (hx:∀ z∈x,Bt e z) (hy:∀ z∈y,Bt f z) (b:x.length=y.length) (a:x.length<=64):Bt (e+f+7) (Lin.dot x y):=by
 rw [<- VW b]; exact JW hx hy (Jv _) zO a
section
variable {tab:Nat->Option au} {H:Heap} {s:AV}
def zx (C:Code tab) (k:Wf H) {a b:AV} {x y:List Int} {e f:Nat} (ha:RowV H a x) (hb:RowV H b y) (l:x.length=y.length) (d:x.length<=64) (hx:∀ z∈x,Bt e z) (hy:∀ z∈y,Bt f z) (g:e+f+7<=8796093022208) :
  Ans tab (.fn sJ [a,b]) H fun v H'=>∃ r,v=.tup [r,.int .i64 0]/\IntV H' r (Lin.dot x y)/\Kp H H' :=
 P2 C k ha hb l d (fun z c=>(hx z c).len zO) (fun z c=>(hy z c).len zO) (fun i h h'=>((hx _ (EL h)).mul (hy _ (EL h'))).sm zO) fun j hj=>(JW hx hy hj zO zO).sm g
def vT (C:Code tab) (k:Wf H) {a b:AV} {x y:List Int} {e f:Nat} (ha:RowV H a x) (hb:RowV H b y) (l:x.length=y.length) (i:x.length<=64) (hx:∀ z∈x,Bt e z) (hy:∀ z∈y,Bt f z) (j:e+f+7<=8796093022208) :
  Ans tab (.fn pY [a,b]) H fun v H'=>IntV H' v (Lin.dot x y)/\Kp H H':=by
 refine bE C.q138 zU fun T hl d g=>?_;refine zW (aC hl d g) ?_;refine AnsH.use (zx C zF (ha.mono (zG H)) (hb.mono (zG H)) l i hx hy j) ?_;rintro v H2 ⟨r,rfl,⟨w,rfl,hr⟩,c⟩;obtain ⟨k2,_,w2⟩:=zT H zK c;have o:=hr.one;have n:H.next+10<=H2.next:=c.le
 have d2:=c.get (b:=H.next) (e:=.cells [.bool false,.nilSl] aa true) (cY);have h:H2.get (H.next+7)=none:=c.free (show _<H.next+10 by omega) (by rw [aw zO]; exact k.fresh (b:=H.next+7) zO);have m2:NoTy [ae] H2 H.next:=NoTy.ty d2 zU
 have m:NoTy [ae] H2 (H.next+7):=NoTy.none h;refine zW (aZ hl d g d2) ?_;exact ⟨⟨w,rfl,SlV.monoT (E:=bz cq) zS hr⟩,zK⟩
def xC (C:Code tab) (e:Wf H) {a:AV} {z:Int} (ha:IntV H a z) (d:fm z):Ans tab (.fn lB [a]) H fun v H'=>v=.int .i64 (jx z)/\Kp H H':=by
 obtain ⟨p,rfl,hp⟩:=ha;have op:=hp.one;refine cz C.q139 zU fun T hl b=>?_;refine zW (aB hl b) ?_;refine AnsH.eq (tW C zF ⟨p,rfl,hp.mono (zG H)⟩ d) fun H2 c=>?_;obtain ⟨k2,_,_⟩:=zT H zK c;refine zW (aB hl b) ?_;exact zK
def A3 (C:Code tab) (g:Wf H) {a:AV} {z:Int} (ha:IntV H a z) (h:fm z):Ans tab (.fn pW [a]) H fun v H'=>IntV H' v (-z)/\Kp H H':=by
 obtain ⟨p,rfl,hp⟩:=ha;have op:=hp.one;refine cz C.q142 zU fun T hl d=>?_;refine zW (aB hl d) ?_;refine AnsH.use (Cc C zF ⟨p,rfl,hp.mono (zG H)⟩ h) ?_;rintro v H2 ⟨r,rfl,⟨w,rfl,hr⟩,c⟩;obtain ⟨k2,_,w2⟩:=zT H zK c;have k:=hr.one;have j:H.next+10<=H2.next:=c.le
 have d2:=c.get (b:=H.next+1) (e:=.cells [.bool false,.nilSl] aa true) (cY);have f:H2.get (H.next+7)=none:=c.free (show _<H.next+10 by omega) (by rw [aw zO,aw zO]; exact g.fresh (b:=H.next+7) zO);have m2:NoTy [ae] H2 (H.next+1):=NoTy.ty d2 zU;have i:NoTy [ae] H2 (H.next+7):=NoTy.none f;refine zW (aC hl d d2) ?_;exact ⟨⟨w,rfl,SlV.monoT (E:=bz cq) zS hr⟩,zK⟩
def Gv (C:Code tab) (J:Wf H) {vm w a b:AV} {m n:Int} {x y:List Int} {e f g h:Nat} (hm:IntV H vm m) (hn:IntV H w n) (ha:RowV H a x) (hb:RowV H b y) (u:x.length=y.length) (q:x.length<=64) (l:Bt g m) (o:Bt h n) (hx:∀ z∈x,Bt e z) (hy:∀ z∈y,Bt f z) (I:g+e+h+f+1<=8796093022208) :
  Ans tab (.fn Vj [vm,a,w,b]) H fun v H'=>RowV H' v (Lin.prime (Lin.mix m x n y))/\Kp H H':=by
 obtain ⟨F,rfl,s⟩:=hm;obtain ⟨G,rfl,t⟩:=hn;have L:=s.one;have on:=t.one;refine Ox C.q143 zU fun T hl d i j k=>?_;refine zW (cn hl d i j k) ?_;refine AnsH.use (I6 C zF ⟨F,rfl,s.mono (zG H)⟩ ⟨G,rfl,t.mono (zG H)⟩ (ha.mono (zG H)) (hb.mono (zG H)) u q (l.len zO) (o.len zO) (fun z c=>⟨(hx z c).len zO,(l.mul (hx z c)).sm zO⟩) (fun z c=>⟨(hy z c).len zO,(o.mul (hy z c)).sm zO⟩)) ?_;rintro v H2 ⟨r,rfl,hr,A⟩;obtain ⟨k2,_,w2⟩:=zT H zK A;refine zW (cn hl d i j k) ?_;refine AnsH.use (wF C zF (hr.mono (zG H2)) (by rw [Lin.mix_length rfl u.symm]; exact q) fun z c=>(Ie l o hx hy z c).sm zO) ?_;rintro v3 p ⟨r3,rfl,D,B⟩;have E:Kp H p:=Kp.trans k2 (Kp.trans zK B);have K:=E.le;refine zW (cn hl d i j k) ?_;exact ⟨D.mono (Sub.bump p _),zK⟩
abbrev BG (H0 H:Heap) (v:AV) (l:List Int):Prop:=Bl (bz (gK .i64)) aL H0 H v l
def KQ (C:Code tab) (hw:Wf H) {a:AV} {x:List Int} {l:List (List Int)} {d e f:Nat} (ha:RowV H a x) (hs:d9 H s l) (ab:l.length<=1024) (af:0<d) (hd:d<=64) (hx:x.length=d) (Q:∀ r∈l,r.length=d) (S:∀ z∈x,Bt e z) (L:∀ r∈l,∀ z∈r,Bt f z) (hb:e+f+7<=8796093022208) :
  Ans tab (.fn rm [a,s]) H fun v H'=>∃ q,v=.tup [q,.int .i64 0]/\BG H H' q (l.map fun r=>jx (Lin.dot x r))/\Kp H H':=by
 have oa:=ha.one;refine B0 C.q160 rfl rfl zU fun T hl g=>?_;have hl:T.length=55:=hl;have ax:c_sat_Signs.results=[(4,none),(5,none)]:=rfl;have J:ad T 0=a:=g 0 (by simp);have K:ad T 1=s:=g 1 (by simp);refine bf ?_;refine zW (aZ hl J K @aD) ?_;refine cZ (fun T' H'=>ad T' 5=.int .i64 0/\Kp H H') rfl ?_ ?_
 ·refine zW (aC hl J K) ?_;refine AnsH.eq (kV C (ty:=0) zF (hs.mono (zG H)) ab ⟨af,hd,Q,fun r hr z U=>(L r hr z U).sm zO⟩) fun H2 O=>?_;obtain ⟨k2,_,_⟩:=zT H zK O;refine zW (aB hl @aV) ?_;exact zK
 rintro T1 H1 F ⟨t5,k1⟩;have w1:=k1.wf;have t0:ad T1 0=a:=(F.at_ 0 zU).trans (zV (aB hl J));have t1:ad T1 1=s:=(F.at_ 1 zU).trans (zV (aB hl K));have t4:ad T1 4=.nilSl:=(F.at_ 4 zU).trans (zV hl);have B:T1.length=55:=F.len.trans (by simp only [jL]; exact hl);refine cZ (fun T' H'=>ad T' 4=.nilSl/\ad T' 5=.int .i64 0/\Kp H H') rfl ?_ ?_
 ·refine zW (aC B t0 t1) ?_;refine AnsH.eq (uM C zF (ha.mono (zG H)) zO fun z U=>(S z U).sm zO) fun H2 O=>?_;obtain ⟨k2,_,_⟩:=zT H zK O;rcases YG l.length with h0 | h0
  ·have ao:lenV s=some (.int .i64 0):=by rw [hs.lenV,h0]; rfl
   refine zW (ip B t0 t1 ao t4 t5 @aV) ?_;exact zK
  ·obtain ⟨w0,aw,am⟩:=dE (hs.mono k2.sub) h0;have aj:cG 1 s (.int .i64 0)=some (az s 0):=SlV.idx1 hs .i64 0 h0;have l0:lenV w0=some (.int .i64 (d:Int)):=by rw [aw.lenV,Q _ (EL h0)]
   have la:lenV a=some (.int .i64 (d:Int)):=by rw [ha.lenV,hx]
   have av:(0:Int)<(l.length:Int):=zO;refine zW (E0 B t0 t1 hs.lenV av h0 aj am l0 la t4 t5 @aV) ?_;exact zK
 rintro T2 H2 R ⟨aH,aI,k2⟩;have w2:=k2.wf;have Y:ad T2 0=a:=(R.at_ 0 zU).trans t0;have aE:ad T2 1=s:=(R.at_ 1 zU).trans t1;have c:T2.length=55:=R.len.trans B;refine WC.wb ?_;refine zW (aZ c Y aE hs.lenV) ?_;refine aq H [4] (fun j vs H'=>∃ o,vs=[o]/\BG H H' o ((l.take j).map fun r=>jx (Lin.dot x r))) (a:=0) (N:=l.length) rfl (by refine zW c ?_; rfl) (zV c) (WG _) zO (by simp only [jL,c]; rfl) rfl (fun j vs H' m ⟨o,h1,h2⟩=>⟨o,h1,h2.mono (Sub.bump H' m)⟩) zK ⟨.nilSl,by exact zV (aB c aH),Bl.nil⟩ ?_ ?_
 ·rintro j A i _ hj t ag G u ⟨o,y,D⟩;have w3:=u.wf;have aN:=u.le;simp only [SA,WF,Ud,and_true] at y;have aG:ad A 33=s:=(G.at_ 33 zU).trans (zV c);have aA:ad A 0=a:=(G.at_ 0 zU).trans (zV (aB c Y));obtain ⟨w,hr,al⟩:=dE (hs.mono u.sub) hj;have ah:=SlV.idx1 hs .i64 j hj;have M:=EL hj;have aM:=Q _ M;simp only [jL,c] at t;refine zW (fy t aG aA ag ah al) ?_;refine AnsH.use (zx C zF (ha.mono (zG H)) (hr.mono (zG i)) zO zO S (L _ M) hb) ?_;rintro v I ⟨r,rfl,⟨w4,rfl,V⟩,P⟩;obtain ⟨ay,_,_⟩:=zT i zK P;have aP:=ay.wf;have n4:i.next+12<=I.next:=P.le
  have f4:I.get (i.next+9)=none:=P.free (show _<i.next+12 by omega) (w3.fresh (b:=i.next+9) zO);have ow:=V.one;have m9:NoTy [ae] I (i.next+9):=NoTy.none f4;refine zW (aB t y) ?_;refine AnsH.eq (tW C (x:=Lin.dot x l[j]) zF ⟨w4,rfl,SlV.monoT (E:=bz cq) zS V⟩ ((rH S (L _ M) zO zO).sm hb)) fun p ak=>?_;obtain ⟨W,_,_⟩:=zT i zK ak;have X:Kp H p:=u.trans W;have aO:=X.le;have ar:=D.mono W.sub;have aK:((l.take j).map fun r=>jx (Lin.dot x r)).length=j:=by simp; omega
  obtain ⟨n,Z,e1,h2,k6,n6,-⟩:=Bl.push (ty2:=aL) (bytes:=8) (id:=p.next+3) (id2:=p.next+2) (k:=5) (cs:=[.int .i64 (jx (Lin.dot x l[j]))]) (a:=jx (Lin.dot x l[j])) ar (fun h=>by cases h) X ⟨_,rfl,rfl⟩ zO zO zO zO zO zO zO;have aa:dq ((p.up 5).put (p.next+2) (.cells [.int .i64 (jx (Lin.dot x l[j]))] aL true)) (p.next+3) 1 8 aL o (.own (p.next+2) 0 1 1 1 true)=some (.own (p.next+3) 0 n n 1 false,Z):=e1;refine zW (aC t y aa) ?_;refine ⟨k6,_,rfl,?_⟩;rw [TY hj,Xd];exact h2
 ·rintro A i t G u ⟨o,y,D⟩;simp only [SA,WF,Ud,and_true] at y;have aJ:ad A 5=.int .i64 0:=(G.at_ 5 zU).trans (zV (aB c aI));simp only [jL,c] at t;rw [WZ] at D;refine zW (aZ t y aJ ax) ?_;exact ⟨o,rfl,D,u⟩
end
section
variable {tab:Nat->Option au} {base i k:Nat} {T0:Tm} {dst:Option Nat} {op:AOp} {us:List (Nat × Option Nat)} {adds:List Nat} {ds:List ke} {Vs:List AV} {Cs:List Heap} {Es:List (Option Ent)} {Q:DS->Prop}
def sq {t:Nat} {w:Bool}:WD tab base T0 i (⟨dst,op,some (t,w),us,2,[(k,adds)]⟩ :: ds) ⟨Vs,Cs,Es⟩ Q =
  nt (ad (ct T0 Vs us) t) w (nB tab (Src.ev (ct T0 Vs us)) (dJ base Es (Cs.getD k default) adds) (base+i) op fun v H'=>WD tab base T0 (i+1) ds ⟨Vs++[v],Cs++[H'],Es++[none]⟩ Q) (WD tab base T0 (i+1) ds ⟨Vs++[.tup []],Cs++[dJ base Es (Cs.getD k default) adds],Es++[none]⟩ Q) () ():=by
 rw [Da];have a:b9 (ct T0 Vs us) (some (t,w))=match ad (ct T0 Vs us) t with | .bool b=>some (b == w) | .tup []=>some false | _=>none:=by
  generalize ct T0 Vs us=T
  unfold ad;rw [qf];cases h:T[t]? with
  | none=>simp only [b9,h]; rfl
  | some v =>
   simp only [b9,h,XG];cases v with
   | tup vs=>cases vs <;> rfl
   | _=>rfl
 conv=>lhs; unfold wd
 simp only [a,nt];cases ad (ct T0 Vs us) t with
 | bool b=>cases b <;> cases w <;> rfl
 | tup vs=>cases vs <;> rfl
 | _=>rfl
end
def zX {F P Q:Prop} (f:F) (q:Q) (h:F->Q->P:=by intro h q; simp -dsimp (maxSteps:=1000000) (disch:=(first | omega | assumption | exact aF _ | exact bi _ _ | exact bB | exact cK _ _ _ | exact bS _ _ | exact bJ _ _ _ _ _ _ | exact cQ _ _ | exact bX _)) only [↓wD,wC,↓Tc,Tb,↓sq,Nat.reduceLT,Nat.reduceEqDiff,Nat.reduceAdd,reduceIte,reduceCtorEq,Nat.reduceBEq,Int.reduceEq,Int.reduceLT,Int.reduceLE,Int.reduceAdd,Int.reduceSub,h]; exact q):P:=h f q
def Ps (a b:Nat):Nat:=(BitVec.ofNat 64 a &&& ~~~ BitVec.ofNat 64 b).toNat
def S7 (a b:Nat):Ps a b<18446744073709551616:=(BitVec.ofNat 64 a &&& ~~~ BitVec.ofNat 64 b).isLt
def sI (a:Nat):BitVec.ofInt 64 (a:Int)=BitVec.ofNat 64 a:=by
 apply BitVec.eq_of_toNat_eq
 simp
def Mg {a b:Nat} (ha:a<18446744073709551616) (hb:b<18446744073709551616):b7 .and .int (.int .u64 (a:Int)) (.int .u64 (b:Int))=some (.int .u64 ((a &&& b:Nat):Int)):=by
 have e:(BitVec.ofInt 64 (a:Int) &&& BitVec.ofInt 64 (b:Int)).toNat=a &&& b:=by
  rw [sI,sI,BitVec.toNat_and,BitVec.toNat_ofNat,BitVec.toNat_ofNat,Xf zO,Xf zO]
 have hlt:a &&& b<=a:=Nat.and_le_left;show some (AV.int .u64 (IntKind.u64.wrap ((BitVec.ofInt 64 (a:Int) &&& BitVec.ofInt 64 (b:Int)).toNat:Nat)))=_;rw [e,gP zO zO]
def EO (a b:Nat):b7 .andNot .int (.int .u64 (a:Int)) (.int .u64 (b:Int))=some (.int .u64 ((Ps a b:Nat):Int)):=by
 have hlt:=S7 a b;show some (AV.int .u64 (IntKind.u64.wrap ((BitVec.ofInt 64 (a:Int) &&& ~~~ BitVec.ofInt 64 (b:Int)).toNat:Nat)))=_;rw [sI,sI];show some (AV.int .u64 (IntKind.u64.wrap ((Ps a b:Nat):Int)))=_;rw [gP zO zO]
def Pc {a b:Nat}:Ps a b=0 ↔ ∀ j,j<64->a.testBit j=true->b.testBit j=true:=by
 unfold Ps;constructor
 ·intro h j hj ha;have h1:(BitVec.ofNat 64 a &&& ~~~ BitVec.ofNat 64 b).getLsbD j=false:=by
   rw [<- BitVec.testBit_toNat,h]; simp
  rw [BitVec.getLsbD_and,BitVec.getLsbD_not,BitVec.getLsbD_ofNat,BitVec.getLsbD_ofNat,decide_eq_true hj] at h1
  simpa [ha] using h1
 ·intro h;have h1:(BitVec.ofNat 64 a &&& ~~~ BitVec.ofNat 64 b)=0#64:=by
   apply BitVec.eq_of_getLsbD_eq
   intro j hj
   have:=h j hj
   rw [BitVec.getLsbD_and,BitVec.getLsbD_not,BitVec.getLsbD_ofNat,BitVec.getLsbD_ofNat,decide_eq_true hj];cases ha:a.testBit j with
   | false=>simp
   | true=>simp [this ha]
  rw [h1]; rfl
structure MaskUp (bs:List Bool) (k:Nat) (W:List Nat):Prop where
 len:W.length=bs.length / 64+1
 lt:∀ i,W.getD i 0<18446744073709551616
 bit:∀ i j,j<64->(W.getD i 0).testBit j=(decide (64*i+j<k) && bs.getD (64*i+j) false)
abbrev qv (bs:List Bool) (W:List Nat):Prop:=MaskUp bs bs.length W
def MaskUp.zero (bs:List Bool):MaskUp bs 0 (List.replicate (bs.length / 64+1) 0):=by
 have h0:∀ i,(List.replicate (bs.length / 64+1) 0).getD i 0=0:=fun i=>by
  rw [qf,Xv]; split <;> rfl
 exact ⟨by simp,fun i=>by rw [h0]; decide,fun i j _=>by rw [h0]; simp⟩
def MaskUp.skip {bs:List Bool} {k:Nat} {W:List Nat} (h:MaskUp bs k W) (hb:bs.getD k false=false):MaskUp bs (k+1) W:=by
 refine ⟨h.len,h.lt,fun i j hj=>?_⟩;rw [h.bit i j hj];by_cases e:64*i+j=k
 ·rw [e,hb]; simp
 ·congr 2;simp only [eq_iff_iff];omega
def MaskUp.mark {bs:List Bool} {k:Nat} {W:List Nat} (h:MaskUp bs k W) (d:k<bs.length) (hb:bs.getD k false=true):MaskUp bs (k+1) (W.set (k / 64) (W.getD (k / 64) 0 ||| 2^(k % 64))):=by
 have hi:k / 64<W.length:=by rw [h.len]; have:=Nat.div_le_div_right (c:=64) (Yx d); omega
 have hp:(2:Nat)^(k % 64)<2^64:=ZB zU (Xp _ zU);have hg:∀ i,(W.set (k / 64) (W.getD (k / 64) 0 ||| 2^(k % 64))).getD i 0=if i=k / 64 then W.getD (k / 64) 0 ||| 2^(k % 64) else W.getD i 0:=fun i=>by
  rw [qf,YP];by_cases e:k / 64=i
  ·subst e; rw [if_pos rfl,if_pos hi,if_pos rfl]; rfl
  ·rw [if_neg e,if_neg (fun e'=>e e'.symm),<- qf]
 refine ⟨by rw [jL]; exact h.len,fun i=>?_,fun i j hj=>?_⟩
 ·rw [hg];split
  ·have:=h.lt (k / 64)
   have h2:W.getD (k / 64) 0 ||| 2^(k % 64)<2^64:=Nat.or_lt_two_pow zO hp
   omega
  ·exact h.lt i
 ·rw [hg];by_cases b:i=k / 64
  ·rw [if_pos b,Nat.testBit_or,<- b,h.bit i j hj,Nat.testBit_two_pow];by_cases e:64*i+j=k
   ·have a:k % 64=j:=zO;rw [e,hb,a]; simp
   ·have a:¬ k % 64=j:=zO;rw [decide_eq_false a,Bool.or_false];congr 2;simp only [eq_iff_iff];omega
  ·rw [if_neg b,h.bit i j hj];have e:64*i+j≠k:=zO;congr 2;simp only [eq_iff_iff];omega
def Ek (bt a bb:List Bool):Bool:=(List.range bt.length).all fun k=>!(a.getD k false && bb.getD k false) || bt.getD k false
def F6 {bt a bb:List Bool} {T A B:List Nat} (e:qv bt T) (ha:qv a A) (hb:qv bb B) (h1:a.length=bt.length) (h2:bb.length=bt.length) :
  Ek bt a bb=true ↔ ∀ i,i<T.length->Ps (A.getD i 0 &&& B.getD i 0) (T.getD i 0)=0:=by
 have key:∀ i,Ps (A.getD i 0 &&& B.getD i 0) (T.getD i 0)=0 ↔ ∀ j,j<64->64*i+j<bt.length->a.getD (64*i+j) false=true->bb.getD (64*i+j) false=true->bt.getD (64*i+j) false=true:=fun i=>by
  rw [Pc];constructor
  ·intro h j hj hlt p q
   have:=h j hj (by rw [Nat.testBit_and,ha.bit i j hj,hb.bit i j hj,p,q,decide_eq_true zO,decide_eq_true zO]; rfl)
   rw [e.bit i j hj,W6] at this;exact this.2
  ·intro h j hj b;rw [Nat.testBit_and,ha.bit i j hj,hb.bit i j hj] at b;simp only [W6,decide_eq_true_eq] at b;rw [e.bit i j hj,W6,decide_eq_true_eq];exact ⟨zO,h j hj zO b.1.2 b.2.2⟩
 unfold Ek;rw [WT];constructor
 ·intro h i _;rw [key];intro j _ hlt p q
  have:=h (64*i+j) (by simpa using hlt)
  rw [p,q] at this
  simpa using this
 ·intro h k d;have d:k<bt.length:=by simpa using d
  have hlt:k / 64<T.length:=by rw [e.len]; have:=Nat.div_le_div_right (c:=64) (Yx d); omega
  have hm:=(key (k / 64)).1 (h _ hlt) (k % 64) (Xp _ zU);rw [XL] at hm;cases p:a.getD k false with
  | false=>simp
  | true =>
   cases q:bb.getD k false with
   | false=>simp
   | true=>simpa using hm d p q
section
variable {tab:Nat->Option au} {H:Heap} {s:AV}
def OW (C:Code tab) (O:Wf H) {u va t:AV} {bt m bb:List Bool} {c A d:List Nat} (q:Lb H u c) (ha:Lb H va A) (hb:Lb H t d) (s:qv bt c) (o:qv m A) (mb:qv bb d) (h1:m.length=bt.length) (h2:bb.length=bt.length) (L:bt.length<1099511627776) :
  Ans tab (.fn uw [u,va,t]) H fun v H'=>v=.bool (Ek bt m bb)/\Kp H H':=by
 refine mz C.q161 zU fun T hl f g k=>?_;have hlt:=s.len;have B:=o.len;have D:=mb.len;rw [h1] at B;rw [h2] at D;have M:bt.length / 64<=bt.length:=Y4 _ _;refine zW (cn hl f g k q.lenV) ?_;refine aq H [] (fun j _ _=>∀ i,i<j->Ps (A.getD i 0 &&& d.getD i 0) (c.getD i 0)=0) (a:=0) (N:=c.length) rfl (by refine zW (aZ hl f g k) ?_; rfl) (zV (aZ hl f g k)) (WG _) zO (by simp only [jL,hl]; rfl) rfl (fun _ _ _ _ h=>h) zK (fun i h=>by omega) ?_ ?_
 ·intro j T1 x _ hj b w n l p;have w1:=l.wf;have P:=l.le;have t9:ad T1 9=u:=(n.at_ 9 zU).trans (zV (aZ hl f g k));have t1:ad T1 1=va:=(n.at_ 1 zU).trans (zV (aZ hl f g k));have I:ad T1 2=t:=(n.at_ 2 zU).trans (zV (aZ hl f g k));have J:=SlV.idx1 q .i64 j hj;have x1:=SlV.idx1 ha .i64 j zO;have K:=SlV.idx1 hb .i64 j zO;have d0:=fU (q.mono l.sub) hj;have d1:=fU (ha.mono l.sub) (i:=j) zO;have d2:=fU (hb.mono l.sub) (i:=j) zO;have F:=o.lt j;have G:=mb.lt j;have y:=Mg F G;have z:=EO (A.getD j 0 &&& d.getD j 0) (c.getD j 0);simp only [jL,hl] at b;refine zW (cn b t9 w J d0) ?_;refine aJ ?_;refine zD (mo b t9 t1 I w x1 K d1 d2 y z) ?_;refine iteH.split (fun E=>?_) fun E=>?_
  ·have r:¬ Ps (A.getD j 0 &&& d.getD j 0) (c.getD j 0)=0:=zO;simp only [jl,kK,jk,mI,XS,Yn,sY,qq,List.getLastD_cons,List.getLastD_nil,Y5,Yl];refine zW b ?_;refine ⟨?_,zK⟩;cases hh:Ek bt m bb with
   | false=>rfl
   | true=>exact absurd ((F6 s o mb h1 h2).1 hh j hj) r
  ·have r:Ps (A.getD j 0 &&& d.getD j 0) (c.getD j 0)=0:=zO;simp only [jl,kK,jk,mI,XS,Yn,sY,qq,List.getLastD_cons,List.getLastD_nil,Y5,Yl];refine zW b ?_;refine ⟨zK,fun i hi=>?_⟩;by_cases e:i=j
   ·subst e; exact r
   ·exact p i zO
 ·intro T1 x b n l p;simp only [jL,hl] at b;refine zW b ?_;exact ⟨by rw [(F6 s o mb h1 h2).2 p],zK⟩
end
def Rj {k:Nat} (a:k<4611686018427387904):b7 .quo .int (.int .i64 (k:Int)) (.int .i64 64)=some (.int .i64 ((k / 64:Nat):Int)):=NL (c:=64) zO a
def Tx (k:Nat):b7 .rem .int (.int .i64 (k:Int)) (.int .i64 64)=some (.int .i64 ((k % 64:Nat):Int)):=NI (c:=64) zO
def zeros (r:List Int) (D:List (List Int)):List Bool:=D.map fun b=>decide (Lin.dot r b=0)
def wE (r:List Int) (D:List (List Int)):(zeros r D).length=D.length:=by simp [zeros]
def lq (x:Int):jx x=0 ↔ x=0:=by unfold jx; split <;> (try split) <;> omega
section
variable {tab:Nat->Option au} {H:Heap} {s:AV}
def L4 (C:Code tab) (hw:Wf H) {ub:Nat} {ql qr qd vr:AV} {r:List Int} {D:List (List Int)} {d e f:Nat} (L:H.get ub=some (.cells [ql,qr,qd] aU true)) (J:d9 H qd D) (hr:RowV H vr r) (O:D.length<=1024) (R:0<d) (hd:d<=64) (ah:r.length=d) (Q:∀ x∈D,x.length=d) (ag:∀ z∈r,Bt e z) (P:∀ x∈D,∀ z∈x,Bt f z) (hb:e+f+7<=8796093022208) :
  Ans tab (.fn fp [.ptr ub 0,vr]) H fun v H'=>∃ W,Lb H' v W/\qv (zeros r D) W/\Kp H H':=by
 refine bE C.q140 zU fun T hl i l=>?_;have av:=hw _ _ L;have hq:=Rj (k:=D.length) zO;have ao:D.length / 64<=D.length:=Y4 _ _;have M:IntKind.i64.wrap (((D.length / 64:Nat):Int)+1)=((D.length / 64+1:Nat):Int):=by rw [wrap_i64] <;> omega
 have X:∀ H':Heap,Hb H' (H.next+8) ae 1 8 [.int .u64 0] (.int .i64 ((D.length / 64+1:Nat):Int)) (.int .i64 ((D.length / 64+1:Nat):Int))=some (.own (H.next+8) 0 (D.length / 64+1) (D.length / 64+1) 1 true,H'.put (H.next+8) (.cells ((List.replicate (D.length / 64+1) [AV.int .u64 0]).flatten) ae true)):=fun H'=>iy _ _ _ _ _ _ _ _ _ zO zO rfl;refine zW (lp hl i l L J.lenV hq M X) ?_;refine AnsH.use (KQ C zF (hr.mono (zG H)) (J.mono (zG H)) O R hd ah Q ag P hb) ?_;rintro v H2 ⟨q,rfl,aa,F⟩;obtain ⟨k2,_,w2⟩:=zT H zK F;have b0:=F.get (b:=H.next+8) (e:=.cells (aP (List.replicate (D.length / 64+1) 0)) ae true) (cY);have K:=aa.sl;have s:=wE r D;refine zW (cn hl i l K.lenV @List.length_map.{0,0}) ?_;have ab:SlV (bz (gK .i64)) aL H2 q (D.map fun b=>jx (Lin.dot r b)):=K;refine aq H [] (fun j _ H'=>∃ W,H'.get (H.next+8)=some (.cells (aP W) ae true)/\MaskUp (zeros r D) j W/\SlV (bz (gK .i64)) aL H' q (D.map fun b=>jx (Lin.dot r b))) (a:=0) (N:=D.length) rfl (by refine zW (aC hl i l) ?_; rfl) (zV (aC hl i l)) (WG _) zO (by simp only [jL,hl]; rfl) rfl (fun j vs H' m ⟨W,h1,h2,h3⟩=>⟨W,h1,h2,h3.mono (Sub.bump H' m)⟩) zK ⟨_,by exact b0,by rw [<- s]; exact MaskUp.zero _,ab.mono (Sub.bump H2 _)⟩ ?_ ?_
 ·rintro j T1 t _ hj n B w o ⟨W,hW,g,p⟩;have w1:=o.wf;have al:=o.le;have ar:=w1 _ _ hW;have am:ad T1 27=q:=(w.at_ 27 zU).trans (zV (aC hl i l));have t5:ad T1 5=.own (H.next+8) 0 (D.length / 64+1) (D.length / 64+1) 1 true:=(w.at_ 5 zU).trans (zV (aC hl i l));have ak:(D.map fun b=>jx (Lin.dot r b))[j]? = some (jx (Lin.dot r D[j])):=by simp [hj]
  obtain ⟨c,hc,G⟩:=SlV.at1 p ak;have hc:c=.int .i64 (jx (Lin.dot r D[j])):=hc;rw [hc] at G;have S:=SlV.idx1 p .i64 j (by simp; exact hj);have A:(zeros r D).getD j false=decide (Lin.dot r D[j]=0):=by simp [zeros,hj]
  have u:=g.len;rw [s] at u;have U:j / 64<D.length / 64+1:=by have:=Nat.div_le_div_right (c:=64) (Yx hj); omega
  have V:j / 64<W.length:=zO;have Z:=Rj (k:=j) zO;have af:=Tx j;have I:j % 64<64:=Xp _ zU;have aj:=GP (r:=j % 64) I (k:=.i64);have hp:(2:Nat)^(j % 64)<2^64:=ZB zU I;have Y:=wx (g.lt (j / 64)) (b:=2^(j % 64)) zO;simp only [jL,hl] at n;refine zW (cn n am B S G) ?_;refine iteH.split (fun h=>?_) fun h=>?_
  ·have y:=(lq _).1 h;refine aJ ?_;refine zD (pD n t5 B Z af aj Y hW U V) ?_;have m8:NoTy [aL] t (H.next+8):=NoTy.ty hW zU;refine ⟨zK,_,rfl,g.mark (by rw [s]; exact hj) (by rw [A,decide_eq_true y]),SlV.monoT (E:=bz (gK .i64)) zS p⟩
  ·have y:¬ Lin.dot r D[j]=0:=fun e=>h ((lq _).2 e);refine zW n ?_;exact ⟨zK,W,hW,g.skip (by rw [A,decide_eq_false y]),p.mono (Sub.bump t _)⟩
 ·rintro T1 t n w o ⟨W,hW,g,p⟩;have w1:=o.wf;have al:=o.le;have t5:ad T1 5=.own (H.next+8) 0 (D.length / 64+1) (D.length / 64+1) 1 true:=(w.at_ 5 zU).trans (zV (aC hl i l));simp only [jL,hl] at n;have u:=g.len;rw [s] at u;refine zW (aB n t5) ?_;rw [<- s] at g;exact ⟨W,(vC (H0:=H) hW zO u).sl.mono (Sub.bump t _),g,zK⟩
abbrev Ta (H:Heap) (v:AV) (Ws:List (List Nat)):Prop:=pC (Vt (bz cq) ae) eQ H v Ws
def Ar (zs:List (List Bool)) (i k:Nat):Bool:=(List.range zs.length).all fun t=>t == i || t == k || !Ek (zs.getD t []) (zs.getD i []) (zs.getD k [])
def L3 (C:Code tab) (hw:Wf H) {vm:AV} {Ws:List (List Nat)} {zs:List (List Bool)} {n i k:Nat} (hm:Ta H vm Ws) (ae:Ws.length=zs.length) (J:∀ t (h:t<zs.length) (h':t<Ws.length),qv zs[t] Ws[t]) (hn:∀ z∈zs,z.length=n) (aa:n<1099511627776) (ab:zs.length<1099511627776) (hi:i<zs.length) (B:k<zs.length) :
  Ans tab (.fn nN [vm,.int .i64 (i:Int),.int .i64 (k:Int)]) H fun v H'=>v=.bool (Ar zs i k)/\Kp H H':=by
 refine mz C.q141 zU fun T hl d f g=>?_;refine zW (cn hl d f g hm.lenV) ?_;refine aq H [] (fun j _ _=>∀ t,t<j->(t == i || t == k || !Ek (zs.getD t []) (zs.getD i []) (zs.getD k []))=true) (a:=0) (N:=Ws.length) rfl (by refine zW (aZ hl d f g) ?_; rfl) (zV (aZ hl d f g)) (WG _) zO (by simp only [jL,hl]; rfl) rfl (fun _ _ _ _ h=>h) zK (fun i h=>by omega) ?_ ?_
 ·rintro j T1 c _ hj b l r q o;have w1:=q.wf;have af:=q.le;have t9:ad T1 9=vm:=(r.at_ 9 zU).trans (zV (aZ hl d f g));have t0:ad T1 0=vm:=(r.at_ 0 zU).trans (zV (aZ hl d f g));have t1:ad T1 1=.int .i64 (i:Int):=(r.at_ 1 zU).trans (zV (aZ hl d f g));have s:ad T1 2=.int .i64 (k:Int):=(r.at_ 2 zU).trans (zV (aZ hl d f g));have G:=hm.mono q.sub;have y:i<Ws.length:=zO;have D:k<Ws.length:=zO;have u:j<zs.length:=zO;obtain ⟨Y,L,V⟩:=SlV.at1 G (zh hj);obtain ⟨X,K,E⟩:=SlV.at1 G (zh y);obtain ⟨Z,M,F⟩:=SlV.at1 G (zh D);have L:Lb c Y Ws[j]:=L;have K:Lb c X Ws[i]:=K;have M:Lb c Z Ws[k]:=M;have xj:=SlV.idx1 hm .i64 j hj;have O:=SlV.idx1 hm .i64 i y;have P:=SlV.idx1 hm .i64 k D;have R:zs.getD j []=zs[j]:=by simp [u]
  have Q:zs.getD i []=zs[i]:=by simp [hi]
  have S:zs.getD k []=zs[k]:=by simp [B]
  simp only [jL,hl] at b;refine zW (cn b t9 l xj V) ?_;refine aJ ?_;by_cases m:j=i
  ·subst m;refine zD (ip b t0 t1 s l @sq @aS) ?_;refine ⟨zK,fun t x=>?_⟩;by_cases e:t=j
   ·subst e; simp
   ·exact o t zO
  ·have w:¬ (j:Int)=(i:Int):=zO;by_cases p:j=k
   ·subst p;refine zD (lh b t0 t1 s l @sq @aS m w) ?_;refine ⟨zK,fun t x=>?_⟩;by_cases e:t=j
    ·subst e; simp
    ·exact o t zO
   ·have A:¬ (j:Int)=(k:Int):=zO;refine zD (ME b t0 t1 s l @sq @aS m w p A O P E F) ?_;have lj:=hn _ (EL u);have li:=hn _ (EL hi);have lk:=hn _ (EL B);refine AnsH.eq (OW C zF (L.mono (zG c)) (K.mono (zG c)) (M.mono (zG c)) (J j u hj) (J i hi y) (J k B D) zO zO zO) fun H2 U=>?_;obtain ⟨k2,_,_⟩:=zT c zK U;have W:Kp H H2:=q.trans k2;have ag:=W.le;cases hh:Ek zs[j] zs[i] zs[k] with
    | true =>
     refine zD (ME b t0 t1 s l @sq @aS m w p A O P E F) ?_;refine ⟨?_,zK⟩;cases I:Ar zs i k with
     | false=>rfl
     | true =>
      unfold Ar at I;rw [WT] at I
      have:=I j (by simpa using u)
      rw [R,Q,S,hh] at this;simp [m,p] at this
    | false =>
     refine zD (ME b t0 t1 s l @sq @aS m w p A O P E F) ?_;refine ⟨zK,fun t x=>?_⟩;by_cases e:t=j
     ·subst e; rw [R,Q,S,hh]; simp
     ·exact o t zO
 ·rintro T1 c b r q o;simp only [jL,hl] at b;refine zW b ?_;refine ⟨?_,zK⟩
  have:Ar zs i k=true:=by
   unfold Ar;rw [WT];intro t x;exact o t (by simp at x; omega)
  rw [this]
end
end Go.Proofs.YtiigaeehghcjiaaGreat.Ev
