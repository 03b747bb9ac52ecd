/- A part. -/
import Derived.Test.YtkmepoeklibegaaGreatA0
import Derived.Test.YtkmepoeklibegaaGreatN22
set_option linter.all false
namespace Go.Proofs.YtkmepoeklibegaaGreat.Lin
structure Under where
 lines:List V
 rays:List V
 done:List V
def unitV (d i:Nat):V:=(kT d).set i 1
def startU (d:Nat):Under:=⟨(List.range d).map (unitV d),[],[]⟩
def upV (a u:V):V:=if dot a u<0 then scl (-1) u else u
def addU (a:V) (eq:Bool) (u:Under):Under :=
 match u.lines.findIdx? fun l=>!decide (dot a l=0) with
 | none=>⟨u.lines,cutL u.done a eq u.rays,u.done++if eq then [] else [a]⟩
 | some i=>⟨(u.lines.eraseIdx i).map (foldV a (upV a (u.lines.getD i []))),u.rays.map (foldV a (upV a (u.lines.getD i [])))++(if eq then [] else [upV a (u.lines.getD i [])]),u.done++if eq then [] else [a]⟩
def gensU (d:Nat) (b c:List V):Under:=c.foldl (fun u a=>addU a false u) (b.foldl (fun u a=>addU a true u) (startU d))
def cmpV:V->V->Bool
 | [],_=>true
 | _ :: _,[]=>false
 | a :: x,b :: y=>if a<b then true else if a=b then cmpV x y else false
def gensL (d:Nat) (a b:List V):List V:=formF (gensU d a b).lines
def gensR (d:Nat) (a b:List V):List V:=((gensU d a b).rays.map (restF (gensL d a b))).mergeSort cmpV
section
variable {d:Nat} {E:V->Prop}
def nF {i j:Nat} (hi:i<d):at_ (unitV d i) j=if j=i then 1 else 0:=by
 unfold at_ unitV kT;rw [Vh,XF];by_cases h:i=j
 ·subst h; simp [hi]
 ·have h':¬ j=i:=fun e=>h e.symm;rw [if_neg h,if_neg h',Wj];split <;> rfl
def oC:DD d (fun _=>False) (· ∈ ([]:List V)) (· ∈ (startU d).lines) (startU d).rays:=by
 refine ⟨fun l hl=>?_,fun l hl e he=>he.elim,fun l hl i hi=>(by cases hi),fun x hx _ _=>?_,fun r hr=>(by cases hr),fun x hx=>?_,fun r hr=>(by cases hr),fun r hr=>(by cases hr),List.Pairwise.nil⟩
 ·obtain ⟨i,-,rfl⟩:=Vl.1 hl;simp [unitV,kT]
 all_goals
  first
  | (have hx:=hx.len)
  | skip
 all_goals
  have hl:∀ l,l∈(startU d).lines->l.length=d:=fun l hl=>by
   obtain ⟨i,-,rfl⟩:=Vl.1 hl;simp [unitV,kT]
  have key:∀ n,n<=d->Spn d (· ∈ (startU d).lines) (x.take n++kT (d-n)):=by
   intro n
   induction n with
   | zero=>intro _; simp; exact .zero
   | succ n f =>
    intro hn;have b:(x.take n++kT (d-n)).length=d:=by simp [kT,hx]; omega
    have c:(unitV d n).length=d:=by simp [unitV,kT]
    have e:x.take (n+1)++kT (d-(n+1))=mix 1 (x.take n++kT (d-n)) (at_ x n) (unitV d n):=aK (by rw [mix_length b c]; simp [kT,hx]; omega) fun i=>by
     rw [ak (b.trans c.symm),nF zO];have g:∀ m,m<=d->at_ (x.take m++kT (d-m)) i=if i<m then at_ x i else 0:=fun m hm=>by
      unfold at_;rw [Vh,List.getElem?_append]
      have:(x.take m).length=m:=by simp [hx]; omega
      rw [this];by_cases hi:i<m
      ·rw [if_pos hi,if_pos hi,VL,if_pos hi,Vh]
      ·rw [if_neg hi,if_neg hi];unfold kT;rw [Wj];split <;> rfl
     rw [g (n+1) hn,g n zO];by_cases h1:i<n
     ·rw [if_pos zO,if_pos h1,if_neg zO]; grind
     ·by_cases h2:i=n
      ·subst h2; rw [if_pos zO,if_neg zO,if_pos rfl]; grind
      ·rw [if_neg zO,if_neg h1,if_neg h2]; grind
    rw [e];exact .line _ (f zO) (Vl.2 ⟨n,Wt.2 zO,rfl⟩)
  have a:=key d (Vo _);have e:x.take d++kT (d-d)=x:=by rw [VP zO]; simp [kT]
  rw [e] at a
 ·exact a
 ·exact a.mono (fun _ h=>h) (fun r h=>h.elim)
def Iw {u:Under} {a:V} (h:DD d E (· ∈ u.done) (· ∈ u.lines) u.rays) (ha:a.length=d) (eq:Bool) :
  DD d (fun e=>E e\/(eq=true/\e=a)) (· ∈ (addU a eq u).done) (· ∈ (addU a eq u).lines) (addU a eq u).rays:=by
 unfold addU;split
 ·rename_i hn;refine SC h (fun x hx=>?_) eq
  have:=XL.1 hn x hx
  simpa using this
 ·rename_i i hi;obtain ⟨c,g,-⟩:=Wi.1 hi;have hl:u.lines.getD i []=u.lines[i]:=by simp [Vh,c]
  rw [hl];have hm:u.lines[i]∈u.lines:=Vm c;have hne:dot a u.lines[i]≠0:=by simpa using g
  have k:=h.lenL _ hm;have hs:∃ s:Int,(s=1\/s = -1)/\upV a u.lines[i]=scl s u.lines[i]:=by
   unfold upV;split
   ·exact ⟨-1,.inr rfl,rfl⟩
   ·exact ⟨1,.inl rfl,(uC _).symm⟩
  obtain ⟨s,m,b⟩:=hs;have l:0<dot a (upV a u.lines[i]):=by
   unfold upV;split
   ·rw [dot_scl]; omega
   ·omega
  refine Qx h ha (fun x hx=>?_) (fun x hx=>V6 hx) (by rw [b]; exact scl_length k) (fun e he=>?_) (fun j hj=>?_) l eq
  ·obtain ⟨j,hj⟩:=V9 hx;by_cases f:j=i
   ·right
    subst f;rw [Vk c] at hj;cases hj;refine ⟨s,?_⟩;rw [b];rcases m with rfl | rfl
    ·rw [uC,uC]
    ·exact aK (by simp [scl]) fun t=>by rw [az,az]; omega
   ·left
    exact Yn.2 ⟨j,f,hj⟩
  ·rw [b,dot_scl,h.lineE _ hm e he]; simp
  ·rw [b,dot_scl,h.lineI _ hm j hj]; simp
def DD.congr {E E' I a L L':V->Prop} {R:List V} (h:DD d E I L R) (b:∀ x,E x ↔ E' x) (c:∀ x,I x ↔ a x) (hL:∀ x,L x ↔ L' x):DD d E' a L' R:=by
 have e1:E=E':=funext fun x=>propext (b x);have e2:I=a:=funext fun x=>propext (c x);have e3:L=L':=funext fun x=>propext (hL x);subst e1; subst e2; subst e3; exact h
def yW:∀ (l:List V) (u:Under) (E:V->Prop),DD d E (· ∈ u.done) (· ∈ u.lines) u.rays->(∀ a∈l,a.length=d) ->
  DD d (fun e=>E e\/e∈l) (· ∈ (l.foldl (fun u a=>addU a true u) u).done) (· ∈ (l.foldl (fun u a=>addU a true u) u).lines) (l.foldl (fun u a=>addU a true u) u).rays/\(l.foldl (fun u a=>addU a true u) u).done=u.done
 | [],u,E,h,_=>⟨h.congr (fun x=>by simp) (fun x=>Zd) (fun x=>Zd),rfl⟩
 | a :: l,u,E,h,hl=>by
  obtain ⟨h1,h2⟩:=yW l (addU a true u) _ (Iw h (hl a (Vt ..)) true) fun b hb=>hl b (Vn _ hb);simp only [Wn];refine ⟨h1.congr (fun x=>?_) (fun x=>Zd) (fun x=>Zd),h2.trans ?_⟩
  ·rw [VK]; simp only [true_and]; exact or_assoc
  ·unfold addU; split <;> simp
def xB:∀ (l:List V) (u:Under),DD d E (· ∈ u.done) (· ∈ u.lines) u.rays->(∀ a∈l,a.length=d) ->
  DD d E (· ∈ (l.foldl (fun u a=>addU a false u) u).done) (· ∈ (l.foldl (fun u a=>addU a false u) u).lines) (l.foldl (fun u a=>addU a false u) u).rays/\(l.foldl (fun u a=>addU a false u) u).done=u.done++l
 | [],u,h,_=>⟨h,by simp⟩
 | a :: l,u,h,hl=>by
  obtain ⟨h1,h2⟩:=xB l (addU a false u) ((Iw h (hl a (Vt ..)) false).congr (fun x=>by simp) (fun x=>Zd) (fun x=>Zd)) fun b hb=>hl b (Vn _ hb);simp only [Wn];refine ⟨h1,h2.trans ?_⟩;unfold addU; split <;> simp
def gensU_dd {b c:List V} (h1:∀ a∈b,a.length=d) (h2:∀ a∈c,a.length=d):DD d (· ∈ b) (· ∈ c) (· ∈ (gensU d b c).lines) (gensU d b c).rays:=by
 obtain ⟨e,f⟩:=yW b (startU d) _ oC h1;obtain ⟨g,h⟩:=xB c _ e h2;refine g.congr (fun x=>by simp) (fun x=>?_) (fun x=>Zd);rw [h,f];simp [startU]
def DD.rep {I L L':V->Prop} {R:List V} (h:DD d E I L R) (o:∀ x,L' x->x.length=d) (hs:∀ x,Spn d L x ↔ Spn d L' x) (f:V->V) (p:∀ r∈R,(f r).length=d/\∃ m k:Int,0<m/\0<k/\Spn d L (mix m (f r) (-k) r)):DD d E I L' (R.map f):=by
 have w:∀ r∈R,∃ m k:Int,0<m/\0<k/\∀ b,(∀ l,L l->dot b l=0)->m*dot b (f r)=k*dot b r:=fun r hr=>by
  obtain ⟨hl,m,k,hm,g,q⟩:=p r hr;refine ⟨m,k,hm,g,fun b hb=>?_⟩
  have:=Con.dot_zero (a:=b) h.lenL (fun r h=>h.elim) hb (fun r h=>h.elim) q
  rw [aJ _ _ _ (hl.trans (h.lenR r hr).symm),X9] at this;omega
 have u:∀ r∈R,∀ b,(∀ l,L l->dot b l=0)->(dot b (f r)=0 ↔ dot b r=0):=fun r hr b hb=>by
  obtain ⟨m,k,hm,g,e⟩:=w r hr;have e:=e b hb;constructor
  ·intro h0;rw [h0] at e;rcases VH.1 (show k*dot b r=0 by omega) with h1 | h1
   ·omega
   ·exact h1
  ·intro h0;rw [h0] at e;rcases VH.1 (show m*dot b (f r)=0 by omega) with h1 | h1
   ·omega
   ·exact h1
 have j:∀ i,I i->∀ l,L l->dot i l=0:=fun i hi l hl=>h.lineI l hl i hi;have z:∀ e,E e->∀ l,L l->dot e l=0:=fun e he l hl=>h.lineE l hl e he;have A:∀ b,(∀ l,L l->dot b l=0)->∀ x,L' x->dot b x=0:=fun b hb x hx =>
  Con.dot_zero (a:=b) h.lenL (fun r h=>h.elim) hb (fun r h=>h.elim) ((hs x).2 (dI (o x hx) hx))
 have v:∀ x,x∈R.map f->x.length=d:=fun x hx=>by
  obtain ⟨r,hr,rfl⟩:=Vl.1 hx;exact (p r hr).1
 refine ⟨o,fun l hl e he=>A e (z e he) l hl,fun l hl i hi=>A i (j i hi) l hl,fun x hx B C=>(hs x).1 (h.lines x hx B C),?_,?_,?_,?_,?_⟩
 ·intro x hx;obtain ⟨r,hr,rfl⟩:=Vl.1 hx;refine ⟨(p r hr).1,fun e he=>(u r hr e (z e he)).2 ((h.keep r hr).eq e he),fun i hi=>?_⟩;obtain ⟨m,k,hm,g,e⟩:=w r hr;have e:=e i (j i hi)
  have:=V8 (Xl g) ((h.keep r hr).ge i hi)
  rw [<- e] at this;exact W6 this hm
 ·intro x hx;refine Con.trans o v (fun l hl c=>((hs _).1 (Spn.smul h.lenL (dI (h.lenL l hl) hl) c)).mono (fun _ h=>h) (fun r h=>h.elim)) (fun r hr=>?_) h.lenL h.lenR (h.all x hx);obtain ⟨hl,m,k,hm,g,q⟩:=p r hr;refine .div k g (h.lenR r hr) ?_;have e:scl k r=mix 1 (scl m (f r)) 1 (scl (-1) (mix m (f r) (-k) r)):=aK (by rw [scl_length (h.lenR r hr),mix_length (scl_length hl) (scl_length (mix_length hl (h.lenR r hr)))]) fun i=>by
   rw [az,ak ((scl_length hl).trans (scl_length (mix_length hl (h.lenR r hr))).symm),az,az,ak (hl.trans (h.lenR r hr).symm)]; grind
  rw [e];have t1:Con d L' (· ∈ R.map f) (scl m (f r)):=(Con.of_ray hl (Xc hr)).smul o v m zO;have K:Con d L' (· ∈ R.map f) (scl (-1) (mix m (f r) (-k) r)):=((hs _).1 (Spn.smul h.lenL q (-1))).mono (fun _ h=>h) (fun r h=>h.elim);exact K.add o v _ t1
 ·intro x hx;obtain ⟨r,hr,rfl⟩:=Vl.1 hx;obtain ⟨i,hi,hn⟩:=h.off r hr;exact ⟨i,hi,fun e=>hn ((u r hr i (j i hi)).1 e)⟩
 ·intro x hx y hy H;obtain ⟨r,hr,rfl⟩:=Vl.1 hx;obtain ⟨k1,n,F,D,J⟩:=h.ext r hr y hy fun i hi e=>H i hi ((u r hr i (j i hi)).2 e);obtain ⟨hl,m,k,hm,g,q⟩:=p r hr;refine ⟨k*k1,n*m,W2 g F,V8 D zO,(hs _).1 ?_⟩;have t:=Spn.sum2 h.lenL J q k (-n);have e:mix k (mix k1 y (-n) r) (-n) (mix m (f r) (-k) r)=mix (k*k1) y (-(n*m)) (f r):=aK (by rw [mix_length (mix_length hy.len (h.lenR r hr)) (mix_length hl (h.lenR r hr)),mix_length hy.len hl]) fun i=>by
   rw [ak ((mix_length hy.len (h.lenR r hr)).trans (mix_length hl (h.lenR r hr)).symm),ak (hy.len.trans (h.lenR r hr).symm),ak (hl.trans (h.lenR r hr).symm),ak (hy.len.trans hl.symm)]; grind
  rw [e] at t; exact t
 ·refine WE.2 (h.apart.imp_of_mem fun {r s} hr G hne h2=>hne fun i hi=>?_)
  have:=h2 i hi
  rw [u r hr i (j i hi),u s G i (j i hi)] at this;exact this
def DD.perm {I L:V->Prop} {R R':List V} (h:DD d E I L R) (hp:R.Perm R'):DD d E I L R':=by
 have hm:∀ x,x∈R' ↔ x∈R:=fun x=>hp.mem_iff.symm;refine ⟨h.lenL,h.lineE,h.lineI,h.lines,fun r hr=>h.keep r ((hm r).1 hr),fun x hx=>(h.all x hx).mono (fun _ h=>h) (fun r hr=>(hm r).2 hr),fun r hr=>h.off r ((hm r).1 hr),fun r hr=>h.ext r ((hm r).1 hr),?_⟩;exact (hp.pairwise_iff (fun {r s} hne h2=>hne fun i hi=>(h2 i hi).symm)).1 h.apart
def cmpV_refl:∀ x:V,cmpV x x=true
 | []=>rfl
 | a :: x=>by simp [cmpV,cmpV_refl x]
def cmpV_trans:∀ a b c:V,cmpV a b=true->cmpV b c=true->cmpV a c=true
 | [],_,_,_,_=>rfl
 | _ :: _,[],_,h,_=>by simp [cmpV] at h
 | _ :: _,_ :: _,[],_,h=>by simp [cmpV] at h
 | a :: x,b :: y,c :: z,h1,h2=>by
  have d:=cmpV_trans x y z;simp only [cmpV] at h1 h2 ⊢;split at h1
  ·split at h2
   ·rw [if_pos zO]
   ·split at h2
    ·rw [if_pos zO]
    ·cases h2
  ·split at h1
   ·split at h2
    ·rw [if_pos zO]
    ·split at h2
     ·rw [if_neg zO,if_pos zO]; exact d h1 h2
     ·cases h2
   ·cases h1
def cmpV_total:∀ a b:V,(cmpV a b || cmpV b a)=true
 | [],_=>by simp [cmpV]
 | _ :: _,[]=>by simp [cmpV]
 | a :: x,b :: y=>by
  have c:=cmpV_total x y;simp only [cmpV];by_cases h1:a<b
  ·simp [h1]
  ·by_cases h2:a=b
   ·subst h2; simpa using c
   ·have:b<a:=zO
    simp [this]
def cmpV_antisymm:∀ a b:V,cmpV a b=true->cmpV b a=true->a=b
 | [],[],_,_=>rfl
 | [],_ :: _,_,h=>by simp [cmpV] at h
 | _ :: _,[],h,_=>by simp [cmpV] at h
 | a :: x,b :: y,h1,h2=>by
  have c:=cmpV_antisymm x y;simp only [cmpV] at h1 h2;split at h1
  ·split at h2
   ·omega
   ·split at h2
    ·omega
    ·cases h2
  ·split at h1
   ·split at h2
    ·omega
    ·split at h2
     ·rename_i e _ _; rw [e,c h1 h2]
     ·cases h2
   ·cases h1
structure yG (d:Nat) (E I:V->Prop) (L R:List V):Prop where
 dd:DD d E I (· ∈ L) R
 form:Ech d L
 rest:∀ r∈R,∀ l∈L,at_ r (pv l)=0
 cont:∀ r∈R,content r=1
 sorted:R.Pairwise fun r s=>cmpV r s=true
def gens_told {b c:List V} (h1:∀ a∈b,a.length=d) (h2:∀ a∈c,a.length=d):yG d (· ∈ b) (· ∈ c) (gensL d b c) (gensR d b c):=by
 have h:=gensU_dd h1 h2;obtain ⟨f1,f⟩:=form_ech (d:=d) (l:=(gensU d b c).lines) h.lenL;have hr:∀ r∈(gensU d b c).rays,(restF (gensL d b c) r).length=d/\(∀ l∈gensL d b c,at_ (restF (gensL d b c) r) (pv l)=0)/\(∃ m k:Int,0<m/\0<k/\Spn d (· ∈ gensL d b c) (mix m (restF (gensL d b c) r) (-k) r))/\(content (restF (gensL d b c) r)=1\/∀ i,at_ (restF (gensL d b c) r) i=0):=fun r hr=>E6 f1 (h.lenR r hr);have hd:DD d (· ∈ b) (· ∈ c) (· ∈ gensL d b c) ((gensU d b c).rays.map (restF (gensL d b c))):=h.rep f1.len (fun x=>(f x).symm) _ fun r e=>by
  obtain ⟨g,p,⟨m,k,hm,n,j⟩,q⟩:=hr r e;exact ⟨g,m,k,hm,n,(f _).1 j⟩
 have hp:((gensU d b c).rays.map (restF (gensL d b c))).Perm (gensR d b c):=(List.mergeSort_perm _ _).symm;refine ⟨hd.perm hp,f1,fun r e l hl=>?_,fun r e=>?_,List.pairwise_mergeSort cmpV_trans cmpV_total _⟩
 ·obtain ⟨s,hs,rfl⟩:=Vl.1 (hp.mem_iff.2 e);exact (hr s hs).2.1 l hl
 ·have hm:=hp.mem_iff.2 e;obtain ⟨s,hs,rfl⟩:=Vl.1 hm;refine (hr s hs).2.2.2.resolve_right fun o=>?_;obtain ⟨i,hi,hn⟩:=hd.off _ hm;refine hn ?_;rw [(If (hr s hs).1).2 o,kh]
def OG {L R:V->Prop} (hL:∀ x,L x->x.length=d) (a:∀ x,R x->x.length=d) {x:V} (h:Con d L R x):Spn d L x\/∃ r,R r/\∃ k c:Int,0<k/\0<c/\∃ y,Con d L R y/\scl k x=mix c r 1 y:=by
 induction h with
 | zero=>exact .inl .zero
 | @line x l c hx hl b =>
  have h1:=hx.length hL a;have h2:=hL l hl;rcases b with b | ⟨r,hr,k,f,m,g,y,hy,e⟩
  ·exact .inl (.line c b hl)
  ·refine .inr ⟨r,hr,k,f,m,g,_,.line (k*c) hy hl,aK (by rw [scl_length (mix_length h1 h2),mix_length (a r hr) (mix_length (hy.length hL a) h2)]) fun i=>?_⟩;have e3:k*at_ x i=f*at_ r i+1*at_ y i:=by rw [<- az,e,ak ((a r hr).trans (hy.length hL a).symm)]
   rw [az,ak (h1.trans h2.symm),ak ((a r hr).trans (mix_length (hy.length hL a) h2).symm),ak ((hy.length hL a).trans h2.symm)]; grind
 | @ray x l c hc hx hl b =>
  have h1:=hx.length hL a;have h2:=a l hl;by_cases n:c=0
  ·subst n;have e:mix 1 x 0 l=x:=aK (by rw [mix_length h1 h2,h1]) fun i=>by rw [ak (h1.trans h2.symm)]; grind
   rw [e]; exact b
  ·exact .inr ⟨l,hl,1,c,zO,zO,x,hx,aK (by rw [scl_length (mix_length h1 h2),mix_length h2 h1]) fun i=>by rw [az,ak (h1.trans h2.symm),ak (h2.trans h1.symm)]; grind⟩
 | @div x j hj hl hx b =>
  rcases b with b | ⟨r,hr,k,f,m,g,y,hy,e⟩
  ·exact .inl (.div j hj hl b)
  ·refine .inr ⟨r,hr,k*j,f,W2 m hj,g,y,hy,?_⟩;rw [<- e];exact aK (by simp [scl]) fun i=>by rw [az,az,az]; grind
def EH {E' I o:V->Prop} {L R L' R':List V} (h:yG d E I L R) (h':yG d E' o L' R') (hs:∀ x,Keep d E I x ↔ Keep d E' o x) (hL:L=L'):∀ r∈R,r∈R':=by
 intro r hr;subst hL;have g:=h.dd.keep r hr;have w:∀ x,Keep d E I x->Spn d (· ∈ L) x->∀ i,I i->dot i x=0:=fun x _ hx i hi=>Con.dot_zero (a:=i) h.dd.lenL (fun r h=>h.elim) (fun l hl=>h.dd.lineI l hl i hi) (fun r h=>h.elim) hx;rcases OG h'.dd.lenL h'.dd.lenR (h'.dd.all r ((hs r).1 g)) with j | ⟨b,f,k,c,G,t,y,hy,e⟩
 ·exfalso
  obtain ⟨i,hi,hn⟩:=h.dd.off r hr;exact hn (w r g j i hi)
 ·have m:=h'.dd.lenR b f;have q:Keep d E I y:=(hs y).2 (h'.dd.con_keep hy);have p:Keep d E I b:=(hs b).2 (h'.dd.keep b f);obtain ⟨k1,s,v,D,j⟩:=h.dd.ext r hr b p fun i hi A=>by
   have e2:k*dot i r=c*dot i b+1*dot i y:=by rw [<- dot_scl,e,aJ _ _ _ (m.trans q.len.symm)]
   rw [A] at e2;have B:=V8 (Xl t) (p.ge i hi);have C:=q.ge i hi;rcases VH.1 (show c*dot i b=0 by omega) with h1 | h1
   ·omega
   ·exact h1
  have F:s≠0:=fun e0=>by
   subst e0;obtain ⟨n,u,z⟩:=h'.dd.off b f
   have:=Con.dot_zero (a:=n) h'.dd.lenL (fun r h=>h.elim) (fun l hl=>h'.dd.lineI l hl n u) (fun r h=>h.elim) j
   rw [aJ _ _ _ (m.trans g.len.symm)] at this;rcases VH.1 (show k1*dot n b=0 by omega) with h1 | h1
   ·omega
   ·exact z h1
  have:b=r:=qD h.form m g.len (fun l hl=>h'.rest b f l hl) (fun l hl=>h.rest r hr l hl) (h'.cont b f) (h.cont r hr) v zO j
  rw [<- this]; exact f
def qm {E' I g:V->Prop} {L R L' R':List V} (h:yG d E I L R) (h':yG d E' g L' R') (hs:∀ x,Keep d E I x ↔ Keep d E' g x):L=L'/\R=R':=by
 have f:∀ {E I:V->Prop} {L R:List V},yG d E I L R->∀ x,x.length=d->(Spn d (· ∈ L) x ↔ Keep d E I x/\Keep d E I (scl (-1) x)):=by
  intro E I L R h x hx;constructor
  ·intro m;have j:∀ e,E e->dot e x=0:=fun e he=>Con.dot_zero (a:=e) h.dd.lenL (fun r h=>h.elim) (fun l hl=>h.dd.lineE l hl e he) (fun r h=>h.elim) m;have k:∀ e,I e->dot e x=0:=fun e he=>Con.dot_zero (a:=e) h.dd.lenL (fun r h=>h.elim) (fun l hl=>h.dd.lineI l hl e he) (fun r h=>h.elim) m;exact ⟨⟨hx,j,fun i hi=>by rw [k i hi]; omega⟩,⟨scl_length hx,fun e he=>by rw [dot_scl,j e he]; simp,fun i hi=>by rw [dot_scl,k i hi]; simp⟩⟩
  ·rintro ⟨h1,h2⟩;refine h.dd.lines x hx h1.eq fun i hi=>?_;have p:=h1.ge i hi;have o:=h2.ge i hi;rw [dot_scl] at o;omega
 have hL:L=L':=h.form.unique h'.form fun x=>by
  constructor
  ·intro hx;have c:=hx.length h.dd.lenL (fun r h=>h.elim);rw [f h x c] at hx;rw [f h' x c,<- hs,<- hs]; exact hx
  ·intro hx;have c:=hx.length h'.dd.lenL (fun r h=>h.elim);rw [f h' x c] at hx;rw [f h x c,hs,hs]; exact hx
 refine ⟨hL,?_⟩;have s1:=EH h h' hs hL;have s2:=EH h' h (fun x=>(hs x).symm) hL.symm;have n:∀ {E I:V->Prop} {L R:List V},yG d E I L R->R.Nodup:=fun h=>h.dd.apart.imp fun hne e=>hne fun i hi=>by rw [e]
 refine ZU (le:=fun a b=>cmpV a b=true) (fun a b _ _ h1 h2=>cmpV_antisymm a b h1 h2) h.sorted h'.sorted ((ZB (n h) (n h')).2 fun x=>⟨s1 x,s2 x⟩)
end
def Bd (M:Nat) (x:V):Prop:=∀ i,(at_ x i).natAbs<=M
def Bd.mono {M N:Nat} (h:M<=N) {x:V} (hx:Bd M x):Bd N x:=fun i=>VB (hx i) h
def Ou {M N:Nat}:∀ {x y:V},(∀ a∈x,a.natAbs<=M)->(∀ b∈y,b.natAbs<=N)->(dot x y).natAbs<=x.length*(M*N)
 | [],y,_,_=>by cases y <;> simp [dot]
 | a :: x,[],_,_=>by simp [dot]
 | a :: x,b :: y,h1,h2=>by
  have d:=Ou (x:=x) (y:=y) (fun c hc=>h1 c (Vn _ hc)) (fun c hc=>h2 c (Vn _ hc));have ha:=h1 a (Vt ..);have hb:=h2 b (Vt ..);simp only [dot,VX];have g:=YY (a*b) (dot x y);rw [YX] at g
  have:=WV ha hb
  rw [Wq,Yo];omega
def Bd.mem {M:Nat} {x:V} (h:Bd M x):∀ a∈x,a.natAbs<=M:=fun a ha=>by
 obtain ⟨i,rfl⟩:=HH ha;exact h i
def OQ {d M N:Nat} {x y:V} (hx:x.length=d) (h1:Bd M x) (h2:Bd N y):(dot x y).natAbs<=d*(M*N):=by
 have:=Ou h1.mem h2.mem
 rw [hx] at this; exact this
def TK {d M b:Nat} {a u x:V} (ha:a.length=d) (g:u.length=d) (hx:x.length=d) (h1:Bd M a) (h2:Bd b u) (h3:Bd b x):Bd (2*d*M*b*b) (mv a u x):=by
 intro i;unfold mv;rw [ak (hx.trans g.symm)];have c:=OQ ha h1 h2;have f:=OQ ha h1 h3;have t:=YY (dot a u*at_ x i) (-(dot a x)*at_ u i);rw [YX,YX,Yk] at t;have p1:=WV c (h3 i);have p2:=WV f (h2 i);have e:2*d*M*b*b=d*(M*b)*b+d*(M*b)*b:=by grind
 rw [e]; omega
def oR:List V->List V->List V
 | [],Ls=>Ls
 | a :: S,Ls=>match Ls.findIdx? fun l=>!decide (dot a l=0) with
  | none=>oR S Ls
  | some i=>oR S ((Ls.eraseIdx i).map (mv a (Ls.getD i [])))
def DY {d M:Nat} (g:1<=2*d*M):∀ (S Ls:List V) (n b:Nat),Ls.length<=n->1<=b->(∀ a∈S,a.length=d/\Bd M a)->(∀ l∈Ls,l.length=d/\Bd b l)->∀ w∈oR S Ls,w.length=d/\Bd ((2*d*M*b)^2^n) w
 | [],Ls,n,b,hn,hb,h,hL,w,f=>by
  refine ⟨(hL w f).1,(hL w f).2.mono ?_⟩;have h1:b<=2*d*M*b:=by have:=Vy b g; omega
  have h2:(2*d*M*b)^1<=(2*d*M*b)^2^n:=VW zO (Nat.one_le_two_pow);rw [Nat.pow_one] at h2;omega
 | a :: S,Ls,n,b,hn,hb,h,hL,w,f=>by
  unfold oR at f;split at f
  ·exact DY g S Ls n b hn hb (fun c hc=>h c (Vn _ hc)) hL w f
  ·rename_i i hi;obtain ⟨j,q,-⟩:=Wi.1 hi;have hl:Ls.getD i []=Ls[i]:=by simp [Vh,j]
   rw [hl] at f;have hm:=hL _ (Vm j);have ha:=h a (Vt ..);obtain ⟨n',rfl⟩:∃ n',n=n'+1:=⟨n-1,zO⟩
   have p:1<=2*d*M*b*b:=by
    have m:=WV g hb;have o:=WV m hb
    simpa using o
   have:=DY g S _ n' (2*d*M*b*b) (by rw [Vp,ZC j]; omega) p (fun c hc=>h c (Vn _ hc)) (fun l hl=>by
    obtain ⟨x,hx,rfl⟩:=Vl.1 hl;have k:=hL x (V6 hx);exact ⟨bA hm.1 k.1,TK ha.1 hm.1 k.1 ha.2 hm.2 k.2⟩) w f
   refine ⟨this.1,this.2.mono (X4 ?_)⟩;have e:2*d*M*(2*d*M*b*b)=(2*d*M*b)^2:=by rw [Nat.pow_two]; grind
   rw [e,<- YC,V5 2 n',VG 2 (2^n')]
def sr:∀ {d:Nat} (S Ls:List V),(∀ l∈Ls,l.length=d)->∀ (b:V),(∀ l∈Ls,dot b l=0)->∀ w∈oR S Ls,dot b w=0
 | d,[],Ls,hL,b,hb,w,c=>hb w c
 | d,a :: S,Ls,hL,b,hb,w,c=>by
  unfold oR at c;split at c
  ·exact sr S Ls hL b hb w c
  ·rename_i i hi;obtain ⟨e,f,-⟩:=Wi.1 hi;have hl:Ls.getD i []=Ls[i]:=by simp [Vh,e]
   rw [hl] at c;have hm:=Vm e;refine sr (d:=d) S _ (fun l hl=>?_) b (fun l hl=>?_) w c
   ·obtain ⟨x,hx,rfl⟩:=Vl.1 hl;exact bA (hL _ hm) (hL x (V6 hx))
   ·obtain ⟨x,hx,rfl⟩:=Vl.1 hl;rw [wS (hL _ hm) (hL x (V6 hx)),hb _ hm,hb x (V6 hx)]; simp
def rm:∀ {d:Nat} (S Ls:List V),(∀ l∈Ls,l.length=d)->∀ s∈S,∀ w∈oR S Ls,dot s w=0
 | d,[],Ls,hL,s,hs,w,b=>by cases hs
 | d,a :: S,Ls,hL,s,hs,w,b=>by
  unfold oR at b;split at b
  ·rename_i hn;rcases VK.1 hs with rfl | hs
   ·exact sr (d:=d) S Ls hL s (fun l hl=>by have:=XL.1 hn l hl; simpa using this) w b
   ·exact rm S Ls hL s hs w b
  ·rename_i i hi;obtain ⟨e,f,-⟩:=Wi.1 hi;have hl:Ls.getD i []=Ls[i]:=by simp [Vh,e]
   rw [hl] at b;have hm:=Vm e;have c:∀ l∈(Ls.eraseIdx i).map (mv a Ls[i]),l.length=d:=fun l hl=>by
    obtain ⟨x,hx,rfl⟩:=Vl.1 hl;exact bA (hL _ hm) (hL x (V6 hx))
   rcases VK.1 hs with rfl | hs
   ·refine sr (d:=d) S _ c s (fun l hl=>?_) w b;obtain ⟨x,hx,rfl⟩:=Vl.1 hl;rw [wS (hL _ hm) (hL x (V6 hx))]; grind
   ·exact rm S _ c s hs w b
def AF:∀ {d:Nat} (S Ls:List V),(∀ l∈Ls,l.length=d)->∀ x,x.length=d->Spn d (· ∈ Ls) x->(∀ s∈S,dot s x=0)->Spn d (· ∈ oR S Ls) x
 | d,[],Ls,hL,x,hx,hs,_=>hs
 | d,a :: S,Ls,hL,x,hx,hs,k=>by
  unfold oR;split
  ·exact AF S Ls hL x hx hs fun s hs=>k s (Vn _ hs)
  ·rename_i i hi;obtain ⟨g,n,-⟩:=Wi.1 hi;have hl:Ls.getD i []=Ls[i]:=by simp [Vh,g]
   rw [hl];have hm:=Vm g;have b:=hL _ hm;have hne:dot a Ls[i]≠0:=by simpa using n
   have f:∀ l,l∈(Ls.eraseIdx i).map (mv a Ls[i])->l.length=d:=fun l hl=>by
    obtain ⟨x,hx,rfl⟩:=Vl.1 hl;exact bA (hL _ hm) (hL x (V6 hx))
   refine AF S _ f x hx ?_ fun s hs=>k s (Vn _ hs);have t:Spn d (· ∈ (Ls.eraseIdx i).map (mv a Ls[i])) (mv a Ls[i] x):=Con.image (fun l hl=>hL l hl) (fun r h=>h.elim) f (fun r h=>h.elim) (mv a Ls[i]) (HB b) (fun x y c hx hy=>HC b hx hy) (fun x c hx=>Dy b hx) (fun x hx=>bA b hx) (fun y hy c=>by
    obtain ⟨j,hj⟩:=V9 hy;by_cases m:j=i
    ·subst m;rw [Vk g] at hj;cases hj;have e:scl c (mv a Ls[j] Ls[j])=kT d:=by
      rw [I6 b];exact aK (by simp [scl,kT]) fun t=>by rw [az,ir]; simp
     rw [e]; exact .zero
    ·exact Con.of_line (bA b (hL y hy)) (Xc (Yn.2 ⟨j,m,hj⟩)) c) (fun r h=>h.elim) hs
   rw [wT b hx (k a (Vt ..))] at t;exact pi f hx hne t
def Ji {d M:Nat} (hd:0<d) (B:0<M) {S:List V} (D:∀ a∈S,a.length=d/\Bd M a) {v:V} (A:v.length=d) (hc:content v=1) (N:∀ s∈S,dot s v=0)
  (I:∀ x,x.length=d->(∀ s∈S,dot s x=0)->∃ m n:Int,m≠0/\scl m x=scl n v):Bd ((2*d*M)^2^d) v:=by
 have u:∀ l∈(startU d).lines,l.length=d:=fun l hl=>(oC (d:=d)).lenL l hl;have K:=AF S (startU d).lines u v A ((oC (d:=d)).lines v A (fun e h=>h.elim) (fun i h=>by cases h)) N;have F:∀ l∈(startU d).lines,l.length=d/\Bd 1 l:=fun l hl=>by
  refine ⟨u l hl,fun i=>?_⟩;obtain ⟨j,hj,rfl⟩:=Vl.1 hl;rw [nF (Wt.1 hj)];split <;> simp
 have C:1<=2*d*M:=by have:=WV (show 1<=2*d by omega) B; simpa using this
 have f:=DY C S (startU d).lines d 1 (by simp [startU]) zO D F;rw [WT] at f;have ⟨w,o,j,hj⟩:∃ w∈oR S (startU d).lines,∃ j,at_ w j≠0:=by
  apply VI
  intro H;have E:∀ w∈oR S (startU d).lines,∀ j,at_ w j=0:=fun w o j=>YZ.1 fun e=>H ⟨w,o,j,e⟩;have L:∀ i,at_ v i=0:=by
   have key:∀ {x:V},Spn d (· ∈ oR S (startU d).lines) x->∀ i,at_ x i=0:=by
    intro x hx
    induction hx with
    | zero=>intro i; exact ir
    | @line x l c hx hl p =>
     intro i;rw [ak ((hx.length (fun l hl=>(f l hl).1) (fun r h=>h.elim)).trans (f l hl).1.symm),p i,E l hl i]; simp
    | ray c hc hx hr p=>exact hr.elim
    | @div x k O hl hx p =>
     intro i
     have:=p i
     rw [az] at this;rcases VH.1 this with h | h
     ·omega
     ·exact h
   exact key K
  have:=content_eq_zero.2 (zero_iff.2 L)
  omega
 obtain ⟨m,n,hm,e⟩:=I w (f w o).1 fun s hs=>rm S _ u s hs w o;have G:n≠0:=fun h0=>by
  have:=congrArg (fun z=>at_ z j) e
  simp only [az,h0,Yu] at this;rcases VH.1 this with h | h
  ·exact hm h
  ·exact hj h
 intro i;have h1:(m.natAbs:Int) ∣ n:=by
  have h2:∀ a∈v,(m.natAbs:Int) ∣ n*a:=fun a ha=>by
   obtain ⟨t,rfl⟩:=HH ha
   have:=congrArg (fun z=>at_ z t) e
   simp only [az] at this;rw [<- this];exact Int.natAbs_dvd.2 (Int.dvd_mul_right m _)
  have h3:(m.natAbs:Int) ∣ (content (scl n.natAbs v):Int):=kz fun a ha=>by
   obtain ⟨b,hb,rfl⟩:=Vl.1 ha;rcases Int.natAbs_eq n with hn | hn
   ·rw [<- hn]; exact h2 b hb
   ·have:=h2 b hb
    rw [hn,X9] at this;exact Int.dvd_neg.1 this
  rw [nt zO,hc] at h3
  have:=Yx.2 h3
  simp only [XN,Int.mul_one,Int.natCast_one] at this;exact YP.2 this
 obtain ⟨q,y⟩:=h1;have J:(at_ w i).natAbs=q.natAbs*(at_ v i).natAbs:=by
  have:=congrArg (fun z=>(at_ z i).natAbs) e
  simp only [az,YX,y] at this;simp only [XN] at this;rw [Wc] at this;exact ZJ zO this
 have hq0:1<=q.natAbs:=by
  have:q≠0:=fun h0=>G (by rw [y,h0]; simp)
  omega
 have:=(f w o).2 i
 rw [J] at this;have g:=Vy (at_ v i).natAbs hq0;omega
structure Re (d:Nat) (ps:List (Nat × V)) (u:Under):Prop where
 lines:ps.map (·.2)=u.lines
 lt:∀ q∈ps,q.1<d
 diag:∀ q∈ps,at_ q.2 q.1≠0
 apart:ps.Pairwise fun q q'=>at_ q.2 q'.1=0/\at_ q'.2 q.1=0
 rays:∀ r∈u.rays,∀ q∈ps,at_ r q.1=0
 contL:∀ l∈u.lines,content l=1
 contR:∀ r∈u.rays,content r=1
section
variable {d:Nat} {ps:List (Nat × V)}
def Co {α β:Type} (f:α->β) (l:List α) (i:Nat):(l.map f).eraseIdx i=(l.eraseIdx i).map f:=by
 simp [XK,List.map_take,List.map_drop]
def zp:∀ (l:List (Nat × V)),(l.map fun _=>(0:Int)).sum=0
 | []=>rfl
 | _ :: l=>by simp [zp l]
def LG (B:∀ q∈ps,q.2.length=d) (y:∀ q∈ps,at_ q.2 q.1≠0) (m:ps.Pairwise fun q q'=>at_ q.2 q'.1=0/\at_ q'.2 q.1=0) {x:V} (hx:Spn d (· ∈ ps.map (·.2)) x) (J:∀ q∈ps,at_ x q.1=0):∀ i,at_ x i=0:=by
 have C:ps.Nodup:=m.imp_of_mem fun {q q'} a D h e=>by
  subst e; exact y q a h.1
 have H:∀ q∈ps,∀ q'∈ps,q≠q'->at_ q.2 q'.1=0:=fun q a q' D hne=>by
  obtain ⟨i,hi⟩:=V9 a;obtain ⟨j,hj⟩:=V9 D;obtain ⟨z,rfl⟩:=VA.1 hi;obtain ⟨A,rfl⟩:=VA.1 hj;rcases X7 i j with hlt | heq | hlt
  ·exact (V2.1 m i j z A hlt).1
  ·subst heq; exact absurd rfl hne
  ·exact (V2.1 m j i A z hlt).2
 have E:∀ l,l∈ps.map (·.2)->l.length=d:=fun l hl=>by
  obtain ⟨q,a,rfl⟩:=Vl.1 hl;exact B q a
 have key:∀ {x:V},Spn d (· ∈ ps.map (·.2)) x->∃ k:Int,0<k/\∃ c:Nat × V->Int,(∀ i,k*at_ x i=(ps.map fun q=>c q*at_ q.2 i).sum):=by
  intro x hx
  induction hx with
  | zero=>exact ⟨1,zO,fun _=>0,fun i=>by rw [ir]; simp only [Yu,YI]; exact (zp ps).symm⟩
  | @line x l n hx hl f =>
   obtain ⟨k,b,c,hc⟩:=f;obtain ⟨q0,hq0,rfl⟩:=Vl.1 hl;refine ⟨k,b,fun r=>c r+(if r=q0 then k*n else 0),fun i=>?_⟩;rw [ak ((hx.length E (fun r h=>h.elim)).trans (B q0 hq0).symm)];have e:∀ (G:List (Nat × V)),G.Nodup->(G.map fun r=>(c r+(if r=q0 then k*n else 0))*at_ r.2 i).sum=(G.map fun r=>c r*at_ r.2 i).sum+(if q0∈G then k*n*at_ q0.2 i else 0):=by
    intro G
    induction G with
    | nil=>intro _; simp
    | cons g G v =>
     intro hg;obtain ⟨o,p⟩:=XX.1 hg;simp only [Vq,Yw,v p];by_cases t:g=q0
     ·subst t;simp only [if_pos rfl,VK,true_or,if_true,o,if_false]
      grind
     ·have:¬ q0=g:=fun e=>t e.symm
      simp only [if_neg t,VK,this,false_or]
      grind
   rw [e ps C,if_pos hq0,<- hc i]
   grind
  | ray c hc hx hr f=>exact hr.elim
  | @div x j hj hl hx f =>
   obtain ⟨k,b,c,hc⟩:=f;exact ⟨k*j,W2 b hj,c,fun i=>by rw [<- hc i,az]; grind⟩
 obtain ⟨k,b,c,hc⟩:=key hx;have F:∀ q∈ps,c q=0:=fun q a=>by
  have e1:=hc q.1;rw [J q a] at e1;have e2:∀ (G:List (Nat × V)),(∀ g∈G,g∈ps)->G.Nodup->(G.map fun s=>c s*at_ s.2 q.1).sum=if q∈G then c q*at_ q.2 q.1 else 0:=by
   intro G
   induction G with
   | nil=>intro _ _; simp
   | cons g G v =>
    intro w hg;obtain ⟨o,p⟩:=XX.1 hg;simp only [Vq,Yw,v (fun x hx=>w x (Vn _ hx)) p];by_cases u:g=q
    ·subst u;simp [o]
    ·have I:¬ q=g:=fun e=>u e.symm;rw [H g (w g (Vt ..)) q a u];simp [I]
  rw [e2 ps (fun g hg=>hg) C,if_pos a] at e1;rcases VH.1 (show c q*at_ q.2 q.1=0 by omega) with h1 | h1
  ·exact h1
  ·exact absurd h1 (y q a)
 intro i;have e1:=hc i
 have:(ps.map fun q=>c q*at_ q.2 i)=ps.map fun _=>(0:Int):=Xb fun q a=>by rw [F q a]; simp
 rw [this,zp] at e1;rcases VH.1 e1 with h1 | h1
 ·omega
 ·exact h1
def D7 {i:Nat} (hi:i<d):content (unitV d i)=1:=by
 have h1:(content (unitV d i):Int) ∣ 1:=by
  have:=OU (x:=unitV d i) (i:=i) (by rw [nF hi]; simp)
  rw [nF hi,if_pos rfl] at this;exact content_dvd this
 have:=Yx.2 h1
 simpa using this
def LI (d:Nat):Re d ((List.range d).map fun i=>(i,unitV d i)) (startU d):=by
 refine ⟨by simp [startU,Xu,Function.comp_def],fun q a=>?_,fun q a=>?_,?_,fun r hr=>(by cases hr),fun l hl=>?_,fun r hr=>(by cases hr)⟩
 ·obtain ⟨i,hi,rfl⟩:=Vl.1 a;exact Wt.1 hi
 ·obtain ⟨i,hi,rfl⟩:=Vl.1 a;rw [nF (Wt.1 hi)]; simp
 ·refine WE.2 (XO (fun {i j} hi hj hlt=>?_) YV);have hi:=Wt.1 hi;have hj:=Wt.1 hj;simp only;rw [nF hi,nF hj,if_neg zO,if_neg zO];exact ⟨rfl,rfl⟩
 ·obtain ⟨i,hi,rfl⟩:=Vl.1 hl;exact D7 (Wt.1 hi)
def RM (a u:V) (i:Nat):at_ (upV a u) i=0 ↔ at_ u i=0:=by
 unfold upV;split
 ·rw [az]; omega
 ·exact Zd
def QC {u:Under} {a:V} {E:V->Prop} (f:DD d E (· ∈ u.done) (· ∈ u.lines) u.rays) (h:Re d ps u) (eq:Bool):∃ S,Re d S (addU a eq u):=by
 have y:∀ q∈ps,q.2.length=d:=fun q c=>f.lenL q.2 (by rw [<- h.lines]; exact Xc c);unfold addU;split
 ·rename_i hn;have T:∀ x,x∈u.lines->dot a x=0:=fun x hx=>by
   have:=XL.1 hn x hx
   simpa using this
  refine ⟨ps,h.lines,h.lt,h.diag,h.apart,fun r hr q c=>?_,h.contL,fun r hr=>?_⟩
  ·rcases mem_cutL.1 hr with ⟨i,r,h1,h2,rfl⟩ | ⟨i,r,h1,h2,⟨h3,rfl⟩ | ⟨k,n,h3,z,h5,rfl⟩⟩
   ·exact h.rays _ (VD h1) q c
   ·exact h.rays _ (VD h1) q c
   ·rw [(kr q.1).1];unfold mx;rw [ak ((f.lenR _ (VD h1)).trans (f.lenR _ (VD h3)).symm),h.rays _ (VD h1) q c,h.rays _ (VD h3) q c]; simp
  ·rcases mem_cutL.1 hr with ⟨i,r,h1,h2,rfl⟩ | ⟨i,r,h1,h2,⟨h3,rfl⟩ | ⟨k,n,h3,z,h5,rfl⟩⟩
   ·exact h.contR _ (VD h1)
   ·exact h.contR _ (VD h1)
   ·refine iy ?_;have hr:=VD h1;have G:=VD h3;obtain ⟨b,hb,hne⟩:=f.off r hr;have hm:dot b (mx a r n)≠0:=fun e=>hne ((mE (f.keep r hr) (f.keep n G) h2 z hb).1 e).1
    apply VI
    intro B;have m:∀ i,at_ (mx a r n) i=0:=fun i=>YZ.1 fun e=>B ⟨i,e⟩;refine hm ?_;rw [(If (fH (f.keep r hr) (f.keep n G) h2 z).len).2 m,kh]
 ·rename_i i hi;obtain ⟨p,M,-⟩:=Wi.1 hi;have hl:u.lines.getD i []=u.lines[i]:=by simp [Vh,p]
  rw [hl];have hne:dot a u.lines[i]≠0:=by simpa using M
  have A:i<ps.length:=by have:=congrArg List.length h.lines; simp at this; omega
  have O:u.lines[i]=(ps[i]).2:=by
   have:(ps.map (·.2))[i]? = u.lines[i]?:=by rw [h.lines]
   rw [Wg,Vk A,Vk p] at this
   simpa using this.symm
  have K:(u.lines[i]).length=d:=f.lenL _ (Vm p)
  generalize w:upV a u.lines[i]=v
  have D:v.length=d:=by
   rw [<- w]; unfold upV; split
   ·exact scl_length K
   ·exact K
  have U:0<dot a v:=by
   rw [<- w]; unfold upV;split
   ·rw [dot_scl]; omega
   ·omega
  have Q:∀ t,at_ v t=0 ↔ at_ (ps[i]).2 t=0:=fun t=>by rw [<- w,RM,O]
  have g:∀ q∈ps.eraseIdx i,at_ v q.1=0:=fun q c=>by
   obtain ⟨j,N,hj⟩:=Yn.1 c;obtain ⟨F,rfl⟩:=VA.1 hj;rw [Q];rcases Nat.lt_or_gt_of_ne N with hlt | hlt
   ·exact (V2.1 h.apart j i F A hlt).2
   ·exact (V2.1 h.apart i j A F hlt).1
  have o:∀ x:V,x.length=d->∀ t,at_ v t=0->(at_ (foldV a v x) t=0 ↔ at_ x t=0):=fun x hx t C=>by
   unfold foldV;rw [(kr t).1];unfold mv;rw [ak (hx.trans D.symm),C];constructor
   ·intro e;rcases VH.1 (show dot a v*at_ x t=0 by omega) with h1 | h1
    ·omega
    ·exact h1
   ·intro e; rw [e]; simp
  have L:∀ x:V,x.length=d->(∃ t,at_ v t=0/\at_ x t≠0)->content (foldV a v x)=1:=fun x hx ⟨t,C,R⟩=>by
   have:at_ (foldV a v x) t≠0:=fun e=>R ((o x hx t C).1 e)
   unfold foldV at this ⊢;exact iy ⟨t,fun e=>this ((kr t).1.2 e)⟩
  refine ⟨(ps.eraseIdx i).map fun q=>(q.1,foldV a v q.2),?_,?_,?_,?_,?_,?_,?_⟩
  ·simp only [Xu,<- h.lines];rw [Co,Xu];rfl
  ·intro q c;obtain ⟨q0,hq0,rfl⟩:=Vl.1 c;exact h.lt q0 (V6 hq0)
  ·intro q c;obtain ⟨q0,hq0,rfl⟩:=Vl.1 c;have hm:=V6 hq0;exact fun e=>h.diag q0 hm ((o q0.2 (y q0 hm) q0.1 (g q0 hq0)).1 e)
  ·refine WE.2 ((h.apart.sublist (List.eraseIdx_sublist ps i)).imp_of_mem fun {q q'} c H I=>?_);exact ⟨(o q.2 (y q (V6 c)) q'.1 (g q' H)).2 I.1,(o q'.2 (y q' (V6 H)) q.1 (g q c)).2 I.2⟩
  ·intro r hr q c;obtain ⟨q0,hq0,rfl⟩:=Vl.1 c;rcases VE.1 hr with hr | hr
   ·obtain ⟨r0,s,rfl⟩:=Vl.1 hr;exact (o r0 (f.lenR r0 s) q0.1 (g q0 hq0)).2 (h.rays r0 s q0 (V6 hq0))
   ·cases eq
    ·simp at hr; subst hr; exact g q0 hq0
    ·simp at hr
  ·intro l hl;obtain ⟨x,hx,rfl⟩:=Vl.1 hl;rw [<- h.lines,Co] at hx;obtain ⟨q,c,rfl⟩:=Vl.1 hx;have hm:=V6 c;exact L q.2 (y q hm) ⟨q.1,g q c,h.diag q hm⟩
  ·intro r hr;rcases VE.1 hr with hr | hr
   ·obtain ⟨r0,s,rfl⟩:=Vl.1 hr;have J:=f.lenR r0 s;obtain ⟨b,hb,hn⟩:=f.off r0 s;have P:dot b v=0:=by
     have m:=f.lineI _ (Vm p) b hb;rw [<- w]; unfold upV;split
     ·rw [dot_scl,m]; simp
     ·exact m
    unfold foldV;refine iy ?_
    apply VI
    intro B;have m:∀ t,at_ (mv a v r0) t=0:=fun t=>YZ.1 fun e=>B ⟨t,e⟩;have e:=wS (a:=a) D J b;rw [(If (bA D J)).2 m,kh,P] at e;rcases VH.1 (show dot a v*dot b r0=0 by omega) with h1 | h1
    ·omega
    ·exact hn h1
   ·cases eq
    ·simp at hr;subst hr
     have:=h.contL _ (Vm p)
     rw [<- w]; unfold upV;split
     ·rw [ya]; exact this
     ·exact this
    ·simp at hr
def Oz {M:Nat} (hd:0<d) (G:0<M) {u:Under} {Es:List V} (o:DD d (· ∈ Es) (· ∈ u.done) (· ∈ u.lines) u.rays) (h:Re d ps u) (D:∀ e∈Es,e.length=d/\Bd M e) (E:∀ i∈u.done,i.length=d/\Bd M i) :
  (∀ l∈u.lines,Bd ((2*d*M)^2^d) l)/\(∀ r∈u.rays,Bd ((2*d*M)^2^d) r):=by
 have H:∀ q∈ps,q.2.length=d:=fun q b=>o.lenL q.2 (by rw [<- h.lines]; exact Xc b);have J:∀ {t:Nat},t<d->(unitV d t).length=d/\Bd M (unitV d t):=fun {t} A=>⟨by simp [unitV,kT],fun i=>by rw [nF A]; split <;> simp <;> omega⟩
 have y:∀ {t:Nat} {x:V},t<d->x.length=d->dot (unitV d t) x=at_ x t:=fun {t x} A hx=>by
  have key:∀ (n t:Nat) (x:V),t<n->x.length=n->dot (unitV n t) x=at_ x t:=by
   intro n
   induction n with
   | zero=>intro t x h; omega
   | succ n C =>
    intro t x A hx;cases x with
    | nil=>simp at hx
    | cons a x =>
     cases t with
     | zero =>
      have:dot (kT n) x=0:=by rw [dot_comm,kh]
      simp [unitV,kT,Wk,dot,at_] at this ⊢;omega
     | succ t =>
      have:=C t x zO (by simpa using hx)
      simp [unitV,kT,Wk,dot,at_] at this ⊢;exact this
  exact key d t x A hx
 have F:∀ {x:V},Spn d (· ∈ u.lines) x->(∀ q∈ps,at_ x q.1=0)->∀ i,at_ x i=0:=fun hx m=>LG H h.diag h.apart (by rw [h.lines]; exact hx) m;constructor
 ·intro l hl;rw [<- h.lines] at hl;obtain ⟨q0,hq0,rfl⟩:=Vl.1 hl;have p:=H q0 hq0;have z:q0.2∈u.lines:=by rw [<- h.lines]; exact hl
  refine Ji hd G (S:=Es++u.done++(ps.filter fun q=>!decide (q.1=q0.1)).map fun q=>unitV d q.1) (fun a ha=>?_) p (h.contL _ z) (fun s hs=>?_) (fun x hx m=>?_)
  ·rcases VE.1 ha with ha | ha
   ·rcases VE.1 ha with ha | ha
    ·exact D a ha
    ·exact E a ha
   ·obtain ⟨q,b,rfl⟩:=Vl.1 ha;exact J (h.lt q (Vx.1 b).1)
  ·rcases VE.1 hs with hs | hs
   ·rcases VE.1 hs with hs | hs
    ·exact o.lineE _ z s hs
    ·exact o.lineI _ z s hs
   ·obtain ⟨q,b,rfl⟩:=Vl.1 hs;obtain ⟨I,O⟩:=Vx.1 b;rw [y (h.lt q I) p];have hne:q≠q0:=fun e=>by subst e; simp at O
    obtain ⟨i,hi⟩:=V9 I;obtain ⟨j,hj⟩:=V9 hq0;obtain ⟨v,rfl⟩:=VA.1 hi;obtain ⟨w,rfl⟩:=VA.1 hj;rcases X7 i j with hlt | heq | hlt
    ·exact (V2.1 h.apart i j v w hlt).2
    ·subst heq; exact absurd rfl hne
    ·exact (V2.1 h.apart j i w v hlt).1
  ·have Q:Spn d (· ∈ u.lines) x:=o.lines x hx (fun e he=>m e (by simp [he])) (fun i hi=>m i (by simp [hi]));refine ⟨at_ q0.2 q0.1,at_ x q0.1,h.diag q0 hq0,?_⟩;have hy:=F (x:=mix (at_ q0.2 q0.1) x (-(at_ x q0.1)) q0.2) (Spn.sum2 o.lenL Q (dI p z) _ _) (fun q b=>by
    rw [ak (hx.trans p.symm)];by_cases B:q.1=q0.1
    ·rw [B]; grind
    ·have h1:at_ x q.1=0:=by
      have:=m (unitV d q.1) (W3 _ (Xc (f:=fun q=>unitV d q.1) (Vx.2 ⟨b,by simp [B]⟩)))
      rw [y (h.lt q b) hx] at this; exact this
     have h2:at_ q0.2 q.1=0:=by
      have hne:q≠q0:=fun e=>B (by rw [e]);obtain ⟨i,hi⟩:=V9 b;obtain ⟨j,hj⟩:=V9 hq0;obtain ⟨v,rfl⟩:=VA.1 hi;obtain ⟨w,rfl⟩:=VA.1 hj;rcases X7 i j with hlt | heq | hlt
      ·exact (V2.1 h.apart i j v w hlt).2
      ·subst heq; exact absurd rfl hne
      ·exact (V2.1 h.apart j i w v hlt).1
     rw [h1,h2]; simp)
   refine aK (by rw [scl_length hx,scl_length p]) fun i=>?_
   have:=hy i
   rw [ak (hx.trans p.symm)] at this;rw [az,az]; grind
 ·intro r hr;have g:=o.keep r hr;refine Ji hd G (S:=Es++(u.done.filter fun i=>decide (dot i r=0))++ps.map fun q=>unitV d q.1) (fun a ha=>?_) g.len (h.contR r hr) (fun s hs=>?_) (fun x hx m=>?_)
  ·rcases VE.1 ha with ha | ha
   ·rcases VE.1 ha with ha | ha
    ·exact D a ha
    ·exact E a (Vx.1 ha).1
   ·obtain ⟨q,b,rfl⟩:=Vl.1 ha;exact J (h.lt q b)
  ·rcases VE.1 hs with hs | hs
   ·rcases VE.1 hs with hs | hs
    ·exact g.eq s hs
    ·simpa using (Vx.1 hs).2
   ·obtain ⟨q,b,rfl⟩:=Vl.1 hs;rw [y (h.lt q b) g.len];exact h.rays r hr q b
  ·
   have ⟨n,X,hn⟩:∃ n:Int,0<=n/\∀ i∈u.done,dot i r≠0->0<=n*dot i r+dot i x:=by
    have key:∀ (l:List V),(∀ i∈l,0<=dot i r)->∃ n:Int,0<=n/\∀ i∈l,dot i r≠0->0<=n*dot i r+dot i x:=by
     intro l
     induction l with
     | nil=>intro _; exact ⟨0,zO,fun i hi=>by cases hi⟩
     | cons a l C =>
      intro hl;obtain ⟨n,hn,L⟩:=C fun i hi=>hl i (Vn _ hi);refine ⟨n+(dot a x).natAbs,zO,fun i hi hne=>?_⟩;have h0:=hl i hi;have N:1<=dot i r:=zO;have e:(n+((dot a x).natAbs:Int))*dot i r=n*dot i r+(dot a x).natAbs*dot i r:=by grind
      rw [e];have T:((dot a x).natAbs:Int)*1<=(dot a x).natAbs*dot i r:=Yp N zO;rcases VK.1 hi with rfl | hi
      ·have U:=V8 hn h0;omega
      ·have:=L i hi hne
       omega
    exact key u.done fun i hi=>g.ge i hi
   have K:∀ i∈u.done,dot i r=0->dot i x=0:=fun i hi h0=>m i (by simp [hi,h0]);have hy:Keep d (· ∈ Es) (· ∈ u.done) (mix n r 1 x):=by
    refine ⟨mix_length g.len hx,fun e he=>?_,fun i hi=>?_⟩
    ·rw [aJ _ _ _ (g.len.trans hx.symm),g.eq e he,m e (by simp [he])]; simp
    ·rw [aJ _ _ _ (g.len.trans hx.symm)];by_cases h0:dot i r=0
     ·rw [h0,K i hi h0]; simp
     ·have:=hn i hi h0; omega
   obtain ⟨k,c,W,hc,P⟩:=o.ext r hr _ hy fun i hi h0=>by
    rw [aJ _ _ _ (g.len.trans hx.symm),h0,K i hi h0]; simp
   have R:=F P fun q b=>by
    rw [ak (hy.len.trans g.len.symm),ak (g.len.trans hx.symm),h.rays r hr q b]
    have:=m (unitV d q.1) (W3 _ (Xc (f:=fun q:Nat × V=>unitV d q.1) b))
    rw [y (h.lt q b) hx] at this;rw [this]; simp
   refine ⟨k,c-k*n,zO,aK (by rw [scl_length hx,scl_length g.len]) fun i=>?_⟩
   have:=R i
   rw [ak (hy.len.trans g.len.symm),ak (g.len.trans hx.symm)] at this;rw [az,az]; grind
end
end Go.Proofs.YtkmepoeklibegaaGreat.Lin
namespace Go.Proofs.YtkmepoeklibegaaGreat.Ev
open Go Nn
def QE {x y a:AV} (ha:One a):iJ [x,y] [((1,1),a)]=some (.agg [x,a]):=by
 simp [iJ,dj,ha.1,ha.2]
theorem aQ (T0:Tm) (Vs:List AV) (u v w x:Nat × Option Nat):cw T0 Vs [u,v,w,x]=((((List.replicate T0.length .undef).set u.1 (mV T0 Vs u)).set v.1 (mV T0 Vs v)).set w.1 (mV T0 Vs w)).set x.1 (mV T0 Vs x):=rfl
section
variable {tab:Nat->Option au} {f n:Nat} {res:List (Nat × Option (Option Nat))} {body:ACode} {H:Heap} {Q:AV->Heap->Prop}
def T9 {a b c d e:AV} (i:tab f=some ⟨5,n,res,body,none⟩) (hn:5<=n) (h:∀ T:Tm,T.length=n->aa T 0=a->aa T 1=b->aa T 2=c->aa T 3=d->aa T 4=e->WC tab false body T H (wB res Q)):Ans tab (.fn f [a,b,c,d,e]) H Q :=
 pa i rfl rfl hn fun T hl g=>h T hl (g 0 (by simp)) (g 1 (by simp)) (g 2 (by simp)) (g 3 (by simp)) (g 4 (by simp))
end
def nk {H:Heap} (a:Wf H) {v:AV} {l:List Int} (hs:RowV H v l) {i:Nat} (hi:i<l.length):∃ w,cd H w (l[i]).natAbs/\Ldd H (some 2) (aq v (i*2)) (.agg [.bool (decide (l[i]<0)),w])/\cL 2 v (.int .i64 (i:Int))=some (aq v (i*2)):=by
 obtain ⟨w,h1,h2,-,-⟩:=kP hs hi;exact ⟨w,h1,Ldd.of a h2,SlV.idx hs .i64 i hi⟩
def BoxI (H:Heap) (b:Nat) (z:Int):Prop:=∃ q,H.get b=some (.cells [.bool (decide (z<0)),q] ad true)/\cd H q z.natAbs
def BoxI.mono {H H':Heap} (hs:Sub H H') {b:Nat} {z:Int} (h:BoxI H b z):BoxI H' b z:=by
 obtain ⟨q,h1,h2⟩:=h; exact ⟨q,hs.get _ _ h1,h2.mono hs⟩
def BoxR (H:Heap) (b:Nat) (l:List Int):Prop:=∃ q,H.get b=some (.cells [q] af true)/\RowV H q l
def BoxR.mono {H H':Heap} (hs:Sub H H') {b:Nat} {l:List Int} (h:BoxR H b l):BoxR H' b l:=by
 obtain ⟨q,h1,h2⟩:=h; exact ⟨q,hs.get _ _ h1,h2.mono hs⟩
section
variable {tab:Nat->Option au} {H:Heap} {s:AV}
def C4 (C:Code tab) (j:Wf H) {i:Int} {a:AV} {b:Nat} {x y:Int} (ha:IntV H a x) (hb:BoxI H b y) (hx:MuI x) (hy:MuI y) :
  Ans tab (.fn mr [.int .i64 i,a,.ptr b 0]) H fun v H'=>IntV H' v (x*y)/\Kp H H':=by
 obtain ⟨p,rfl,hp⟩:=ha;obtain ⟨q,hb,h⟩:=hb;have op:=hp.one;have lb:=j _ _ hb;refine mN C.q86 zU fun T hl c d f=>?_;refine zW (cp hl c d f hb) ?_;refine AnsH.use (mY C zF ⟨p,rfl,hp.mono (zG H)⟩ ⟨q,rfl,h.mono (zG H)⟩ hx hy) ?_;rintro v H2 ⟨⟨w,rfl,hr⟩,g⟩;obtain ⟨k2,_,k⟩:=zT H zK g;have n:=hr.one;have d1:=g.get (b:=H.next+1) (e:=.cells [.bool false,.nilSl] ad true) (da);have l:=k _ _ d1;have m:NoTy [ae] H2 (H.next+1):=NoTy.ty d1 zU;refine zW (cp hl c d f d1) ?_;exact ⟨⟨w,rfl,SlV.monoT (E:=bY cB) zS hr⟩,zK⟩
def uv (C:Code tab) (E:Wf H) {a:AV} {l:List Int} {y:Int} (hs:RowV H s l) (ha:IntV H a y) (o:l.length<=64) (m:∀ z∈l,MuI z) (hy:MuI y) :
  Ans tab (.fn ng [s,a]) H fun v H'=>∃ r,v=.tup [r,.int .i64 0]/\RowV H' r (Lin.scl y l)/\Kp H H'/\Fr H r:=by
 obtain ⟨q,rfl,h⟩:=ha;have G:=h.one;have os:=hs.one;refine bC C.q59 zU fun T hl c f=>?_;refine zW (aB hl c f) ?_;refine AnsH.eq (gB C (d:=l.length) zF (Sk hs (zG H) (by refine uo ?_; rfl)) (by simp) (by simp) o fun r hr=>?_) fun H2 j=>?_
 ·simp at hr; subst hr; exact ⟨rfl,fun z x=>(m z x).sm⟩
 obtain ⟨k2,_,I⟩:=zT H zK j;have b0:=j.get (b:=H.next) (e:=.cells [.bool (decide (y<0)),q] ad true) (da);refine zW (aV hl c f @b0) ?_;refine AnsH.eq (fd C zF ⟨q,rfl,h.mono (zG H)⟩ hy.sm) fun B k=>?_;obtain ⟨A,_,J⟩:=zT H zK k;have n:=k.get (b:=H.next) b0;refine zW (aB hl c f) ?_;refine AnsH.use (xH C zF (hs.mono (zG H)) zO (fun _ z=>z*y) fun i hi H' w g u=>?_) ?_
 ·exact C4 C g.wf u ⟨q,g.get (b:=H.next) (zV n),h.mono (Kp.sub (H:=H) (Kp.trans zK g))⟩ (m _ (Vm hi)) hy
 ·rintro v D ⟨hr,t,p⟩;obtain ⟨F,_,_⟩:=zT H zK t;have e:l.mapIdx (fun _ z=>z*y)=Lin.scl y l:=by
   apply Xk <;> simp [Lin.scl,Zq]
  rw [e] at hr;refine zW (aB hl c f) ?_;exact ⟨_,rfl,hr,zK,fun b hb=>VB A.le (VB (VV _ _) (p b hb))⟩
def BY (C:Code tab) (d:Wf H) {a:AV} {l:List Int} {y:Int} (hs:RowV H s l) (ha:IntV H a y) (b:l.length<=64) (c:∀ z∈l,MuI z) (hy:MuI y) :
  Ans tab (.fn ng [s,a]) H fun v H'=>∃ r,v=.tup [r,.int .i64 0]/\RowV H' r (Lin.scl y l)/\Kp H H':=(uv C d hs ha b c hy).mono fun _ _ ⟨r,h1,h2,h3,_⟩=>⟨r,h1,h2,h3⟩
def Mk {l m:List Int} (h:l.length=m.length) (g:Int->Int->Int):l.mapIdx (fun i z=>g z (m.getD i 0))=List.zipWith g l m:=by
 apply Xk
 ·simp [h]
 ·intro i h1 h2;have hi:i<m.length:=by simp at h1; omega
  simp [hi]
def GM (C:Code tab) (u:Wf H) {i:Nat} {a:AV} {bm I b:Nat} {x m n:Int} {l:List Int} (hi:i<l.length) (ha:IntV H a x) (hm:BoxI H bm m) (hn:BoxI H I n) (hb:BoxR H b l) (hx:MuI x) (N:MuI m) (P:MuI n) (hy:MuI l[i]) (R:eR (m*x)) (S:eR (n*l[i])) :
  Ans tab (.fn pt [.int .i64 (i:Int),a,.ptr bm 0,.ptr I 0,.ptr b 0]) H fun v H'=>IntV H' v (m*x+n*l[i])/\Kp H H':=by
 obtain ⟨p,rfl,hp⟩:=ha;obtain ⟨q,hb,U⟩:=hb;obtain ⟨Y,c,O⟩:=hm;obtain ⟨Z,d,Q⟩:=hn;have op:=hp.one;have lb:=u _ _ hb;have lm:=u _ _ c;have ln:=u _ _ d;obtain ⟨w,X,L,t⟩:=nk u U hi;have s:=L.put;have o:=L.ld;refine T9 C.q143 zU fun T hl f g h j k=>?_;refine zW (eF hl f g h j k) ?_;refine aM ?_;refine zD (By hl f g h j k hb c d t s o) ?_;refine AnsH.use (mY C zF ⟨Y,rfl,O.mono (zG H)⟩ ⟨p,rfl,hp.mono (zG H)⟩ N hx) ?_;rintro v H2 ⟨V,J⟩;obtain ⟨k2,_,w2⟩:=zT H zK J;have G:=L.mono k2;have z:=G.put;have y:=G.ld;have A:=k2.get hb;have F:=k2.get d;have D:=k2.get c;refine zD (GB hl f g h j k hb c d t s o z y A F D) ?_;refine AnsH.use (mY C zF ⟨Z,rfl,Q.mono (zG H)⟩ ⟨w,rfl,X.mono (zG H)⟩ P hy) ?_;rintro v3 H3 ⟨W,B⟩;obtain ⟨k3,_,w3⟩:=zT H zK B;refine zD (GB hl f g h j k hb c d t s o z y A F D) ?_;refine AnsH.use (IG C zF (V.mono B.sub) W R S) ?_;rintro v4 M ⟨⟨r,rfl,hr⟩,K⟩;obtain ⟨k4,_,w4⟩:=zT H zK K;have ab:=hr.one;have d1:=K.get (b:=H.next+1) (B.get (b:=H.next+1) (J.get (b:=H.next+1) (e:=.cells [.bool false,.nilSl] ad true) (da)));have aa:=w4 _ _ d1;have m1:NoTy [ae] M (H.next+1):=NoTy.ty d1 zU;refine zD (JV hl f g h j k hb c d t s o z y A F D d1) ?_;exact ⟨⟨r,rfl,SlV.monoT (E:=bY cB) zS hr⟩,zK⟩
def II (C:Code tab) (Y:Wf H) {vm M a b:AV} {m n:Int} {x y:List Int} (hm:IntV H vm m) (hn:IntV H M n) (ha:RowV H a x) (hb:RowV H b y) (L:x.length=y.length) (Q:x.length<=64) (J:MuI m) (K:MuI n) (D:∀ z∈x,MuI z/\eR (m*z)) (E:∀ z∈y,MuI z/\eR (n*z)) :
  Ans tab (.fn wI [vm,a,M,b]) H fun v H'=>∃ r,v=.tup [r,.int .i64 0]/\RowV H' r (Lin.mix m x n y)/\Kp H H':=by
 obtain ⟨q,rfl,A⟩:=hm;obtain ⟨s,rfl,B⟩:=hn;have om:=A.one;have on:=B.one;have oa:=ha.one;have ob:=hb.one;refine Qw C.q131 zU fun T hl c f g h=>?_;refine zW (cp hl c f g h) ?_;refine AnsH.eq (fd C zF ⟨q,rfl,A.mono (zG H)⟩ J.sm) fun H2 l=>?_;obtain ⟨k2,_,w2⟩:=zT H zK l;have b0:=l.get (b:=H.next) (e:=.cells [.bool (decide (m<0)),q] ad true) (da);have I:=l.get (b:=H.next+1) (e:=.cells [.bool (decide (n<0)),s] ad true) (da);have N:=l.get (b:=H.next+2) (e:=.cells [b] af true) (da);refine zW (eF hl c f g h I) ?_;refine AnsH.eq (fd C zF ⟨s,rfl,B.mono (zG H)⟩ K.sm) fun V o=>?_;obtain ⟨Z,_,U⟩:=zT H zK o;have O:=o.get (b:=H.next) b0;have P:=o.get (b:=H.next+1) I;have t:=o.get (b:=H.next+2) N;have aa:=U _ _ t;refine zW (eF hl c f g h @t) ?_;refine AnsH.eq (gB C (d:=x.length) zF (BF ha hb (zG H) (by refine uo ?_; rfl)) (by simp) (by simp) Q fun r hr=>?_) fun W p=>?_
 ·simp at hr; rcases hr with rfl | rfl
  ·exact ⟨rfl,fun z F=>(D z F).1.sm⟩
  ·exact ⟨L.symm,fun z F=>(E z F).1.sm⟩
 obtain ⟨k4,_,w4⟩:=zT H zK p;have d0:=p.get (b:=H.next) (e:=.cells [.bool (decide (m<0)),q] ad true) (zV O);have d1:=p.get (b:=H.next+1) (e:=.cells [.bool (decide (n<0)),s] ad true) (zV @P);have d2:=p.get (b:=H.next+2) (e:=.cells [b] af true) (zV @t);refine zW (cp hl c f g h) ?_;refine AnsH.use (ze C zF (ha.mono (zG H)) zO (fun i z=>m*z+n*y.getD i 0) fun i hi H' w j S=>?_) ?_
 ·have k:i<y.length:=zO;have e:y.getD i 0=y[i]:=by simp [k]
  have G:Sub H H':=Kp.sub (H:=H) (Kp.trans zK j);show Ans tab _ H' fun v H2=>IntV H2 v (m*x[i]+n*y.getD i 0)/\Kp H' H2;rw [e];exact GM C j.wf k S ⟨q,j.get (b:=H.next) (zV d0),A.mono G⟩ ⟨s,j.get (b:=H.next+1) (zV d1),B.mono G⟩ ⟨b,j.get (b:=H.next+2) (zV d2),hb.mono G⟩ (D _ (Vm hi)).1 J K (E _ (Vm k)).1 (D _ (Vm hi)).2 (E _ (Vm k)).2
 ·rintro v X ⟨hr,R⟩;obtain ⟨k5,_,_⟩:=zT H zK R;rw [Mk L (fun u v=>m*u+n*v)] at hr;refine zW (cp hl c f g h) ?_;exact ⟨_,rfl,hr,zK⟩
def xn (a b:List Int) (j:Nat):Int:=Lin.dot (a.take j) (b.take j)
def FR:∀ (a b:List Int) (x y:Int),a.length=b.length->Lin.dot (a++[x]) (b++[y])=Lin.dot a b+x*y
 | [],[],x,y,_=>by simp [Lin.dot]
 | [],_ :: _,x,y,h=>by simp at h
 | _ :: _,[],x,y,h=>by simp at h
 | u :: a,v :: b,x,y,h=>by
  have:=FR a b x y (by simpa using h)
  simp only [Xy,Lin.dot,this];omega
def xl {a b:List Int} {j:Nat} (ha:j<a.length) (hb:j<b.length):xn a b (j+1)=xn a b j+a[j]*b[j]:=by
 unfold xn;rw [Vr ha,Vr hb,FR _ _ _ _ (by simp; omega)]
def FS {a b:List Int} (h:a.length=b.length):xn a b a.length=Lin.dot a b:=by
 unfold xn;rw [VO,h,VO]
def PM (C:Code tab) (hw:Wf H) {a b:AV} {x y:List Int} (ha:RowV H a x) (hb:RowV H b y) (P:x.length=y.length) (U:x.length<=64) (O:∀ z∈x,MuI z) (Q:∀ z∈y,MuI z) (hp:∀ i (h:i<x.length) (h':i<y.length),eR (x[i]*y[i])) (V:∀ j,j<=x.length->eR (xn x y j)) :
  Ans tab (.fn rZ [a,b]) H fun v H'=>∃ r,v=.tup [r,.int .i64 0]/\IntV H' r (Lin.dot x y)/\Kp H H':=by
 have oa:=ha.one;have ob:=hb.one;refine bC C.q60 zU fun T hl c f=>?_;refine zW (aB hl c f) ?_;refine AnsH.eq (gB C (d:=x.length) zF (BF ha hb (zG H) (by refine uo ?_; rfl)) (by simp) (by simp) U fun r hr=>?_) fun H2 K=>?_
 ·simp at hr; rcases hr with rfl | rfl
  ·exact ⟨rfl,fun z G=>(O z G).sm⟩
  ·exact ⟨P.symm,fun z G=>(Q z G).sm⟩
 obtain ⟨k2,_,w2⟩:=zT H zK K;have b0:=K.get (b:=H.next) (e:=.cells [.bool false,.nilSl] ad true) (da);refine zW (aV hl c f ha.lenV) ?_;refine am H [] (fun j _ H'=>BoxI H' H.next (xn x y j)) (a:=0) (N:=x.length) rfl (by refine zW (aB hl c f) ?_; rfl) (zV (aB hl c f)) (Vz _) zO (by simp only [Vg,hl]; rfl) rfl (fun j vs H' m h=>h.mono (Sub.bump H' m)) zK ⟨.nilSl,by refine zW @b0 ?_; simp [xn,Lin.dot],by simpa [xn,Lin.dot] using gZ _⟩ ?_ ?_
 ·rintro j T1 n _ hj k s l g ⟨q,hq0,p⟩;have w1:=g.wf;have ab:=g.le;have o:j<y.length:=zO;have af:aa T1 14=a:=(l.at_ 14 zU).trans (zV (aA hl c));have t4:aa T1 4=.ptr H.next 0:=(l.at_ 4 zU).trans (zV (aB hl c f))
  have t1:aa T1 1=b:=(l.at_ 1 zU).trans (zV (aV hl c f f));obtain ⟨w,hn,Y,-,-⟩:=kP (ha.mono g.sub) hj;have W:cL 2 a (.int .i64 (j:Int))=some (aq a (j*2)):=SlV.idx ha .i64 j hj;obtain ⟨u,hu,L,B⟩:=nk w1 (hb.mono g.sub) o;have ow:=hn.one;have ai:=w1 _ _ hq0;have A:=L.put;have t:=L.ld;have oq:=p.one;simp only [Vg,hl] at k;refine zW (cp k af s W Y) ?_;refine aM ?_;refine zD (jY k t4 t1 s hq0 B A t) ?_;refine AnsH.use (mY C zF ⟨w,rfl,hn.mono (zG n)⟩ ⟨u,rfl,hu.mono (zG n)⟩ (O _ (Vm hj)) (Q _ (Vm o))) ?_;rintro v S ⟨Z,X⟩;obtain ⟨k13,_,_⟩:=zT n zK X;have I:Kp H S:=Kp.trans g k13;have ag:=I.le;have w3:=I.wf;have D:=k13.get hq0;refine zD (lh k t4 t1 s hq0 B A t D) ?_;refine AnsH.use (IG C zF ⟨q,rfl,p.mono (zG n)⟩ Z (V j zO) (hp j hj o)) ?_;rintro v4 J ⟨⟨r,rfl,hr⟩,M⟩;have R:Kp H J:=Kp.trans I M;have ah:=R.le;have w4:=R.wf;have al:=hr.one;have F:=M.get D;have ak:=w4 _ _ F;have m0:NoTy [ae] J H.next:=NoTy.ty F zU
  refine zD (ur k t4 t1 s hq0 B A t D F) ?_;refine ⟨zK,r,?_,?_⟩
  ·rw [xl hj o]; exact da
  ·rw [xl hj o]; exact SlV.monoT (E:=bY cB) zS hr
 ·rintro T1 n k l g ⟨q,hq0,p⟩;have w1:=g.wf;have ab:=g.le;have t4:aa T1 4=.ptr H.next 0:=(l.at_ 4 zU).trans (zV (aB hl c f))
  have t5:aa T1 5=.int .i64 0:=(l.at_ 5 zU).trans (zV (aB hl c f));simp only [Vg,hl] at k;rw [FS P] at hq0 p;refine zW (aV k t4 t5 hq0) ?_;exact ⟨_,rfl,⟨q,rfl,p⟩,zK⟩
end
def AK {l:List Int} (h:∀ z∈l,eR z):Sm (Lin.content l):=by
 by_cases h0:Lin.content l=0
 ·rw [h0]; unfold Sm; rw [cQ]; simp
 ·have b:∃ a∈l,a≠0:=VI fun hn=>h0 (Lin.content_eq_zero.2 fun a ha=>VI fun hne=>hn ⟨a,ha,hne⟩);obtain ⟨a,ha,hne⟩:=b;have hd:=Lin.content_dvd ha;have c:Lin.content l<=a.natAbs:=Nat.le_of_dvd zO (YP.1 hd);exact Sm.mono c (h a ha)
def D9 {l:List Int} {j:Nat} (hj:j<l.length):Lin.content (l.take (j+1))=Nat.gcd (Lin.content (l.take j)) (l[j]).natAbs:=by
 unfold Lin.content;rw [Vr hj,Yc];rfl
section
variable {tab:Nat->Option au} {H:Heap} {s:AV}
def EE (C:Code tab) (D:Wf H) {l:List Int} (hs:RowV H s l) (o:l.length<=64) (n:∀ z∈l,eR z) :
  Ans tab (.fn nP [s]) H fun v H'=>∃ r,v=.tup [r,.int .i64 0]/\cd H' r (Lin.content l)/\Kp H H':=by
 have os:=hs.one;refine dg C.q134 zU fun T hl b=>?_;refine zW (aA hl b) ?_;refine AnsH.eq (gB C (d:=l.length) zF (Sk hs (zG H) (by refine uo ?_; rfl)) (by simp) (by simp) o fun r hr=>?_) fun H2 t=>?_
 ·simp at hr; subst hr; exact ⟨rfl,n⟩
 obtain ⟨k2,_,G⟩:=zT H zK t;refine zW (aB hl b hs.lenV) ?_;refine am H [2] (fun j vs H'=>∃ c,vs=[c]/\cd H' c (Lin.content (l.take j))) (a:=0) (N:=l.length) rfl (by refine zW (aA hl b) ?_; rfl) (zV (aA hl b)) (Vz _) zO (by simp only [Vg,hl]; rfl) rfl (fun j vs H' m ⟨c,h1,h2⟩=>⟨c,h1,h2.mono (Sub.bump H' m)⟩) zK ⟨.nilSl,by exact zV (aA hl b),by simpa [Lin.content] using gZ _⟩ ?_ ?_
 ·rintro j T1 i _ hj f p k e ⟨c,g,hc⟩;have w1:=e.wf;have y:=e.le;simp only [Vq,Vw,Vv,and_true] at g;have A:aa T1 11=s:=(k.at_ 11 zU).trans (zV (aA hl b));obtain ⟨w,hn,x,-,-⟩:=kP (hs.mono e.sub) hj;have q:cL 2 s (.int .i64 (j:Int))=some (aq s (j*2)):=SlV.idx hs .i64 j hj;have F:=hn.one;simp only [Vg,hl] at f;refine zW (eF f A p q x g) ?_;refine AnsH.use (Qv C zF (hc.mono (zG i)) (hn.mono (zG i)) (AK fun z h=>n z (Xg h)) (n _ (Vm hj))) ?_;rintro v B ⟨r,rfl,hr,u⟩;obtain ⟨E,_,I⟩:=zT H zK u;refine zW f ?_;refine ⟨zK,_,rfl,?_⟩;rw [D9 hj];exact hr
 ·rintro T1 i f k e ⟨c,g,hc⟩;have w1:=e.wf;have y:=e.le;simp only [Vq,Vw,Vv,and_true] at g;have t3:aa T1 3=.int .i64 0:=(k.at_ 3 zU).trans (zV (aA hl b));simp only [Vg,hl] at f;rw [VO] at hc;refine zW (aB f g t3) ?_;exact ⟨_,rfl,hc,zK⟩
def ED (C:Code tab) (h:Wf H) {i:Int} {a:AV} {x:Int} (ha:IntV H a x) (hx:eR x) :
  Ans tab (.fn nO [.int .i64 i,a]) H fun v H'=>IntV H' v x/\Kp H H':=by
 obtain ⟨p,rfl,hp⟩:=ha;have op:=hp.one;refine bC C.q122 zU fun T hl c d=>?_;refine zW (aB hl c d) ?_;refine aM ?_;refine zD (aB hl c d) ?_;refine AnsH.use (jK C zF (hp.mono (zG H)) (by unfold eR Sm at hx; omega)) ?_;rintro v H2 ⟨hr,f⟩;obtain ⟨k2,_,g⟩:=zT H zK f;have l:=hr.one;have b0:=f.get (b:=H.next) (e:=.cells [.bool (decide (x<0)),p] ad true) (da);have d1:=f.get (b:=H.next+1) (e:=.cells [.bool false,.nilSl] ad true) (da);have j:=g _ _ d1;have k:NoTy [ae] H2 (H.next+1):=NoTy.ty d1 zU;refine zD (cp hl c d @b0 d1) ?_;exact ⟨⟨v,rfl,SlV.monoT (E:=bY cB) zS hr⟩,zK⟩
def zf (C:Code tab) (h:Wf H) {l:List Int} (hs:RowV H s l) (b:l.length<1099511627776) (g:∀ z∈l,eR z) :
  Ans tab (.fn tG [s]) H fun v H'=>RowV H' v l/\Kp H H':=by
 refine dg C.q102 zU fun T hl a=>?_;refine zW (aA hl a) ?_;refine AnsH.use (ze C zF (hs.mono (zG H)) b (fun _ z=>z) fun i hi H' w c f=>ED C c.wf f (g _ (Vm hi))) ?_;rintro v H2 ⟨hr,d⟩;obtain ⟨k2,_,_⟩:=zT H zK d;have e:l.mapIdx (fun _ z=>z)=l:=by apply Xk <;> simp
 rw [e] at hr;refine zW (aA hl a) ?_;exact ⟨hr,zK⟩
def C5 (C:Code tab) (j:Wf H) {i:Int} {a q:AV} {b n:Nat} {x:Int} (ha:IntV H a x) (hb:H.get b=some (.cells [q] aF true)) (h:cd H q n) (h0:n≠0) (hd:(n:Int) ∣ x) (hx:eR x) (hn:Sm n) :
  Ans tab (.fn mw [.int .i64 i,a,.ptr b 0]) H fun v H'=>IntV H' v (x / n)/\Kp H H':=by
 obtain ⟨p,rfl,hp⟩:=ha;have op:=hp.one;have m:=h.one;have lb:=j _ _ hb;refine mN C.q135 zU fun T hl d f g=>?_;have l:iJ [.bool false,.nilSl] [((1,1),q)]=some (.agg [.bool false,q]):=QE m;refine zW (eF hl d f g hb l) ?_;refine AnsH.use (EA C (y:=(n:Int)) zF ⟨p,rfl,hp.mono (zG H)⟩ ⟨q,by rw [decide_eq_false zO],by simpa using h.mono (zG H)⟩ hx (by unfold eR; simpa using hn) zO ?_) ?_
 ·rw [XN]; exact Nat.mod_eq_zero_of_dvd (YP.1 hd)
 rintro v H2 ⟨r,rfl,⟨w,rfl,hr⟩,c⟩;rw [Int.tdiv_eq_ediv_of_dvd hd] at hr ⊢;obtain ⟨k2,_,z⟩:=zT H zK c;have u:=hr.one;have t:H.next+12<=H2.next:=c.le
 have d1:=c.get (b:=H.next+1) (e:=.cells [.bool false,.nilSl] ad true) (da);have k:H2.get (H.next+9)=none:=c.free (show _<H.next+12 by omega) (by rw [al zO,al zO]; exact j.fresh (b:=H.next+9) zO);have o:NoTy [ae] H2 (H.next+1):=NoTy.ty d1 zU;have s:NoTy [ae] H2 (H.next+9):=NoTy.none k;refine zW (cp hl d f g d1) ?_;exact ⟨⟨w,rfl,SlV.monoT (E:=bY cB) zS hr⟩,zK⟩
def wh (C:Code tab) (q:Wf H) {l:List Int} (hs:RowV H s l) (k:l.length<=64) (d:∀ z∈l,eR z) :
  Ans tab (.fn qP [s]) H fun v H'=>∃ r,v=.tup [r,.int .i64 0]/\RowV H' r (Lin.prime l)/\Kp H H':=by
 refine dg C.q119 zU fun T hl a=>?_;refine zW (aA hl a) ?_;refine AnsH.use (EE C zF (hs.mono (zG H)) k d) ?_;rintro v H2 ⟨c,rfl,hc,g⟩;obtain ⟨k2,_,E⟩:=zT H zK g;have D:=hc.one;have B:H.next+10<=H2.next:=g.le
 have j:H2.get (H.next+7)=none:=g.free (show _<H.next+10 by omega) (q.fresh (b:=H.next+7) zO);have x:=b7 (Lin.content l);refine zW (aB hl a hc.lenV) ?_;refine iteH.split (fun h=>?_) fun h=>?_
 ·have h0:Lin.content l=0:=zO;refine zW (aA hl a) ?_;refine AnsH.use (zf C zF (hs.mono (zG H)) zO d) ?_;rintro v t ⟨hr,n⟩;obtain ⟨y,_,_⟩:=zT H zK n;refine zW (aA hl a) ?_;refine ⟨_,rfl,?_,zK⟩;unfold Lin.prime;rw [if_pos h0];exact hr
 ·have h0:Lin.content l≠0:=zO;refine zW (aA hl a) ?_;have s2:∀ m,Sub H2 (((H2.up m).put (H.next+7) (.cells [.nilSl] aF true)).put (H.next+7) (.cells [c] aF true)):=fun m=>(Sub.bump H2 m).trans ((aX (H:=H2.up m) j).put j _);refine AnsH.use (ze C zF (hs.mono (zG H)) zO (fun _ z=>z / (Lin.content l:Int)) fun i hi H' w f p=>?_) ?_
  ·exact C5 C f.wf p (f.get (b:=H.next+7) (da)) ((hc.mono (s2 _)).mono f.sub) h0 (Lin.content_dvd (Vm hi)) (d _ (Vm hi)) (AK d)
  ·rintro v u ⟨hr,o⟩;obtain ⟨A,_,_⟩:=zT H zK o;have e:l.mapIdx (fun _ z=>z / (Lin.content l:Int))=Lin.prime l:=by
    unfold Lin.prime;rw [if_neg h0]
    apply Xk <;> simp
   rw [e] at hr;refine zW (aA hl a) ?_;exact ⟨_,rfl,hr,zK⟩
def BI (c:Int->Int->Int):List Int->List Int->Int
 | x :: l,y :: m=>if c x y=0 then BI c l m else c x y
 | _,_=>0
def F4 {c:Int->Int->Int}:∀ {l m:List Int} {j:Nat} (hj:j<l.length) (a:j<m.length),(∀ k (h:k<l.length) (h':k<m.length),k<j->c l[k] m[k]=0)->c l[j] m[j]≠0->BI c l m=c l[j] m[j]
 | [],m,j,hj,_,_,_=>by simp at hj
 | _ :: _,[],j,_,a,_,_=>by simp at a
 | x :: l,y :: m,0,_,_,_,h1=>by
  have b:¬ c x y=0:=h1;show (if c x y=0 then BI c l m else c x y)=_;rw [if_neg b]; rfl
 | x :: l,y :: m,j+1,hj,a,h0,h1=>by
  have b:c x y=0:=h0 0 (by simp) (by simp) zO;show (if c x y=0 then BI c l m else c x y)=_;rw [if_pos b];exact F4 (by simpa using hj) (by simpa using a) (fun k h h' d=>h0 (k+1) (by simpa using h) (by simpa using h') zO) h1
def Cz {c:Int->Int->Int}:∀ {l m:List Int},(∀ k (h:k<l.length) (h':k<m.length),c l[k] m[k]=0)->BI c l m=0
 | [],m,_=>by cases m <;> rfl
 | _ :: _,[],_=>rfl
 | x :: l,y :: m,h0=>by
  have a:c x y=0:=h0 0 (by simp) (by simp);show (if c x y=0 then BI c l m else c x y)=_;rw [if_pos a];exact Cz fun k h h'=>h0 (k+1) (by simpa using h) (by simpa using h')
def yH (C:Code tab) (Q:Wf H) {fi:Nat} {first caps:List AV} {a b:AV} {l m:List Int} (ha:RowV H a l) (hb:RowV H b m) (J:l.length=m.length) (O:l.length<1099511627776) (c:Int->Int->Int)
  (B:∀ i (h:i<l.length) (h':i<m.length) H' u v,Kp H H'->IntV H' u l[i]->IntV H' v m[i]->Ans tab (.fn fi (first++[u,v]++caps)) H' fun r H2=>r=.int .i64 (c l[i] m[i])/\Kp H' H2) :
  Ans tab (.fn aY [a,b,.fn (.func fi) first caps]) H fun r H'=>r=.int .i64 (BI c l m)/\Kp H H':=by
 refine mN C.q123 zU fun T hl d f g=>?_;refine zW (cp hl d f g ha.lenV) ?_;refine am H [] (fun j _ _=>∀ k (h:k<l.length) (h':k<m.length),k<j->c l[k] m[k]=0) (a:=0) (N:=l.length) rfl (by refine zW (aV hl d f g) ?_; rfl) (zV (aV hl d f g)) (Vz _) zO (by simp only [Vg,hl]; rfl) rfl (fun _ _ _ _ h=>h) zK (fun k _ _ h=>by omega) ?_ ?_
 ·intro j T1 t _ hj n D o p q;have w1:=p.wf;have R:=p.le;have x:j<m.length:=zO;have K:aa T1 11=a:=(o.at_ 11 zU).trans (zV (aA hl d));have t1:aa T1 1=b:=(o.at_ 1 zU).trans (zV (cp hl d f g f));have M:aa T1 2=.fn (.func fi) first caps:=(o.at_ 2 zU).trans (zV (cp hl d f g g))
  obtain ⟨w,hn,I,-,-⟩:=kP (ha.mono p.sub) hj;have E:cL 2 a (.int .i64 (j:Int))=some (aq a (j*2)):=SlV.idx ha .i64 j hj;obtain ⟨u,y,L,F⟩:=nk w1 (hb.mono p.sub) x;have U:=hn.one;have S:=y.one;have A:=L.put;have z:=L.ld;have hge:¬ m.length<=j:=zO;simp only [Vg,hl] at n;refine zW (By n K t1 M D E I hb.lenV hge F A z) ?_;refine AnsH.eq (B j hj x _ (.agg [.bool (decide (l[j]<0)),w]) (.agg [.bool (decide (m[j]<0)),u]) zK ⟨w,rfl,hn.mono (zG t)⟩ ⟨u,rfl,y.mono (zG t)⟩) fun H2 G=>?_;obtain ⟨k2,_,_⟩:=zT H zK G;by_cases s:c l[j] m[j]=0
  ·refine zW (aA n s) ?_;refine ⟨zK,fun k h h' P=>?_⟩;by_cases e:k=j
   ·subst e; exact s
   ·exact q k h h' zO
  ·refine zW (aA n s) ?_;exact ⟨by rw [F4 hj x q s],zK⟩
 ·intro T1 t n o p q;have t0:aa T1 0=a:=(o.at_ 0 zU).trans (zV (aA hl d));have t1:aa T1 1=b:=(o.at_ 1 zU).trans (zV (cp hl d f g f));have e1:lenV a=some (.int .i64 (m.length:Int)):=by rw [ha.lenV,J]
  simp only [Vg,hl] at n;refine zW (cp n t0 t1 e1 hb.lenV) ?_;exact ⟨by rw [Cz fun k h h'=>q k h h' h],zK⟩
def GN (C:Code tab) (g:Wf H) {a b:AV} {x y:Int} (ha:IntV H a x) (hb:IntV H b y) (hx:eR x) (hy:eR y) :
  Ans tab (.fn pu [a,b]) H fun v H'=>v=.int .i64 (gw (x-y))/\Kp H H':=by
 obtain ⟨p,rfl,hp⟩:=ha;obtain ⟨q,rfl,e⟩:=hb;have op:=hp.one;have h:=e.one;refine bC C.q124 zU fun T hl c d=>?_;refine zW (aB hl c d) ?_;refine AnsH.eq (Ki C zF ⟨p,rfl,hp.mono (zG H)⟩ ⟨q,rfl,e.mono (zG H)⟩ hx hy) fun H2 f=>?_;obtain ⟨k2,_,_⟩:=zT H zK f;refine zW (aB hl c d) ?_;exact zK
def Ec (l m:List Int):Int:=BI (fun x y=>gw (x-y)) l m
def PN (C:Code tab) (w:Wf H) {a b:AV} {l m:List Int} (ha:RowV H a l) (hb:RowV H b m) (g:l.length=m.length) (k:l.length<=64) (f:∀ z∈l,eR z) (j:∀ z∈m,eR z) :
  Ans tab (.fn wJ [a,b]) H fun v H'=>v=.tup [.int .i64 (Ec l m),.int .i64 0]/\Kp H H':=by
 have B:=ha.one;have D:=hb.one;refine bC C.q103 zU fun T hl c e=>?_;refine zW (aB hl c e) ?_;refine AnsH.eq (gB C (d:=l.length) zF (BF ha hb (zG H) (by refine uo ?_; rfl)) (by simp) (by simp) k fun r hr=>?_) fun H2 o=>?_
 ·simp at hr; rcases hr with rfl | rfl
  ·exact ⟨rfl,f⟩
  ·exact ⟨g.symm,j⟩
 obtain ⟨k2,_,E⟩:=zT H zK o;refine zW (aB hl c e) ?_;refine AnsH.eq (yH C zF (ha.mono (zG H)) (hb.mono (zG H)) g zO (fun x y=>gw (x-y)) fun i h h' H' u v n q s=>GN C n.wf q s (f _ (Vm h)) (j _ (Vm h'))) fun t p=>?_;obtain ⟨A,_,_⟩:=zT H zK p;refine zW (aB hl c e) ?_;exact ⟨rfl,zK⟩
end
abbrev O3 (H:Heap) (v:AV) (ls:List (List (Bool × List Nat))):Prop:=yY (sO rawE ad) af H v ls
def xy (r:List (Bool × List Nat)):Bool:=!Bv r || decide (r.length=0)
def cK (ls:List (List (Bool × List Nat))):Int :=
 if 1024<ls.length then 4 else if ls.any xy then 8 else if ls.any (fun r=>decide (r.length≠(ls.headD []).length)) then 70 else 0
def B8 {ls:List (List (Bool × List Nat))} (h0:ls.length<=1024) {j:Nat} (hj:j<ls.length) (h:xy ls[j]=true):cK ls=8:=by
 have:ls.any xy=true:=VY.2 ⟨_,Vm hj,h⟩
 unfold cK;rw [if_neg zO,if_pos this]
def Hb {ls:List (List (Bool × List Nat))} (h0:ls.length<=1024) (hb:∀ k (h:k<ls.length),xy ls[k]=false) {j:Nat} (hj:j<ls.length) (h:ls[j].length≠(ls[0]'zO).length):cK ls=70:=by
 have h1:¬ ls.any xy=true:=by
  rw [VY]; rintro ⟨r,hr,b⟩;obtain ⟨k,c,rfl⟩:=WF hr;rw [hb k c] at b; cases b
 have e:ls.headD []=ls[0]'zO:=by cases ls with | nil=>simp at hj | cons a l=>rfl
 have h2:ls.any (fun r=>decide (r.length≠(ls.headD []).length))=true:=VY.2 ⟨_,Vm hj,by rw [e]; simpa using h⟩;unfold cK;rw [if_neg zO,if_neg h1,if_pos h2]
def wz {ls:List (List (Bool × List Nat))} (h0:ls.length<=1024) (hb:∀ k (h:k<ls.length),xy ls[k]=false) (hl:∀ k (h:k<ls.length),ls[k].length=(ls[0]'zO).length):cK ls=0:=by
 have h1:¬ ls.any xy=true:=by
  rw [VY]; rintro ⟨r,hr,b⟩;obtain ⟨k,c,rfl⟩:=WF hr;rw [hb k c] at b; cases b
 have h2:¬ ls.any (fun r=>decide (r.length≠(ls.headD []).length))=true:=by
  rw [VY]; rintro ⟨r,hr,b⟩;obtain ⟨k,c,rfl⟩:=WF hr;have e:ls.headD []=ls[0]'zO:=by cases ls with | nil=>simp at c | cons a l=>rfl
  rw [e,hl k c] at b;simp at b
 unfold cK;rw [if_neg zO,if_neg h1,if_neg h2]
section
variable {tab:Nat->Option au} {H:Heap} {s:AV}
def zY {ty:Nat} {ls:List (List (Bool × List Nat))} (hs:yY (sO rawE ad) ty H s ls) {i:Nat} (hi:i<ls.length):∃ w,SlV rawE ad H w ls[i]/\aW H none (aq s i)=some w:=SlV.at1 hs (Vk hi)
def tD (C:Code tab) (L:Wf H) {ls:List (List (Bool × List Nat))} (hs:O3 H s ls) (K:ls.length<4611686018427387904) (hb:∀ r∈ls,xx r) :
  Ans tab (.fn lx [s]) H fun v H'=>v=.int .i64 (cK ls)/\Kp H H':=by
 refine dg C.q96 zU fun T hl d=>?_;by_cases h0:1024<ls.length
 ·have e:(1024:Int)<(ls.length:Int):=zO;refine zW (aV hl d hs.lenV e) ?_;exact ⟨by unfold cK; rw [if_pos h0],zK⟩
 ·have e:¬ (1024:Int)<(ls.length:Int):=zO;have i:ls.length<=1024:=zO;refine zW (aV hl d hs.lenV e) ?_;refine am H [] (fun j _ _=>∀ k (h:k<ls.length),k<j->xy ls[k]=false) (a:=0) (N:=ls.length) rfl (by refine zW (aA hl d) ?_; rfl) (zV (aA hl d)) (Vz _) zO (by simp only [Vg,hl]; rfl) rfl (fun _ _ _ _ h=>h) zK (fun k _ h=>by omega) ?_ ?_
  ·intro j T1 x _ hj b E t f m;have w1:=f.wf;have I:=f.le;have J:aa T1 10=s:=(t.at_ 10 zU).trans (zV (aA hl d));obtain ⟨w,hr,o⟩:=zY (hs.mono f.sub) hj;have n:=SlV.idx1 hs .i64 j hj;simp only [Vg,hl] at b;refine zW (cp b J E n o) ?_;refine AnsH.eq (rP C zF (hr.mono (zG x)) (hb _ (Vm hj))) fun H2 c=>?_;obtain ⟨k2,_,_⟩:=zT H zK c;cases q:Bv ls[j] with
   | false =>
    refine zW b ?_;exact ⟨by rw [B8 i hj (by simp [xy,q])],zK⟩
   | true =>
    refine zW (aA b hr.lenV) ?_;refine iteH.split (fun G=>?_) fun G=>?_
    ·refine zW b ?_;exact ⟨by rw [B8 i hj (by unfold xy; rw [q,decide_eq_true zO]; rfl)],zK⟩
    ·refine zW b ?_;refine ⟨zK,fun k h F=>?_⟩;by_cases ek:k=j
     ·subst ek; unfold xy; rw [q,decide_eq_false zO]; rfl
     ·exact m k h zO
  ·intro T1 x b t f m;have w1:=f.wf;have I:=f.le;have t0:aa T1 0=s:=(t.at_ 0 zU).trans (zV (aA hl d));simp only [Vg,hl] at b;refine zW (aB b t0 hs.lenV) ?_;refine am H [] (fun j _ _=>∀ k (h:k<ls.length),k<j->ls[k].length=(ls[0]'zO).length) (a:=0) (N:=ls.length) rfl (by refine zW b ?_; rfl) (zV b) (Vz _) zO (by simp only [Vg,b]; rfl) rfl (fun _ _ _ _ h=>h) zK (fun k _ h=>by omega) ?_ ?_
   ·intro j T2 H2 _ hj g y u c p;have O:=c.wf;have M:=c.le;have l:0<ls.length:=zO;have t25:aa T2 25=s:=(u.at_ 25 zU).trans (zV (aA b t0));have D:aa T2 0=s:=(u.at_ 0 zU).trans (zV (aA b t0));obtain ⟨w,hr,o⟩:=zY (hs.mono c.sub) hj;obtain ⟨w0,B,A⟩:=zY (hs.mono c.sub) l;have n:=SlV.idx1 hs .i64 j hj;have z:cL 1 s (.int .i64 0)=some (aq s 0):=SlV.idx1 hs .i64 0 l;simp only [Vg,b] at g;by_cases he:ls[j].length=(ls[0]'l).length
    ·have l2:lenV w=some (.int .i64 ((ls[0]'l).length:Int)):=by rw [hr.lenV,he]
     refine zW (ur g t25 D y n o z A l2 B.lenV) ?_;refine ⟨zK,fun k h F=>?_⟩;by_cases ek:k=j
     ·subst ek; exact he
     ·exact p k h zO
    ·refine zW (sG g t25 D y n o z A hr.lenV B.lenV he) ?_;exact ⟨by rw [Hb i (fun k h=>m k h h) hj he],zK⟩
   ·intro T2 H2 g u c p;simp only [Vg,b] at g;refine zW g ?_;exact ⟨by rw [wz i (fun k h=>m k h h) fun k h=>p k h h],zK⟩
def zL {ty:Nat} {ls:List (List Int)} (hs:yY (sO intE ad) ty H s ls):yY (sO rawE ad) ty H s (ls.map fun r=>r.map eO):=by
 obtain ⟨cells,hr,c,hc,ha⟩:=hs;refine ⟨cells,hr,c,by rw [hc,Vp]; rfl,fun i a hi=>?_⟩;rw [Wg] at hi;cases b:ls[i]? with
 | none=>rw [b] at hi; cases hi
 | some z =>
  rw [b] at hi; cases hi;obtain ⟨w,h1,h2⟩:=ha i z b;exact ⟨w,h1,SlV.raw h2⟩
def uG {r:List Int} (c:r.length<=64) (b:∀ z∈r,eR z):xx (r.map eO):=by
 refine ⟨by rw [Vp]; omega,fun z h=>?_⟩;rw [Vl] at h;obtain ⟨a,ha,rfl⟩:=h
 have:=b a ha
 unfold eR Sm at this;show (ag a.natAbs).length<_;omega
def Do {r:List Int} (a:r.length<=64):Bv (r.map eO)=true:=by
 simp only [Bv,Vp,List.any_map,VU,decide_eq_true_eq,Wy,WU];exact ⟨a,fun z _=>by simp [Gk]⟩
structure xD (d:Nat) (ls:List (List Int)):Prop where
 pos:0<d
 le:d<=64
 len:∀ r∈ls,r.length=d
 sm:∀ r∈ls,∀ z∈r,eR z
def j8 (C:Code tab) (g:Wf H) {d:Nat} {ls:List (List Int)} {ty:Nat} (hs:dS H s ls) (f:ls.length<=1024) (b:xD d ls) :
  Ans tab (.fn lx [s]) H fun v H'=>v=.int .i64 0/\Kp H H':=by
 have h:=tD C g (zL hs) (by rw [Vp]; omega) fun r hr=>by
  rw [Vl] at hr;obtain ⟨a,ha,rfl⟩:=hr;exact uG (by rw [b.len a ha]; exact b.le) (b.sm a ha)
 have e:cK (ls.map fun r=>r.map eO)=0:=by
  refine wz (by rw [Vp]; exact f) (fun k c=>?_) fun k c=>?_
  ·rw [Vp] at c;have hm:=Vm c;simp only [Ym];unfold xy;rw [Do (by rw [b.len _ hm]; exact b.le),decide_eq_false (by rw [Vp,b.len _ hm]; have:=b.pos; omega)];rfl
  ·rw [Vp] at c;simp only [Ym,Vp];rw [b.len _ (Vm c),b.len _ (Vm zO)]
 rw [e] at h;exact h
def E3 (C:Code tab) (k:Wf H) {a b:Nat}:Ans tab (.fn nS [.int .i64 (a:Int),.int .i64 (b:Int)]) H fun v H'=>v=.bool (Lin.before a b)/\Kp H H':=by
 refine bC C.q132 zU fun T hl c d=>?_;by_cases h1:a=b
 ·subst h1;refine zW (aB hl c d) ?_;exact ⟨by simp [Lin.before],zK⟩
 ·have e:¬ (a:Int)=(b:Int):=zO;by_cases h2:a=0
  ·have g:(a:Int)=0:=zO;have j:¬ (0:Int)=(b:Int):=zO;have h5:¬ 0=b:=zO;refine zW (jY hl c d e h1 g j h5) ?_;exact ⟨by simp [Lin.before,h2],zK⟩
  ·have f:¬ (a:Int)=0:=zO;by_cases h3:b=0
   ·have i:(b:Int)=0:=zO;refine zW (jY hl c d e f i h1 h2) ?_;exact ⟨by simp [Lin.before,h2,h3],zK⟩
   ·have h:¬ (b:Int)=0:=zO;refine zW (lh hl c d e f h h1 h2 h3) ?_;exact ⟨by unfold Lin.before; rw [show (a != b)=true from by simpa using h1,show (a != 0)=true from by simpa using h2,show (b == 0)=false from by simpa using h3]; rfl,zK⟩
def E0 (C:Code tab) (b:Wf H) {d:Nat} :
  Ans tab (.fn nQ [.int .i64 (d:Int)]) H fun v H'=>v=.fn (.func fe) [] [.ptr H.next 0]/\H'.get H.next=some (.cells [.int .i64 (d:Int)] gq true)/\H.next+1<=H'.next/\Kp H H':=by
 refine dg C.q136 zU fun T hl a=>?_;refine zW (aA hl a) ?_;exact ⟨zO,zK⟩
def KV {d k:Nat} (a:k+1<d):(Lin.places d)[k]? = some (k+1):=by
 unfold Lin.places;rw [VT (by simp; omega),List.getElem?_range' zO];congr 1; omega
def Fb {d:Nat} (hd:0<d):(Lin.places d)[d-1]? = some 0:=by
 unfold Lin.places;rw [We (by simp),if_neg zO]
 simp
def Ho (C:Code tab) {H0:Heap} {lb b d:Nat} (hd:d<1099511627776) (J:Nat->Heap->Prop) (R:Heap->Prop) (B:Kp H0 H) (h0:J 0 H) (j:∀ k H m,J k H->J k (H.up m)) (A:∀ H m,R H->R (H.up m))
  (hA:∀ k H,J k H->H.get b=some (.cells [.int .i64 (d:Int)] gq true))
  (hr:∀ (k p:Nat) H,(Lin.places d)[k]? = some p->Kp H0 H->J k H->Ans tab (.round lb [.int .i64 (p:Int)]) H fun v H'=>Kp H0 H'/\((v=.bool true/\J (k+1) H')\/(v=.bool false/\R H'))) :
  Ans tab (.ent fe [.loopv lb,.ptr b 0]) H fun _ H'=>Kp H0 H'/\(J d H'\/R H'):=by
 refine SA C.q146 zU fun T hl l n=>?_;refine zW (aB hl l n) ?_;refine cu H0 [3] (fun m vs H'=>∃ i:Nat,vs=[.int .i64 (i:Int)]/\1<=i/\i<=d+1/\(0<d->i<=d)/\(d=0->i=1)/\m=d+1-i/\J (i-1) H') d (by simp only [Vg]; exact hl) rfl zK ⟨1,by refine zW (aB hl l n) ?_; rfl,Vo _,zO,fun h=>h,fun _=>rfl,zO,j _ _ _ h0⟩ ?_;rintro k T1 z a u t ⟨i,q,s,D,w,x,hm,o⟩;have w1:=t.wf;have E:=t.le;simp only [Vq,Vw,Vv,and_true] at q;have t0:aa T1 0=.loopv lb:=(u.at_ 0 zU).trans (zV (aA hl l));have t1:aa T1 1=.ptr b 0:=(u.at_ 1 zU).trans (zV (aV hl l n n));have hb:=hA _ _ o;refine zW (cp a q t0 t1 hb) ?_;refine iteH.split (fun h=>?_) fun h=>?_
 ·have hi:i<d:=zO;have hp:(Lin.places d)[i-1]? = some i:=by have:=KV (d:=d) (k:=i-1) zO; rwa [ZD s] at this
  refine zW (aV a q t0 t1) ?_;refine AnsH.use (hr (i-1) i _ hp zK (j _ _ _ o)) ?_;rintro v H2 ⟨c,⟨rfl,f⟩ | ⟨rfl,r⟩⟩
  ·rw [ZD s] at f;have e:IntKind.i64.wrap ((i:Int)+1)=((i+1:Nat):Int):=by rw [wrap_i64] <;> omega
   have y:=c.wf;have F:=c.le;refine zW (aB a q e) ?_;exact ⟨zK,d-i,zO,i+1,rfl,zO,zO,fun _=>hi,fun h=>by omega,zO,by simpa using j _ _ _ f⟩
  ·have y:=c.wf;refine zW a ?_;exact ⟨zK,.inr r⟩
 ·have hi:¬ i<d:=zO;refine zW (aV a t0 t1 hb) ?_;refine iteH.split (fun h=>?_) fun h=>?_
  ·have g:0<d:=zO;have e:i=d:=by have:=w g; omega
   subst e;refine zW (aA a t0) ?_;refine AnsH.use (hr (i-1) 0 _ (Fb g) zK (j _ _ _ o)) ?_;rintro v H2 ⟨c,⟨rfl,f⟩ | ⟨rfl,r⟩⟩
   ·rw [ZD s] at f;refine zW a ?_;exact ⟨c,.inl f⟩
   ·refine zW a ?_;exact ⟨c,.inr r⟩
  ·have g:d=0:=zO;have e:=x g;subst e;refine zW a ?_;refine ⟨zK,.inl ?_⟩;rw [g];exact j _ _ _ o
theorem Nx (b:Nat) (T T':Tm) (ps:List Nat) (a body:ACode) (Q:AV->Heap->Prop) (H2:Heap):R7 b T ps a body Q .ret T' H2=(H2.get b=some (.loop T ps a body .busy none)/\Q (.bool false) (H2.put b (.loop T ps a body .done (some .ret)))):=rfl
def Js {α:Type} {p:α->Bool}:∀ {l:List α} {k:Nat} {x:α},l[k]? = some x->(∀ i y,i<k->l[i]? = some y->p y=false)->p x=true->l.find? p=some x
 | [],k,x,h,_,_=>by simp at h
 | a :: l,0,x,h,_,hp=>by
  simp at h; subst h; simp [hp]
 | a :: l,k+1,x,h,h0,hp=>by
  rw [List.find?_cons_of_neg (by rw [h0 0 a zO rfl]; simp)];exact Js (by simpa using h) (fun i y hi hy=>h0 (i+1) y zO (by simpa using hy)) hp
end
def R9 (l:List Int):Int:=match Lin.pivot l with
 | some p=>(p:Int)
 | none=>-1
section
variable {tab:Nat->Option au} {H:Heap} {s:AV}
def rK {l:List Int} {p:Nat} (hp:p<l.length):Lin.at_ l p=l[p]:=by simp [Lin.at_,hp]
def tC (C:Code tab) (J:Wf H) {l:List Int} (hs:RowV H s l) (N:l.length<=64):Ans tab (.fn UP [s]) H fun v H'=>v=.int .i64 (R9 l)/\Kp H H':=by
 have os:=hs.one;refine dg C.q120 zU fun T hl c=>?_;refine zW (aB hl c hs.lenV) ?_;refine AnsH.use (E0 C zF) ?_;rintro v H2 ⟨rfl,b0,F,q⟩;obtain ⟨k2,_,V⟩:=zT H zK q;simp only [next_put,cO] at b0 F;have p0:=q.get (b:=H.next) (e:=.cells [s] af true) (da);have p1:=q.get (b:=H.next+1) (e:=.cells [.int .i64 0] gq true) (da);refine zW (aA hl c) ?_;refine mi (fi:=fe) (args:=[.loopv H2.next,.ptr (H.next+5) 0]) (by refine zW (aA hl c) ?_; rfl) ?_
 generalize he:Ent.loop _ _ _ _ LoopState.ready none=e0
 generalize hd:Ent.loop _ _ _ _ LoopState.done (some ACode.ret)=e1
 have u:Kp H ((H2.up 1).put H2.next e0):=zK;have S:=u.le;refine (Ho C (H0:=H) (d:=l.length) zO (fun k H'=>H'.get H2.next=some e0/\H'.get H.next=some (.cells [s] af true)/\H'.get (H.next+1)=some (.cells [.int .i64 0] gq true)/\H'.get (H.next+5)=some (.cells [.int .i64 (l.length:Int)] gq true)/\(∀ i y,i<k->(Lin.places l.length)[i]? = some y->Lin.at_ l y=0))
  (fun H'=>∃ p:Nat,Lin.pivot l=some p/\H'.get H2.next=some e1/\H'.get (H.next+1)=some (.cells [.int .i64 (p:Int)] gq true)) u ⟨by exact da,by exact zV p0,by exact zV p1,by exact zV @b0,fun i y h=>by omega⟩ (fun _ _ _ h=>h) (fun _ _ h=>h) (fun k H' h=>h.2.2.2.1) ?_).mono ?_
 ·rintro k p M hp o ⟨a,m,f,t,n⟩;rw [<- he] at a;have w1:=o.wf;have R:=o.le;have hlt:=w1 _ _ a;have j:p<l.length:=Lin.mem_places.1 (VD hp);obtain ⟨w,hn,O,P,r⟩:=kP hs j;have z:=(Ldd.of J r).put;have x:=bU o.sub r;have D:cL 2 s (.int .i64 (p:Int))=some (aq s (p*2)):=SlV.idx hs .i64 p j;have A:AD 1 (aq s (p*2))=some (aq s (p*2+1)):=SlV.fa hs zO 1 (p*2);have E:=b7 (l[p]).natAbs;refine mR a rfl ?_;refine zW (ur hl c a m f D A z x hn.lenV) ?_;refine iteH.split (fun h=>?_) fun h=>?_
  ·have I:Lin.pivot l=some p:=by
    refine Js hp (fun i y hi hy=>by simp [n i y hi hy]) ?_;rw [rK j]; simp; omega
   refine zW (eF hl c a m f @Nx) ?_
   generalize Ent.loop _ _ _ _ LoopState.busy none=e2
   rw [hd];exact ⟨zK,.inr ⟨p,I,by exact da,by exact da⟩⟩
  ·have K:Lin.at_ l p=0:=by rw [rK j]; omega
   refine zW (eF hl c a m f @ko) ?_
   generalize Ent.loop _ _ _ _ LoopState.busy none=e2
   rw [he];refine ⟨zK,.inl ⟨rfl,t,fun i y hi hy=>?_⟩⟩;by_cases e:i=k
   ·subst e;rw [hp] at hy; cases hy; exact K
   ·exact n i y zO hy
 ·rintro _ H' ⟨g,⟨a,m,f,t,n⟩ | ⟨p,hp,a,f⟩⟩
  ·refine .inl ⟨a,?_⟩;have w1:=g.wf;have L:=g.le;have U:=w1 _ _ f;have Q:Kp H (H'.up 1):=g.up 1;refine zW (aB hl c f) ?_;have G:Lin.pivot l=none:=by
    unfold Lin.pivot;rw [List.find?_eq_none];intro y hy;obtain ⟨i,hi⟩:=V9 hy;have E:(Lin.places l.length).length=l.length:=by
     unfold Lin.places;rw [VC,List.length_range'];split <;> simp <;> omega
    have B:i<l.length:=by have:=(VA.1 hi).1; omega
    simp [n i y B hi]
   exact ⟨by unfold R9; rw [G],zK⟩
  ·refine .inr (.inl ⟨a,?_⟩);have w1:=g.wf;have L:=g.le;refine zW (aB hl c f) ?_;exact ⟨by unfold R9; rw [hp],zK⟩
def HF {m n:Int} {e f g h:Nat} {x y:List Int} (hm:Bt g m) (hn:Bt h n) (hx:∀ z∈x,Bt e z) (hy:∀ z∈y,Bt f z):∀ z∈Lin.mix m x n y,Bt (max (g+e) (h+f)+1) z:=by
 intro z a;unfold Lin.mix at a;rw [Z6] at a;obtain ⟨i,hi,rfl⟩:=a;have h1:i<x.length:=by simp at hi; omega
 have h2:i<y.length:=by simp at hi; omega
 rw [List.getElem_zipWith];exact Bt.add (hm.mul (hx _ (Vm h1))) (hn.mul (hy _ (Vm h2)))
def Fa {e:Nat} {x:List Int} (hx:∀ z∈x,Bt e z):∀ z∈Lin.prime x,Bt e z:=by
 intro z b;unfold Lin.prime at b;split at b
 ·exact hx z b
 ·rw [Vl] at b;obtain ⟨a,ha,rfl⟩:=b;have h:=hx a ha;unfold Bt at *;refine Wp ?_ h;rw [Int.natAbs_ediv_of_dvd (Lin.content_dvd ha)];exact XY _ _
def GY {e:Nat} {x:List Int} (hx:∀ z∈x,Bt e z):∀ z∈Lin.scl (-1) x,Bt e z:=by
 intro z b;unfold Lin.scl at b;rw [Vl] at b;obtain ⟨a,ha,rfl⟩:=b
 have:=(hx a ha).neg
 rwa [show -a = -1*a by omega] at this
def QV {e f p:Nat} {a u:List Int} (ha:∀ z∈a,Bt e z) (d:∀ z∈u,Bt f z):∀ z∈Lin.wo a u p,Bt (e+f+1) z:=by
 intro z c;unfold Lin.wo at c;split at c
 ·exact (ha z c).mono zO
 ·have hm:Bt f (Lin.at_ u p):=by
   unfold Lin.at_; rw [Vh];cases h:u[p]? with
   | none=>exact Bt.zero f
   | some b=>exact d b (VD h)
  have hn:Bt e (-(Lin.at_ a p)):=by
   refine Bt.neg ?_;unfold Lin.at_; rw [Vh];cases h:a[p]? with
   | none=>exact Bt.zero e
   | some b=>exact ha b (VD h)
  exact (Fa (HF hm hn ha d) z c).mono zO
def uD (C:Code tab) (E:Wf H) {va J:AV} {x u:List Int} {p e f:Nat} (ha:RowV H va x) (hb:RowV H J u) (F:x.length=u.length) (y:x.length<=64) (hp:p<x.length) (hx:∀ z∈x,Bt e z) (i:∀ z∈u,Bt f z) (he:e+f+1<=8796093022208) :
  Ans tab (.fn mz [va,J,.int .i64 (p:Int)]) H fun v H'=>RowV H' v (Lin.wo x u p)/\Kp H H':=by
 refine mN C.q121 zU fun T hl c d g=>?_;have k:p<u.length:=zO;obtain ⟨w,hn,R,-,N⟩:=kP ha hp;have B:cL 2 va (.int .i64 (p:Int))=some (aq va (p*2)):=SlV.idx ha .i64 p hp;have O:AD 1 (aq va (p*2))=some (aq va (p*2+1)):=SlV.fa ha zO 1 (p*2);have X:=b7 (x[p]).natAbs;refine zW (jY hl c d g B O N hn.lenV) ?_;refine iteH.split (fun h=>?_) fun h=>?_
 ·have a:Lin.at_ x p=0:=by rw [rK hp]; omega
  refine zW (aA hl c) ?_;refine ⟨?_,zK⟩;unfold Lin.wo;rw [if_pos a];exact ha.mono (zG H)
 ·have a:¬ Lin.at_ x p=0:=by rw [rK hp]; omega
  refine zW (eF hl c d g B R) ?_;refine AnsH.use (BW C zF ⟨w,rfl,hn.mono (zG H)⟩ ((hx _ (Vm hp)).sm zO)) ?_;rintro v H2 ⟨r,rfl,hr,j⟩;obtain ⟨k2,_,w2⟩:=zT H zK j;obtain ⟨I,rfl,D⟩:=hr;have aa:=D.one;obtain ⟨W,S,L,A⟩:=nk E hb k;have s:=L.put;have q:=(L.mono k2).ld;have Z:H.next+19<=H2.next:=j.le
  have t:H2.get (H.next+16)=none:=j.free (show _<H.next+19 by omega) (E.fresh (b:=H.next+16) zO);have s2:∀ m,Sub H2 (((H2.up m).put (H.next+16) (.cells [.bool false,.nilSl] ad true)).put (H.next+16) (.cells [.bool (decide (-x[p]<0)),I] ad true)):=fun m=>(Sub.bump H2 m).trans ((aX (H:=H2.up m) t).put t _);refine zW (aV hl c d g) ?_;refine aM ?_;refine zD (jY hl c d g A s q @aQ) ?_;have l:=i _ (Vm k);have o:=hx _ (Vm hp);refine AnsH.use (II C (m:=u[p]) (n:=-x[p]) zF ⟨W,rfl,S.mono (zG H)⟩ ⟨I,rfl,D.mono (s2 _)⟩ (ha.mono (zG H)) (hb.mono (zG H)) F y (l.len zO) (o.neg.len zO) (fun z a=>⟨(hx z a).len zO,(l.mul (hx z a)).sm zO⟩) (fun z a=>⟨(i z a).len zO,(o.neg.mul (i z a)).sm zO⟩)) ?_;rintro v3 K ⟨r3,rfl,U,P⟩;obtain ⟨Y,_,w3⟩:=zT H zK P;refine zD (jY hl c d g A s q @aQ) ?_;refine AnsH.use (wh C zF (U.mono (zG K)) (by rw [Lin.mix_length rfl F.symm]; exact y) (fun z a=>(HF l o.neg hx i z a).sm zO)) ?_;rintro v4 M ⟨r4,rfl,V,Q⟩;obtain ⟨G,_,_⟩:=zT H zK Q;simp only [iN,jM,iM,lS,Xv,Xy,sC,pQ,ZE,ZP,XZ,W5];refine zW (aV hl c d g) ?_;refine ⟨?_,zK⟩;unfold Lin.wo;rw [if_neg a,rK hp,rK k];exact V.mono (Kp.sub (H:=M) (Kp.trans (Kp.refl G.wf) ((Kp.refl G.wf).up _)))
end
def RZ (tab:Nat->Option au) (rd:Bool) (b:ACode) (Q:Ex->Tm->Heap->Prop) (x:Ex) (T:Tm) (H:Heap):Prop:=match x with
 | .nrm=>WB tab rd b T H Q
 | x=>Q x T H
def SD (R:Tm->Heap->Prop) (Q:Ex->Tm->Heap->Prop) (x:Ex) (T:Tm) (H:Heap):Prop:=match x with
 | .nrm=>R T H
 | x=>Q x T H
section
variable {tab:Nat->Option au} {rd:Bool} {a b:ACode} {T:Tm} {H:Heap} {Q:Ex->Tm->Heap->Prop} {R:Tm->Heap->Prop}
theorem aC:RZ tab rd b Q .nrm T H=WB tab rd b T H Q:=rfl
theorem uB:RZ tab rd b Q .ret T H=Q .ret T H:=rfl
theorem aU:SD R Q .nrm T H=R T H:=rfl
theorem vw:SD R Q .ret T H=Q .ret T H:=rfl
def bi (h:WC tab rd a T H (RZ tab rd b Q)):WB tab rd (.seq a b) T H Q:=zd (h.wb.mono fun x T' H' h=>by cases x <;> exact h)
def dy (R:Tm->Heap->Prop) (hp:iG a=true) (h:WC tab rd a T H (SD R Q)) (hb:∀ T' H',Same (fQ a) T T'->R T' H'->WB tab rd b T' H' Q):WB tab rd (.seq a b) T H Q :=
 zd ((h.wb.same hp).mono fun x T' H' ⟨hs,h⟩=>by
  cases x with
  | nrm=>exact hb T' H' hs h
  | exit e=>exact h
  | goto l=>exact h
  | ret=>exact h)
def BM {f:Nat} {fn:au} {args:List AV} {Q:AV->Heap->Prop} (a:tab f=some fn) (he:fn.ext=none) (hl:args.length=fn.nparams) (hn:fn.nparams<=fn.ntmps)
  (h:∀ T0:Tm,T0.length=fn.ntmps->(∀ i,i<args.length->aa T0 i=args.getD i .undef)->WB tab false fn.body T0 H (wB fn.results Q)):Ans tab (.fn f args) H Q:=by
 obtain ⟨x,T',H',⟨N,g⟩,hx,v,c,b⟩:=h (args++List.replicate (fn.ntmps-args.length) .undef) (by simp; omega) fun i hi=>by
  unfold aa;rw [Vh,Vh,VT hi]
 refine ⟨v,H',⟨N+1,fun m n hm hn=>?_⟩,b⟩;obtain ⟨n',rfl⟩:∃ n',n=n'+1:=⟨n-1,zO⟩
 show jx tab eZ (lu tab eZ m n') m (.fn f args) H=_;simp only [jx,a,he,zI,if_pos hl];rw [g m n' zO zO];rcases hx with rfl | rfl <;> simp [c]
end
def Cells.set1 {α:Type} {e:QT α} {H:Heap} {cells:List AV} {l:List α} (h:Cells (bY e) H cells l) {i:Nat} {a:α} {v:AV} (hi:i<l.length) (hr:e.R H v a):Cells (bY e) H (cells.set i v) (l.set i a):=by
 have hc:i<cells.length:=by have:=h.1; simp [bY] at this; omega
 have h2:cells.take (i*1)++[v]++cells.drop (i*1+1)=cells.set i v:=by rw [WT,X1,if_pos hc]; simp
 have this:Cells (bY e) H (cells.take (i*1)++[v]++cells.drop (i*1+1)) (l.set i a):=Cells.set h hi ⟨v,rfl,hr⟩;rw [h2] at this;exact this
def Cells.at1 {α:Type} {e:QT α} {H:Heap} {cells:List AV} {l:List α} (h:Cells (bY e) H cells l) {i:Nat} (hi:i<l.length):∃ v,bz cells i none=some v/\e.R H v l[i]:=by
 obtain ⟨v,h1,h2⟩:=h.2 i _ (Vk hi);have hc:i<cells.length:=by have:=h.1; simp [bY] at this; omega
 refine ⟨v,?_,h2⟩;have a:(cells.drop (i*1)).take 1=[v]:=h1;rw [WT] at a;have h3:((cells.drop i).take 1)[0]? = some v:=by rw [a]; rfl
 rw [List.getElem?_take_of_lt zO,VM] at h3
 simpa [bz] using h3
section
variable {tab:Nat->Option au} {H:Heap} {s:AV}
def nK (F:List (List Int)) (x:List Int) (k:Nat):List Int:=(F.take k).foldl (fun a r=>Lin.wo a r (Lin.pv r)) (Lin.prime x)
def qE {F:List (List Int)} {x:List Int} {k:Nat} (a:k<F.length):nK F x (k+1)=Lin.wo (nK F x k) F[k] (Lin.pv F[k]):=by
 unfold nK;rw [Vr a,Yc]; rfl
def jL (F:List (List Int)) (x:List Int):nK F x F.length=Lin.restF F x:=by
 unfold nK Lin.restF;rw [VO]
def pj {d:Nat} {F:List (List Int)} {x:List Int} (hx:x.length=d) (a:∀ r∈F,r.length=d):∀ k,k<=F.length->(nK F x k).length=d
 | 0,_=>by unfold nK; simp [Lin.prime_length,hx]
 | k+1,h=>by
  rw [qE zO];exact Lin.wo_length (pj hx a k zO) (a _ (Vm zO))
def oG {e f:Nat} {F:List (List Int)} {x:List Int} (hx:∀ z∈x,Bt e z) (b:∀ r∈F,∀ z∈r,Bt f z):∀ k,k<=F.length->∀ z∈nK F x k,Bt (e+k*(f+1)) z
 | 0,_=>by
  intro z a;unfold nK at a;exact (Fa hx z (by simpa using a)).mono zO
 | k+1,h=>by
  rw [qE zO];intro z a;refine (QV (oG hx b k zO) (b _ (Vm zO)) z a).mono ?_;rw [W4]; omega
def Hi {r:List Int} {p:Nat} (h:Lin.pivot r=some p):R9 r=(p:Int):=by unfold R9; rw [h]
def xd (C:Code tab) (hw:Wf H) {fb:Nat} {q va:AV} {F:List (List Int)} {x:List Int} {d e f:Nat} (D:H.get fb=some (.cells [q] eM true)) (s:dS H q F) (ha:RowV H va x) (hx:x.length=d) (X:d<=64) (Y:F.length<=64)
  (p:∀ r∈F,r.length=d/\Lin.pivot r=some (Lin.pv r)/\∀ z∈r,Bt f z) (A:∀ z∈x,Bt e z) (hb:e+65*(f+1)<=8796093022208) :
  Ans tab (.fn iH [.ptr fb 0,va]) H fun v H'=>RowV H' v (Lin.restF F x)/\Kp H H':=by
 refine bC C.q101 zU fun T hl i k=>?_;refine zW (aB hl i k) ?_;refine AnsH.use (wh C zF (ha.mono (zG H)) zO fun z R=>(A z R).sm zO) ?_;rintro v H2 ⟨r2,rfl,P,J⟩;obtain ⟨k2,_,w2⟩:=zT H zK J;have E:=k2.get D;refine zW (cp hl i k E s.lenV) ?_;refine am H [1] (fun j vs H'=>∃ v,vs=[v]/\RowV H' v (nK F x j)) (a:=0) (N:=F.length) rfl (by refine zW (aB hl i k) ?_; rfl) (zV (aB hl i k)) (Vz _) zO (by simp only [Vg,hl]; rfl) rfl (fun j vs H' m ⟨c,h1,h2⟩=>⟨c,h1,h2.mono (Sub.bump H' m)⟩) zK ⟨r2,by exact zV (aB hl i k),by exact P.mono (Sub.bump H2 _)⟩ ?_ ?_
 ·rintro j T1 n _ hj g G y b ⟨vr,l,hr⟩;have w1:=b.wf;have U:=b.le;simp only [Vq,Vw,Vv,and_true] at l;have V:aa T1 15=q:=(y.at_ 15 zU).trans (zV (aB hl i k));obtain ⟨w,u,M⟩:=dD (s.mono b.sub) hj;have I:=SlV.idx1 s .i64 j hj;have o:=p _ (Vm hj);simp only [Vg,hl] at g;refine zW (eF g V G I M l) ?_;refine AnsH.eq (tC C zF (u.mono (zG n)) zO) fun W K=>?_;obtain ⟨t,_,w3⟩:=zT n zK K;rw [Hi o.2.1];have O:=pj hx (fun r h=>(p r h).1) j zO;have ab:Lin.pv F[j]<d:=by have:=(Lin.pivot_some.1 o.2.1).1; omega
  have Z:j*(f+1)<=63*(f+1):=Vy _ zO;refine zW (aA g l) ?_;refine AnsH.use (uD C zF (hr.mono t.sub) (u.mono t.sub) (O.trans o.1.symm) zO zO (oG A (fun r h=>(p r h).2.2) j zO) o.2.2 zO) ?_;rintro v4 B ⟨Q,L⟩;have S:Kp H B:=Kp.trans (Kp.trans b t) L;have ad:=S.le;refine zW g ?_;refine ⟨zK,_,rfl,?_⟩;rw [qE hj];exact Q
 ·rintro T1 n g y b ⟨vr,l,hr⟩;have w1:=b.wf;have U:=b.le;simp only [Vq,Vw,Vv,and_true] at l;simp only [Vg,hl] at g;rw [jL] at hr;refine zW (aA g l) ?_;exact ⟨hr.mono (Sub.bump n _),zK⟩
abbrev rowsE:fO (List Int):=bY (sO intE ad)
def Gy (C:Code tab) {H0:Heap} {q va:AV} {F:List (List Int)} {x:List Int} {k a:Nat} (d:Kp H0 H) (z:Bl rowsE af H0 H q F) (g:k<=F.length) (i:H.get a=some (.cells [va] af true)) (hx:RowV H va x) (hne:∀ n,q ≠ .own a 0 n n 1 false) (D:F.length<1099511627776) :
  Ans tab (.fn cF [q,.int .i64 (k:Int),.own a 0 1 1 1 true]) H fun v H'=>Kp H0 H'/\Bl rowsE af H0 H' v (F.take k++x :: F.drop k)/\(∀ b e,H.get b=some e->(∀ n,q ≠ .own b 0 n n 1 false)->H'.get b=some e)/\(∃ n,v=.own H.next 0 n n 1 false)/\H'.next=H.next+1:=by
 have f:=d.le;have m:=hx.one;have u:H.get H.next=none:=d.wf.fresh (Vo _)
 have j:aG H 1 1 (.own a 0 1 1 1 true)=some [va]:=by simp [aG,i]
 rcases z with ⟨rfl,rfl⟩ | ⟨b,cells,rfl,hb,hcl,o⟩
 ·have w:k=0:=by simpa using g
  subst w;have hs:Sub H (({ H with next:=H.next+1 }:Heap).put H.next (.cells [va] af true)):=(Sub.bump H 1).put u _;refine yV C.q133 rfl rfl (v:=.own H.next 0 1 1 1 false) (H':=({ H with next:=H.next+1 }:Heap).put H.next (.cells [va] af true)) ?_ ⟨(d.up 1).put f (by show _<H.next+1; omega),.inr ⟨H.next,[va],rfl,ap _ _ _,?_,f⟩,fun c e hc _=>hs.get _ _ hc,⟨1,rfl⟩,rfl⟩
  ·show u3 H (.insert 1 24 af) [.nilSl,.int .i64 (.ofNat 0),.own a 0 1 1 1 true]=_;simp [u3,j,m.2]
  ·exact Cells.one (E:=rowsE) ⟨va,rfl,hx.mono hs⟩
 ·have hl:(F.take k++x :: F.drop k).length=F.length+1:=by simp; omega
  have p:b≠a:=fun e=>hne F.length (by rw [e]; rfl);have hlt:=d.wf _ _ hb;have B:cells.length=F.length:=by have:=hcl.1; simpa [bY] using this
  have l:∀ c e,H.get c=some e->c≠b->((({ H with next:=H.next+1 }:Heap).kill b).put H.next (.cells (cells.take (k*1)++[va]++cells.drop (k*1)) af true)).get c=some e:=fun c e hc s=>by
   have:=d.wf _ _ hc
   rw [al zO,cC s]; exact hc
  have hs:SubT (sO intE ad).tys H ((({ H with next:=H.next+1 }:Heap).kill b).put H.next (.cells (cells.take (k*1)++[va]++cells.drop (k*1)) af true)):=fun c cs t r A hc=>l c _ hc fun e=>by
   subst e;rw [hb] at hc; cases hc
   revert A; decide
  refine yV C.q133 rfl rfl (v:=.own H.next 0 (F.length+1) (F.length+1) 1 false) (H':=(({ H with next:=H.next+1 }:Heap).kill b).put H.next (.cells (cells.take (k*1)++[va]++cells.drop (k*1)) af true)) ?_ ⟨((d.up 1).kill o).put f (by show _<H.next+1; omega),.inr ⟨H.next,_,by rw [hl]; rfl,ap _ _ _,?_,f⟩,fun c e hc h=>l c e hc fun e1=>h F.length (by rw [e1]; rfl),⟨_,rfl⟩,rfl⟩
  ·show u3 H (.insert 1 24 af) [.own b 0 F.length F.length 1 false,.int .i64 (.ofNat k),.own a 0 1 1 1 true]=_;have y:=hcl.ones;simp only [u3,j,hb,i];rw [if_pos ⟨trivial,trivial,p,zO,g,zO,zO,zO,trivial,by simp [m.2],y⟩]
  ·have h1:=(hcl.mono hs).take g;have h2:=(hcl.mono hs).drop k;have h3:Cells rowsE ((({ H with next:=H.next+1 }:Heap).kill b).put H.next (.cells (cells.take (k*1)++[va]++cells.drop (k*1)) af true)) [va] [x]:=Cells.one (E:=rowsE) ⟨va,rfl,SlV.monoT (E:=intE) hs hx⟩;have e:F.take k++[x]++F.drop k=F.take k++x :: F.drop k:=by simp
   rw [<- e];exact (h1.append h3).append h2
end
def jw (w:List Int->List Int) (F:List (List Int)) (j:Nat):List (List Int):=(F.take j).map w++F.drop j
def zt (w:List Int->List Int) (F:List (List Int)):jw w F 0=F:=by simp [jw]
def rS (w:List Int->List Int) (F:List (List Int)) {j:Nat} (h:j<=F.length):(jw w F j).length=F.length:=by simp [jw]; omega
def B3 (w:List Int->List Int) (F:List (List Int)):jw w F F.length=F.map w:=by simp [jw]
def B2 (w:List Int->List Int) (F:List (List Int)) {j:Nat} (h:j<F.length):(jw w F j)[j]? = some F[j]:=by
 unfold jw;rw [We (by simp; omega)];have e:j-((F.take j).map w).length=0:=by simp; omega
 rw [e,VM];simp [h]
def B0 (w:List Int->List Int) (F:List (List Int)) {j:Nat} (h:j<F.length):(jw w F j).set j (w F[j])=jw w F (j+1):=by
 apply W0
 intro i;rw [XF];have hl:=rS w F (Xe h);by_cases e:j=i
 ·subst e;rw [if_pos rfl,if_pos zO];unfold jw;rw [VT (by simp; omega)];simp [h]
 ·rw [if_neg e];unfold jw;by_cases hi:i<j
  ·rw [VT (by simp; omega),VT (by simp; omega)];simp [hi,show i<j+1 by omega]
  ·rw [We (by simp; omega),We (by simp; omega),VM,VM];congr 1
   simp; omega
def Jl {x:List Int} {p:Nat}:∀ {F:List (List Int)} {k:Nat},k<=F.length->(∀ i (h:i<F.length),i<k->Lin.before (Lin.pv F[i]) p=true)->(∀ h:k<F.length,Lin.before (Lin.pv F[k]) p=false)->Lin.insP x p F=F.take k++x :: F.drop k
 | [],k,a,_,_=>by
  have:k=0:=by simpa using a
  subst this; rfl
 | r :: F,0,_,_,h1=>by
  have:=h1 (by simp)
  simp only [Y0] at this;simp [Lin.insP,this]
 | r :: F,k+1,a,h0,h1=>by
  have h2:=h0 0 (by simp) zO;simp only [Y0] at h2;have b:=Jl (x:=x) (p:=p) (F:=F) (k:=k) (by simpa using a) (fun i h hi=>by have:=h0 (i+1) (by simpa using h) zO; simpa using this) (fun h=>by have:=h1 (by simpa using h); simpa using this);simp [Lin.insP,h2,b]
def Gx:MuI (-1):=by
 have:=bo (n:=1) (k:=1) zU
 unfold MuI;show (ag 1).length<_;omega
section
variable {tab:Nat->Option au} {H:Heap} {s:AV}
def Of (C:Code tab) {H0:Heap} {fb:Nat} {q va:AV} {F:List (List Int)} {x:List Int} {d e f:Nat} (hk:Kp H0 H) (cd:H0.next<=fb) (av:H.get fb=some (.cells [q] eM true)) (hq:Bl rowsE af H0 H q F) (ha:RowV H va x) (hx:x.length=d) (bt:d<=64) (hE:Lin.Ech d F) (a3:F.length<=64)
  (bu:∀ r∈F,∀ z∈r,Bt f z) (bd:∀ z∈x,Bt e z) (hb:e+66*(f+1)<=8796093022208) :
  Ans tab (.fn gr [.ptr fb 0,va]) H fun v H'=>v=.tup []/\Kp H0 H'/\∃ q',H'.get fb=some (.cells [q'] eM true)/\Bl rowsE af H0 H' q' (Lin.putF F x):=by
 have hw:=hk.wf;have hF:∀ r∈F,r.length=d/\Lin.pivot r=some (Lin.pv r)/\∀ z∈r,Bt f z:=fun r hr=>⟨hE.len r hr,(hE.pos hr).1,bu r hr⟩
 have bW:(Lin.restF F x).length=d:=by rw [<- jL]; exact pj hx (fun r h=>(hF r h).1) _ (Vo _)
 have ce:F.length*(f+1)<=64*(f+1):=Vy _ a3;have aJ:∀ z∈Lin.restF F x,Bt (e+64*(f+1)) z:=fun z hz=>by
  rw [<- jL] at hz;exact (oG bd (fun r h=>(hF r h).2.2) _ (Vo _) z hz).mono zO
 refine BM C.q118 rfl rfl zU fun T hl g=>?_;have hl:T.length=79:=hl;have a8:c_P_rows_form_put.results=[]:=rfl;have l:aa T 0=.ptr fb 0:=g 0 (by simp);have o:aa T 1=va:=g 1 (by simp);refine bi ?_;refine zW (aV hl l o @aC) ?_;refine AnsH.use (xd C (H:=H.up 4) zF av (hq.sl.mono (Sub.bump H 4)) (ha.mono (Sub.bump H 4)) hx bt a3 hF bd zO) ?_;rintro v H2 ⟨a6,bF⟩;obtain ⟨k2,_,w2⟩:=zT H zK bF;refine zW (aV hl l o @aC) ?_;refine bi ?_;refine zW (aV hl l o @aC) ?_;refine AnsH.eq (tC C zF (a6.mono (zG H2)) zO) fun U aZ=>?_;have k3:Kp H U:=Kp.trans k2 (Kp.trans zK aZ);have ct:=k3.le;have w3:=k3.wf;have Z:RowV U v (Lin.restF F x):=a6.mono (Kp.sub (H:=H2) (Kp.trans zK aZ));cases P:Lin.pivot (Lin.restF F x) with
 | none =>
  have e1:R9 (Lin.restF F x) = -1:=by unfold R9; rw [P]
  rw [e1];refine zW (aV hl l o @aC) ?_;refine bi ?_;refine zW (eF hl l o @aC @uB a8) ?_;have e2:Lin.putF F x=F:=by unfold Lin.putF; rw [P]
  rw [e2];have b2:Kp H0 U:=hk.trans k3;have co:=b2.le;exact ⟨zK,q,k3.get av,hq.mono (zG H)⟩
 | some p =>
  rw [Hi P];have hp:p<(Lin.restF F x).length:=(Lin.pivot_some.1 P).1;have cg:=(Lin.pivot_some.1 P).2.1;have bK:¬ (p:Int)<0:=zO;refine zW (aV hl l o @aC) ?_;refine bi ?_;refine zW (eF hl l o @aC @uB bK) ?_;refine dy (fun T' H'=>∃ u,aa T' 1=u/\RowV H' u (Lin.signed (Lin.restF F x) p)/\Kp H H') rfl ?_ ?_
  ·obtain ⟨w,hn,a4,bR,cb⟩:=kP Z hp;have M:cL 2 v (.int .i64 (p:Int))=some (aq v (p*2)):=SlV.idx Z .i64 p hp;have bz:AD 0 (aq v (p*2))=some (aq v (p*2)):=SlV.fa Z zO 0 (p*2);refine zW (gS hl l o M bz bR @aU) ?_;refine iteH.split (fun h=>?_) fun h=>?_
   ·refine zW (aB hl l o) ?_;refine AnsH.use (oz C (n:=-1) zF zO zO) ?_;rintro v4 K ⟨bC,a0⟩;have I:Kp H K:=Kp.trans k3 (Kp.trans zK a0);have cu:=I.le;have w4:=I.wf;refine zW (aB hl l o) ?_;refine AnsH.use (BY C zF (Z.mono (Kp.sub (H:=U) (Kp.trans zK a0))) bC zO (fun z hz=>(aJ z hz).len zO) Gx) ?_;rintro v5 L ⟨r5,rfl,bP,W⟩;have k5:Kp H L:=Kp.trans I W;have cv:=k5.le;refine zW (aV hl l o @aU) ?_;refine ⟨_,rfl,?_,k5⟩;unfold Lin.signed;rw [if_pos (by rw [rK hp]; exact h)];exact bP
   ·refine zW (aV hl l o @aU) ?_;refine ⟨_,rfl,?_,zK⟩;unfold Lin.signed;rw [if_neg (by rw [rK hp]; exact h)];exact Z.mono (Sub.bump U _)
  ·rintro T1 K aF ⟨u,bb,bO,I⟩;have w4:=I.wf;have b3:Kp H0 K:=hk.trans I;have cq:=b3.le;have t0:aa T1 0=.ptr fb 0:=(aF.at_ 0 zU).trans (zV (aB hl l o));have t4:aa T1 4=.int .i64 (p:Int):=(aF.at_ 4 zU).trans (zV (aB hl l o));have s:T1.length=79:=aF.len.trans (by simp only [Vg]; exact hl);have aW:=I.get av;have a5:Bl rowsE af H0 K q F:=hq.mono I.sub;have bM:Lin.putF F x=Lin.insP (Lin.signed (Lin.restF F x) p) p (F.map fun r=>Lin.wo r (Lin.signed (Lin.restF F x) p) p):=by unfold Lin.putF; rw [P]
   have ao:=(Lin.put_ech hE hx).1;rw [bM] at ao ⊢;have bZ:(Lin.signed (Lin.restF F x) p).length=d:=Lin.signed_length bW;have bV:∀ z∈Lin.signed (Lin.restF F x) p,Bt (e+64*(f+1)) z:=by
    unfold Lin.signed;split
    ·exact GY aJ
    ·exact aJ
   have aD:∀ r'∈F.map (fun r=>Lin.wo r (Lin.signed (Lin.restF F x) p) p),r'.length=d/\Lin.pivot r'=some (Lin.pv r'):=fun r' h=>by
    have hm:r'∈Lin.insP (Lin.signed (Lin.restF F x) p) p (F.map fun r=>Lin.wo r (Lin.signed (Lin.restF F x) p) p):=Lin.mem_insP.2 (.inr h);exact ⟨ao.len _ hm,(ao.pos hm).1⟩
   generalize Lin.signed (Lin.restF F x) p=y at *
   obtain ⟨w,bc⟩:∃ w:List Int->List Int,w=fun r=>Lin.wo r y p:=⟨_,rfl⟩
   rw [<- bc] at aD ⊢;have ch:p<d:=zO;refine WC.wb ?_;refine zW (cp s t0 t4 aW a5.sl.lenV) ?_;refine am H0 [] (fun j _ H'=>H'.get fb=some (.cells [q] eM true)/\Bl rowsE af H0 H' q (jw w F j)/\RowV H' u y) (a:=0) (N:=F.length) rfl (by refine zW s ?_; rfl) (zV s) (Vz _) zO (by simp only [Vg,s]; rfl) rfl (fun j vs H' m ⟨h1,h2,h3⟩=>⟨h1,h2.mono (Sub.bump H' m),h3.mono (Sub.bump H' m)⟩) zK ⟨aW,by rw [zt]; exact a5.mono (Sub.bump K _),bO.mono (Sub.bump K _)⟩ ?_ ?_
   ·rintro j T2 L _ hj ah ax ai W ⟨R,j2,j3⟩;have w5:=W.wf;have ck:=W.le;have aI:=rS w F (Xe hj);rcases j2 with ⟨-,bL⟩ | ⟨b,cells,aE,ag,hcl,bv⟩
    ·exfalso
     rw [bL] at aI; simp at aI; omega
    rw [aI] at aE;have ay:j<(jw w F j).length:=zO;obtain ⟨vr,bT,ak⟩:=hcl.at1 ay;have bB:(jw w F j)[j]=F[j]:=by
     have:=B2 w F hj
     rw [Vk ay] at this;exact Option.some.inj this
    rw [bB] at ak;have ak:RowV L vr F[j]:=ak;have aP:=hF _ (Vm hj);have cc:cells.length=F.length:=by have:=hcl.1; simp [bY] at this; omega
    have hne:fb≠b:=fun e=>by
     subst e;rw [R] at ag; injection ag with h; injection h with _ h2; exact absurd h2 zU
    have b7:aa T2 29=q:=(ai.at_ 29 zU).trans (zV s);have bm:aa T2 0=.ptr fb 0:=(ai.at_ 0 zU).trans (zV (aA s t0));have bn:aa T2 1=u:=(ai.at_ 1 zU).trans (zV (aA s bb));have bq:aa T2 4=.int .i64 (p:Int):=(ai.at_ 4 zU).trans (zV (aA s t4));have M:cL 1 q (.int .i64 (j:Int))=some (.ptr b j):=by
     have:=nl (b:=b) (off:=0) (c:=F.length) (sz:=1) (x:=false) (k:=.i64) hj
     rw [V3,WT] at this;rw [aE]; exact this
    simp only [Vg,s] at ah;refine zW (eF ah b7 ax M ag bT) ?_;refine aM ?_;refine zD (eF ah bm bn bq ax R) ?_;refine AnsH.use (uD C zF (ak.mono (zG L)) (j3.mono (zG L)) (aP.1.trans bZ.symm) zO zO aP.2.2 bV zO) ?_;rintro v6 V ⟨a7,bG⟩;obtain ⟨ab,_,_⟩:=zT L zK bG;have bg:Kp H0 V:=W.trans ab;have cr:=bg.le;have w6:=bg.wf;have ar:=ab.get ag;have ci:=w6 _ _ ar;have b0:=ab.get R;have o6:=a7.one;have bD:j<cells.length:=zO;refine zD (ur ah bm bn bq ax R b0 M ar bD) ?_;have mb:NoTy (sO intE ad).tys V b:=NoTy.ty ar zU;have bh:SubT (sO intE ad).tys V (V.put b (.cells (cells.set j v6) af true)):=SubT.puts (SubT.refl _ _) mb;have bU:w F[j]=Lin.wo F[j] y p:=by rw [bc]
    have bx:Cells rowsE V cells (jw w F j):=hcl.mono (ab.sub.t _);refine ⟨zK,.inr ⟨b,_,?_,ap _ _ _,?_,bv⟩,SlV.monoT (E:=intE) bh (j3.mono ab.sub)⟩
    ·rw [rS w F zO]; exact aE
    ·rw [<- B0 w F hj,bU];exact Cells.mono (E:=rowsE) bh (bx.set1 ay a7)
   ·rintro T3 H7 G aG a1 ⟨R,j2,j3⟩;have w7:=a1.wf;have cl:=a1.le;rw [B3] at j2;have aK:aa T3 0=.ptr fb 0:=(aG.at_ 0 zU).trans (zV (aA s t0));have bo:aa T3 1=u:=(aG.at_ 1 zU).trans (zV (aA s bb));have br:aa T3 4=.int .i64 (p:Int):=(aG.at_ 4 zU).trans (zV (aA s t4));simp only [Vg,s] at G;obtain ⟨F',aO⟩:∃ F',F'=F.map w:=⟨_,rfl⟩
    rw [<- aO] at j2 aD ⊢;have ca:F'.length=F.length:=by rw [aO]; simp
    refine zW (aV G aK bo br) ?_;refine lM H0 [7] (fun m vs H'=>∃ k:Nat,vs=[.int .i64 (k:Int)]/\k<=F'.length/\(∀ i (h:i<F'.length),i<k->Lin.before (Lin.pv F'[i]) p=true)/\m=F'.length-k/\H'.get fb=some (.cells [q] eM true)/\Bl rowsE af H0 H' q F'/\RowV H' u y)
     (fun vs H'=>∃ k:Nat,vs=[.int .i64 (k:Int)]/\k<=F'.length/\(∀ i (h:i<F'.length),i<k->Lin.before (Lin.pv F'[i]) p=true)/\(∀ h:k<F'.length,Lin.before (Lin.pv F'[k]) p=false)/\H'.get fb=some (.cells [q] eM true)/\Bl rowsE af H0 H' q F'/\RowV H' u y)
     F'.length (by simp only [Vg,G]; rfl) rfl zK ⟨0,by refine zW G ?_; rfl,zO,fun i _ h=>by omega,zO,R,j2.mono (Sub.bump H7 _),j3.mono (Sub.bump H7 _)⟩ ?_ ?_
    ·rintro m T4 J Y a9 az ⟨k,B,X,hbf,hm,D,t,Q⟩;have w8:=az.wf;have cm:=az.le;simp only [Vq,Vw,Vv,and_true] at B;have ae:aa T4 0=.ptr fb 0:=(a9.at_ 0 zU).trans (zV (aA G aK));have aL:aa T4 4=.int .i64 (p:Int):=(a9.at_ 4 zU).trans (zV (aA G br));by_cases O:k<F'.length
     ·obtain ⟨wv,bQ,a4⟩:=dD t.sl O;have M:=SlV.idx1 t.sl .i64 k O;have bI:=aD _ (Vm O);refine zW (lh Y B ae aL D t.sl.lenV O M a4) ?_;refine AnsH.eq (tC C zF (bQ.mono (zG J)) zO) fun H9 bH=>?_;obtain ⟨b5,_,w9⟩:=zT J zK bH;rw [Hi bI.2];refine zW (aV Y B ae aL) ?_;refine AnsH.eq (E3 C zF) fun aN bE=>?_;have S:Kp J aN:=Kp.trans b5 bE;have cw:=S.le;have b1:Kp H0 aN:=az.trans S;have cn:=b1.le;cases aR:Lin.before (Lin.pv F'[k]) p with
      | true =>
       have e:IntKind.i64.wrap ((k:Int)+1)=((k+1:Nat):Int):=by rw [wrap_i64] <;> omega
       refine zW (aB Y B e) ?_;refine ⟨zK,F'.length-(k+1),zO,k+1,rfl,zO,fun i h hi=>?_,rfl,S.get D,t.mono (zG J),Q.mono (zG J)⟩;by_cases ei:i=k
       ·subst ei; exact aR
       ·exact hbf i h zO
      | false =>
       refine zW (aA Y B) ?_;exact ⟨zK,k,rfl,X,hbf,fun _=>aR,S.get D,t.mono S.sub,Q.mono S.sub⟩
     ·refine zW (gS Y B ae aL D t.sl.lenV O) ?_;exact ⟨zK,k,rfl,X,hbf,fun h=>absurd h O,t.mono (Sub.bump J _),Q.mono (Sub.bump J _)⟩
    ·rintro T5 A a2 ba aY ⟨k,B,X,hbf,bw,D,t,Q⟩;have bs:=aY.wf;have cj:=aY.le;simp only [Vq,Vw,Vv,and_true] at B;have ae:aa T5 0=.ptr fb 0:=(ba.at_ 0 zU).trans (zV (aA G aK));have b6:aa T5 1=u:=(ba.at_ 1 zU).trans (zV (aA G bo));rw [Jl X hbf bw];have oa:=Q.one;have cx:=bs _ _ D;refine zW (cp a2 B ae b6 D) ?_;have aS:A.get (A.next+7)=none:=bs.fresh zO;have bN:∀ n,q ≠ .own (A.next+7) 0 n n 1 false:=fun n e=>by
      rcases t with ⟨h,-⟩ | ⟨b,cells,h,aQ,-⟩
      ·rw [h] at e; cases e
      ·rw [h] at e; injection e with e1; rw [e1,aS] at aQ; cases aQ
     have sx:Sub A ((A.up 12).put (A.next+7) (.cells [u] af true)):=(Sub.bump A 12).trans (aX (H:=A.up 12) aS);refine AnsH.use (Gy C (H0:=H0) (F:=F') (x:=y) (k:=k) zK (t.mono sx) X (da) (Q.mono sx) bN zO) ?_;rintro cz b9 ⟨b4,bl,keep,⟨n,rfl⟩,cf⟩;have b8:=b4.wf;have bA:((A.up 12).put (A.next+7) (.cells [u] af true)).get fb=some (.cells [q] eM true):=by exact zV D
     have bJ:∀ n,q ≠ .own fb 0 n n 1 false:=fun n=>t.ne D (fun cs h=>by injection h with _ h2; exact absurd h2 zU) n;have al:=keep fb _ bA bJ;have cy:=b8 _ _ al;refine zW (aB a2 a8 al) ?_;refine ⟨zK,_,rfl,bl.put (fun n' h=>?_) (SubT.put_ty al zU)⟩
     injection h with h1
     simp only [next_put,cO] at h1;omega
end
def E5 {d:Nat}:∀ {l:List Nat} {lo:Nat},lo<=d->l.Pairwise (· < ·)->(∀ a∈l,lo<a/\a<=d)->l.length+lo<=d
 | [],lo,h,_,_=>by simpa using h
 | a :: l,lo,h,hp,hb=>by
  have ha:=hb a (Vt ..);have e:=Xh.1 hp
  have:=E5 (d:=d) (lo:=a) ha.2 e.2 fun b c=>⟨e.1 b c,(hb b (Vn _ c)).2⟩
  simp only [VX];omega
def ech_len {d:Nat} {F:List (List Int)} (h:Lin.Ech d F):F.length<=d:=by
 have h1:(F.map fun r=>Lin.rank (Lin.pv r) d).Pairwise (· < ·):=by
  rw [WE];refine h.sorted.imp_of_mem fun {r s} hr hs hb=>?_;exact (Lin.before_iff (h.pos hr).2.2 (h.pos hs).2.2).1 hb
 have h2:=E5 (d:=d) (lo:=0) (Vz _) h1 fun a ha=>by
  rw [Vl] at ha;obtain ⟨r,hr,rfl⟩:=ha
  have:=(h.pos hr).2.2
  unfold Lin.rank;split <;> omega
 simpa using h2
def jy (e:Nat):Nat->Nat
 | 0=>0
 | k+1=>e+(k+1)*(jy e k+1)
def Id (e k:Nat):jy e k<=jy e (k+1):=by
 show jy e k<=e+(k+1)*(jy e k+1);rw [W4]; omega
def tW (e:Nat) {k m:Nat} (h:k<=m):jy e k<=jy e m:=by
 induction m with
 | zero =>
  have:k=0:=zO
  subst this; exact Vo _
 | succ m b =>
  by_cases a:k<=m
  ·exact VB (b a) (Id e m)
  ·have:k=m+1:=zO
   subst this; exact Vo _
def insP_len {x:List Int} {p:Nat}:∀ F:List (List Int),(Lin.insP x p F).length=F.length+1
 | []=>rfl
 | r :: F=>by
  unfold Lin.insP;split
  ·simp [insP_len F]
  ·simp
def P3 {d e f:Nat} {F:List (List Int)} {x:List Int} (b:∀ r∈F,∀ z∈r,Bt f z) (hx:∀ z∈x,Bt e z) :
  Lin.putF F x=F\/((Lin.putF F x).length=F.length+1/\∀ r∈Lin.putF F x,∀ z∈r,Bt (e+(F.length+1)*(f+1)) z):=by
 have hy:∀ z∈Lin.restF F x,Bt (e+F.length*(f+1)) z:=by
  rw [<- jL]; exact oG hx b _ (Vo _)
 have hs:∀ p,∀ z∈Lin.signed (Lin.restF F x) p,Bt (e+F.length*(f+1)) z:=fun p=>by
  unfold Lin.signed;split
  ·exact GY hy
  ·exact hy
 unfold Lin.putF;cases hp:Lin.pivot (Lin.restF F x) with
 | none=>exact .inl rfl
 | some p =>
  refine .inr ⟨by simp [insP_len],fun r hr=>?_⟩;have e1:(F.length+1)*(f+1)=F.length*(f+1)+(f+1):=W4 _ _;rcases Lin.mem_insP.1 hr with rfl | hr
  ·exact fun z a=>(hs p z a).mono zO
  ·rw [Vl] at hr;obtain ⟨u,c,rfl⟩:=hr;exact fun z a=>(QV (b u c) (hs p) z a).mono zO
def oj (l:List (List Int)) (k:Nat):List (List Int):=(l.take k).foldl Lin.putF []
def xS {l:List (List Int)} {k:Nat} (h:k<l.length):oj l (k+1)=Lin.putF (oj l k) l[k]:=by
 unfold oj;rw [Vr h,Yc]; rfl
def AC (l:List (List Int)):oj l l.length=Lin.formF l:=by
 unfold oj Lin.formF;rw [VO]
def Ia {d:Nat} {l:List (List Int)} (hl:∀ r∈l,r.length=d) (k:Nat):Lin.Ech d (oj l k) :=
 (Lin.form_go (l.take k) [] (Lin.Ech.nil d) fun a ha=>hl a (Xg ha)).1
def xe {d e:Nat} {l:List (List Int)} (hl:∀ r∈l,r.length=d) (hb:∀ r∈l,∀ z∈r,Bt e z):∀ k,k<=l.length->∀ r∈oj l k,∀ z∈r,Bt (jy e (oj l k).length) z
 | 0,_=>by intro r hr; cases hr
 | k+1,h=>by
  have a:=xe hl hb k zO;rw [xS zO];rcases P3 (d:=d) a (hb _ (Vm (show k<l.length by omega))) with h1 | ⟨h1,h2⟩
  ·rw [h1]; exact a
  ·rw [h1]; exact h2
section
variable {tab:Nat->Option au} {H:Heap} {s:AV}
def qC (C:Code tab) (M:Wf H) {l:List (List Int)} {d e:Nat} (hs:dS H s l) (I:l.length<1099511627776) (hd:d<=64) (o:∀ r∈l,r.length=d) (t:∀ r∈l,∀ z∈r,Bt e z) (hb:e+66*(jy e d+1)<=8796093022208) :
  Ans tab (.fn nR [s]) H fun v H'=>∃ fb q,v=.ptr fb 0/\H'.get fb=some (.cells [q] eM true)/\dS H' q (Lin.formF l)/\Kp H H':=by
 refine dg C.q100 zU fun T hl b=>?_;have x:gR (.agg [.nilSl])=some [.nilSl]:=rfl;refine zW (aV hl b hs.lenV x) ?_;refine am H [] (fun j _ H'=>∃ q,H'.get (H.next+2)=some (.cells [q] eM true)/\Bl rowsE af H H' q (oj l j)) (a:=0) (N:=l.length) rfl (by refine zW (aA hl b) ?_; rfl) (zV (aA hl b)) (Vz _) zO (by simp only [Vg,hl]; rfl) rfl (fun j vs H' m ⟨q,h1,h2⟩=>⟨q,h1,h2.mono (Sub.bump H' m)⟩) zK ⟨.nilSl,by exact da,Bl.nil⟩ ?_ ?_
 ·rintro j T1 h _ hj g y i c ⟨q,p,k⟩;have w1:=c.wf;have F:=c.le;have G:aa T1 11=s:=(i.at_ 11 zU).trans (zV (aA hl b));have t4:aa T1 4=.fn (.func gr) [.ptr (H.next+2) 0] []:=(i.at_ 4 zU).trans (zV (aA hl b));obtain ⟨w,hr,B⟩:=dD (hs.mono c.sub) hj;have A:=SlV.idx1 hs .i64 j hj;have n:=Ia o j;have J:=tW e (ech_len n);have L:=ech_len n;have u:=Vm hj;simp only [Vg,hl] at g;refine zW (eF g G t4 y A B) ?_;refine AnsH.use (Of C (H0:=H) (f:=jy e (oj l j).length) zK zO (by exact p) (k.mono (Sub.bump h _)) (hr.mono (Sub.bump h _)) (o _ u) hd n zO (xe o t j zO) (t _ u) zO) ?_;rintro v H2 ⟨rfl,K,q',D,E⟩;refine zW g ?_;refine ⟨zK,q',D,?_⟩;rw [xS hj];exact E
 ·rintro T1 h g i c ⟨q,p,k⟩;have w1:=c.wf;have F:=c.le;have t3:aa T1 3=.ptr (H.next+2) 0:=(i.at_ 3 zU).trans (zV (aA hl b));simp only [Vg,hl] at g;rw [AC] at k;refine zW (aA g t3) ?_;exact ⟨_,q,rfl,p,k.sl.mono (Sub.bump h _),zK⟩
def Di (C:Code tab) (p:Wf H) {l:List (List Int)} {d e:Nat} (hs:dS H s l) (f:l.length<=1024) (g:0<d) (hd:d<=64) (c:∀ r∈l,r.length=d) (b:∀ r∈l,∀ z∈r,Bt e z) (hb:e+66*(jy e d+1)<=8796093022208) :
  Ans tab (.fn mA [s]) H fun v H'=>∃ q,v=.tup [q,.int .i64 0]/\dS H' q (Lin.formF l)/\Kp H H':=by
 refine dg C.q79 zU fun T hl a=>?_;refine zW (aA hl a) ?_;refine AnsH.eq (j8 C (ty:=0) zF (hs.mono (zG H)) f ⟨g,hd,c,fun r hr z m=>(b r hr z m).sm zO⟩) fun H2 i=>?_;obtain ⟨k2,_,t⟩:=zT H zK i;refine zW (aA hl a) ?_;refine AnsH.use (qC C zF (hs.mono (zG H)) zO hd c b hb) ?_;rintro v o ⟨fb,q,rfl,h,k,j⟩;obtain ⟨n,_,_⟩:=zT H zK j;refine zW (aB hl a h) ?_;exact ⟨q,rfl,k,n⟩
def E4 (C:Code tab) (hw:Wf H) {a:AV} {x:List Int} {l:List (List Int)} {d e:Nat} (ha:RowV H a x) (hs:dS H s l) (L:l.length<=1024) (G:0<d) (hd:d<=64) (hx:x.length=d) (i:∀ r∈l,r.length=d) (n:∀ z∈x,Bt e z) (m:∀ r∈l,∀ z∈r,Bt e z) (hb:e+66*(jy e d+1)<=8796093022208) :
  Ans tab (.fn nT [a,s]) H fun v H'=>∃ q,v=.tup [q,.int .i64 0]/\RowV H' q (Lin.restF (Lin.formF l) x)/\Kp H H':=by
 have oa:=ha.one;refine bC C.q80 zU fun T hl c f=>?_;refine zW (aB hl c f) ?_;refine AnsH.eq (j8 C (ty:=0) zF (hs.mono (zG H)) L ⟨G,hd,i,fun r hr z b=>(m r hr z b).sm zO⟩) fun H2 O=>?_;obtain ⟨k2,_,w2⟩:=zT H zK O;refine zW (aB hl c f) ?_;refine AnsH.eq (j8 C (ty:=0) (d:=d) (ls:=[x]) zF (Sk (ha.mono k2.sub) (zG H2) (da)) (by simp) ⟨G,hd,by simpa using hx,by simpa using fun z b=>(n z b).sm zO⟩) fun J P=>?_;have F:Kp H J:=Kp.trans k2 (Kp.trans zK P);have ad:=F.le;have w3:=F.wf;have h:=(Lin.form_ech i).1;have R:=ech_len h;have M:=tW e R;have ab:(Lin.restF (Lin.formF l) x).length=d:=by rw [<- jL]; exact pj hx h.len _ (Vo _)
 have u:∀ r∈Lin.formF l,∀ z∈r,Bt (jy e d) z:=fun r hr z b=>by
  have:=xe i m l.length (Vo _)
  rw [AC] at this;exact (this r hr z b).mono M
 have aa:(Lin.formF l).length*(jy e d+1)<=64*(jy e d+1):=Vy _ zO;have I:∀ z∈Lin.restF (Lin.formF l) x,Bt (e+64*(jy e d+1)) z:=fun z b=>by
  rw [<- jL] at b;exact (oG n u _ (Vo _) z b).mono zO
 rcases Xw l.length with h0 | h0
 ·have S:lenV s=some (.int .i64 0):=by rw [hs.lenV,h0]; rfl
  refine zW (aV hl c f S) ?_;refine AnsH.use (qC C zF (hs.mono (zG H)) zO hd i m hb) ?_;rintro v K ⟨fb,q,rfl,t,B,w⟩;obtain ⟨j,_,w5⟩:=zT H zK w;refine zW (aB hl c f) ?_;refine AnsH.use (xd C zF t B (ha.mono j.sub) hx hd zO (fun r hr=>⟨h.len r hr,(h.pos hr).1,u r hr⟩) n zO) ?_;rintro v6 o ⟨D,y⟩;have g:Kp H o:=Kp.trans j y;have Y:=g.le;have w6:=g.wf;refine zW (aB hl c f) ?_;refine AnsH.use (zf C zF D zO fun z b=>(I z b).sm zO) ?_;rintro v7 p ⟨E,A⟩;have k:Kp H p:=Kp.trans g A;have Z:=k.le;refine zW (aB hl c f) ?_;exact ⟨_,rfl,E,k⟩
 ·obtain ⟨w0,V,Q⟩:=dD (hs.mono F.sub) h0;have N:cL 1 s (.int .i64 0)=some (aq s 0):=SlV.idx1 hs .i64 0 h0;have W:lenV w0=some (.int .i64 (d:Int)):=by rw [V.lenV,i _ (Vm h0)]
  have X:lenV a=some (.int .i64 (d:Int)):=by rw [ha.lenV,hx]
  have U:(0:Int)<(l.length:Int):=zO;refine zW (ur hl c f hs.lenV U h0 N Q W X) ?_;refine AnsH.use (qC C zF (hs.mono (zG H)) zO hd i m hb) ?_;rintro v K ⟨fb,q,rfl,t,B,w⟩;obtain ⟨j,_,w5⟩:=zT H zK w;refine zW (aB hl c f) ?_;refine AnsH.use (xd C zF t B (ha.mono j.sub) hx hd zO (fun r hr=>⟨h.len r hr,(h.pos hr).1,u r hr⟩) n zO) ?_;rintro v6 o ⟨D,y⟩;have g:Kp H o:=Kp.trans j y;have Y:=g.le;have w6:=g.wf;refine zW (aB hl c f) ?_;refine AnsH.use (zf C zF D zO fun z b=>(I z b).sm zO) ?_;rintro v7 p ⟨E,A⟩;have k:Kp H p:=Kp.trans g A;have Z:=k.le;refine zW (aB hl c f) ?_;exact ⟨_,rfl,E,k⟩
end
def Jw {e f:Nat} {x y:List Int} (hx:∀ z∈x,Bt e z) (hy:∀ z∈y,Bt f z):∀ j,j<=x.length->j<=y.length->(xn x y j).natAbs<=j*2^(e+f)
 | 0,_,_=>by simp [xn,Lin.dot]
 | j+1,h1,h2=>by
  rw [xl zO zO,W4];have a:=Jw hx hy j zO zO;have hm:=(hx _ (Vm (show j<x.length by omega))).mul (hy _ (Vm (show j<y.length by omega)));unfold Bt at hm
  have:=YY (xn x y j) (x[j]*y[j])
  omega
def Jx {e f:Nat} {x y:List Int} (hx:∀ z∈x,Bt e z) (hy:∀ z∈y,Bt f z) {j:Nat} (h1:j<=x.length) (h2:j<=y.length) (a:j<=64):Bt (e+f+7) (xn x y j):=by
 have h:=Jw hx hy j h1 h2;have h3:j*2^(e+f)<=64*2^(e+f):=Vy _ a;have b:0<2^(e+f):=Wb zU;unfold Bt;rw [Wu];omega
def ol {e f:Nat} {x y:List Int} (hx:∀ z∈x,Bt e z) (hy:∀ z∈y,Bt f z) (b:x.length=y.length) (a:x.length<=64):Bt (e+f+7) (Lin.dot x y):=by
 rw [<- FS b]; exact Jx hx hy (Vo _) zO a
section
variable {tab:Nat->Option au} {H:Heap} {s:AV}
def pd (C:Code tab) (k:Wf H) {a b:AV} {x y:List Int} {e f:Nat} (ha:RowV H a x) (hb:RowV H b y) (l:x.length=y.length) (d:x.length<=64) (hx:∀ z∈x,Bt e z) (hy:∀ z∈y,Bt f z) (g:e+f+7<=8796093022208) :
  Ans tab (.fn rZ [a,b]) H fun v H'=>∃ r,v=.tup [r,.int .i64 0]/\IntV H' r (Lin.dot x y)/\Kp H H' :=
 PM C k ha hb l d (fun z c=>(hx z c).len zO) (fun z c=>(hy z c).len zO) (fun i h h'=>((hx _ (Vm h)).mul (hy _ (Vm h'))).sm zO) fun j hj=>(Jx hx hy hj zO zO).sm g
def vz (C:Code tab) (k:Wf H) {a b:AV} {x y:List Int} {e f:Nat} (ha:RowV H a x) (hb:RowV H b y) (l:x.length=y.length) (i:x.length<=64) (hx:∀ z∈x,Bt e z) (hy:∀ z∈y,Bt f z) (j:e+f+7<=8796093022208) :
  Ans tab (.fn pF [a,b]) H fun v H'=>IntV H' v (Lin.dot x y)/\Kp H H':=by
 refine bC C.q110 zU fun T hl d g=>?_;refine zW (aB hl d g) ?_;refine AnsH.use (pd C zF (ha.mono (zG H)) (hb.mono (zG H)) l i hx hy j) ?_;rintro v H2 ⟨r,rfl,⟨w,rfl,hr⟩,c⟩;obtain ⟨k2,_,p⟩:=zT H zK c;have o:=hr.one;have n:H.next+10<=H2.next:=c.le
 have d2:=c.get (b:=H.next) (e:=.cells [.bool false,.nilSl] ad true) (da);have h:H2.get (H.next+7)=none:=c.free (show _<H.next+10 by omega) (by rw [al zO]; exact k.fresh (b:=H.next+7) zO);have m2:NoTy [ae] H2 H.next:=NoTy.ty d2 zU
 have m:NoTy [ae] H2 (H.next+7):=NoTy.none h;refine zW (aV hl d g d2) ?_;exact ⟨⟨w,rfl,SlV.monoT (E:=bY cB) zS hr⟩,zK⟩
def xo (C:Code tab) (e:Wf H) {a:AV} {z:Int} (ha:IntV H a z) (d:eR z):Ans tab (.fn ky [a]) H fun v H'=>v=.int .i64 (gw z)/\Kp H H':=by
 obtain ⟨p,rfl,hp⟩:=ha;have op:=hp.one;refine dg C.q111 zU fun T hl b=>?_;refine zW (aA hl b) ?_;refine AnsH.eq (l9 C zF ⟨p,rfl,hp.mono (zG H)⟩ d) fun H2 c=>?_;obtain ⟨k2,_,_⟩:=zT H zK c;refine zW (aA hl b) ?_;exact zK
def AN (C:Code tab) (g:Wf H) {a:AV} {z:Int} (ha:IntV H a z) (h:eR z):Ans tab (.fn pD [a]) H fun v H'=>IntV H' v (-z)/\Kp H H':=by
 obtain ⟨p,rfl,hp⟩:=ha;have op:=hp.one;refine dg C.q114 zU fun T hl d=>?_;refine zW (aA hl d) ?_;refine AnsH.use (BW C zF ⟨p,rfl,hp.mono (zG H)⟩ h) ?_;rintro v H2 ⟨r,rfl,⟨w,rfl,hr⟩,c⟩;obtain ⟨k2,_,l⟩:=zT H zK c;have k:=hr.one;have j:H.next+10<=H2.next:=c.le
 have d2:=c.get (b:=H.next+1) (e:=.cells [.bool false,.nilSl] ad true) (da);have f:H2.get (H.next+7)=none:=c.free (show _<H.next+10 by omega) (by rw [al zO,al zO]; exact g.fresh (b:=H.next+7) zO);have m2:NoTy [ae] H2 (H.next+1):=NoTy.ty d2 zU;have i:NoTy [ae] H2 (H.next+7):=NoTy.none f;refine zW (aB hl d d2) ?_;exact ⟨⟨w,rfl,SlV.monoT (E:=bY cB) zS hr⟩,zK⟩
def FX (C:Code tab) (J:Wf H) {vm w a b:AV} {m n:Int} {x y:List Int} {e f g h:Nat} (hm:IntV H vm m) (hn:IntV H w n) (ha:RowV H a x) (hb:RowV H b y) (u:x.length=y.length) (q:x.length<=64) (l:Bt g m) (o:Bt h n) (hx:∀ z∈x,Bt e z) (hy:∀ z∈y,Bt f z) (I:g+e+h+f+1<=8796093022208) :
  Ans tab (.fn pE [vm,a,w,b]) H fun v H'=>RowV H' v (Lin.prime (Lin.mix m x n y))/\Kp H H':=by
 obtain ⟨F,rfl,s⟩:=hm;obtain ⟨G,rfl,t⟩:=hn;have L:=s.one;have on:=t.one;refine Qw C.q115 zU fun T hl d i j k=>?_;refine zW (cp hl d i j k) ?_;refine AnsH.use (II C zF ⟨F,rfl,s.mono (zG H)⟩ ⟨G,rfl,t.mono (zG H)⟩ (ha.mono (zG H)) (hb.mono (zG H)) u q (l.len zO) (o.len zO) (fun z c=>⟨(hx z c).len zO,(l.mul (hx z c)).sm zO⟩) (fun z c=>⟨(hy z c).len zO,(o.mul (hy z c)).sm zO⟩)) ?_;rintro v H2 ⟨r,rfl,hr,A⟩;obtain ⟨k2,_,N⟩:=zT H zK A;refine zW (cp hl d i j k) ?_;refine AnsH.use (wh C zF (hr.mono (zG H2)) (by rw [Lin.mix_length rfl u.symm]; exact q) fun z c=>(HF l o hx hy z c).sm zO) ?_;rintro v3 p ⟨M,rfl,D,B⟩;have E:Kp H p:=Kp.trans k2 (Kp.trans zK B);have K:=E.le;refine zW (cp hl d i j k) ?_;exact ⟨D.mono (Sub.bump p _),zK⟩
abbrev Bu (H0 H:Heap) (v:AV) (l:List Int):Prop:=Bl (bY (HP .i64)) gq H0 H v l
def KH (C:Code tab) (hw:Wf H) {a:AV} {x:List Int} {l:List (List Int)} {d e f:Nat} (ha:RowV H a x) (hs:dS H s l) (ad:l.length<=1024) (af:0<d) (hd:d<=64) (hx:x.length=d) (Q:∀ r∈l,r.length=d) (S:∀ z∈x,Bt e z) (L:∀ r∈l,∀ z∈r,Bt f z) (hb:e+f+7<=8796093022208) :
  Ans tab (.fn qQ [a,s]) H fun v H'=>∃ q,v=.tup [q,.int .i64 0]/\Bu H H' q (l.map fun r=>gw (Lin.dot x r))/\Kp H H':=by
 have oa:=ha.one;refine BM C.q128 rfl rfl zU fun T hl g=>?_;have hl:T.length=55:=hl;have ay:c_sat_Signs.results=[(4,none),(5,none)]:=rfl;have J:aa T 0=a:=g 0 (by simp);have K:aa T 1=s:=g 1 (by simp);refine bi ?_;refine zW (aV hl J K @aC) ?_;refine dy (fun T' H'=>aa T' 5=.int .i64 0/\Kp H H') rfl ?_ ?_
 ·refine zW (aB hl J K) ?_;refine AnsH.eq (j8 C (ty:=0) zF (hs.mono (zG H)) ad ⟨af,hd,Q,fun r hr z U=>(L r hr z U).sm zO⟩) fun H2 O=>?_;obtain ⟨k2,_,_⟩:=zT H zK O;refine zW (aA hl @aU) ?_;exact zK
 rintro T1 H1 F ⟨t5,k1⟩;have w1:=k1.wf;have t0:aa T1 0=a:=(F.at_ 0 zU).trans (zV (aA hl J));have t1:aa T1 1=s:=(F.at_ 1 zU).trans (zV (aA hl K));have t4:aa T1 4=.nilSl:=(F.at_ 4 zU).trans (zV hl);have B:T1.length=55:=F.len.trans (by simp only [Vg]; exact hl);refine dy (fun T' H'=>aa T' 4=.nilSl/\aa T' 5=.int .i64 0/\Kp H H') rfl ?_ ?_
 ·refine zW (aB B t0 t1) ?_;refine AnsH.eq (ux C zF (ha.mono (zG H)) zO fun z U=>(S z U).sm zO) fun H2 O=>?_;obtain ⟨k2,_,_⟩:=zT H zK O;rcases Xw l.length with h0 | h0
  ·have ap:lenV s=some (.int .i64 0):=by rw [hs.lenV,h0]; rfl
   refine zW (gS B t0 t1 ap t4 t5 @aU) ?_;exact zK
  ·obtain ⟨w0,ax,ao⟩:=dD (hs.mono k2.sub) h0;have ai:cL 1 s (.int .i64 0)=some (aq s 0):=SlV.idx1 hs .i64 0 h0;have l0:lenV w0=some (.int .i64 (d:Int)):=by rw [ax.lenV,Q _ (Vm h0)]
   have la:lenV a=some (.int .i64 (d:Int)):=by rw [ha.lenV,hx]
   have av:(0:Int)<(l.length:Int):=zO;refine zW (Mm B t0 t1 hs.lenV av h0 ai ao l0 la t4 t5 @aU) ?_;exact zK
 rintro T2 H2 R ⟨aG,aI,k2⟩;have w2:=k2.wf;have Y:aa T2 0=a:=(R.at_ 0 zU).trans t0;have aE:aa T2 1=s:=(R.at_ 1 zU).trans t1;have c:T2.length=55:=R.len.trans B;refine WC.wb ?_;refine zW (aV c Y aE hs.lenV) ?_;refine am H [4] (fun j vs H'=>∃ o,vs=[o]/\Bu H H' o ((l.take j).map fun r=>gw (Lin.dot x r))) (a:=0) (N:=l.length) rfl (by refine zW c ?_; rfl) (zV c) (Vz _) zO (by simp only [Vg,c]; rfl) rfl (fun j vs H' m ⟨o,h1,h2⟩=>⟨o,h1,h2.mono (Sub.bump H' m)⟩) zK ⟨.nilSl,by exact zV (aA c aG),Bl.nil⟩ ?_ ?_
 ·rintro j A i _ hj t ag G u ⟨o,y,D⟩;have w3:=u.wf;have aM:=u.le;simp only [Vq,Vw,Vv,and_true] at y;have aF:aa A 33=s:=(G.at_ 33 zU).trans (zV c);have aD:aa A 0=a:=(G.at_ 0 zU).trans (zV (aA c Y));obtain ⟨w,hr,al⟩:=dD (hs.mono u.sub) hj;have ah:=SlV.idx1 hs .i64 j hj;have M:=Vm hj;have aL:=Q _ M;simp only [Vg,c] at t;refine zW (eF t aF aD ag ah al) ?_;refine AnsH.use (pd C zF (ha.mono (zG H)) (hr.mono (zG i)) zO zO S (L _ M) hb) ?_;rintro v I ⟨r,rfl,⟨w4,rfl,V⟩,P⟩;obtain ⟨az,_,_⟩:=zT i zK P;have aO:=az.wf;have n4:i.next+12<=I.next:=P.le
  have f4:I.get (i.next+9)=none:=P.free (show _<i.next+12 by omega) (w3.fresh (b:=i.next+9) zO);have ow:=V.one;have m9:NoTy [ae] I (i.next+9):=NoTy.none f4;refine zW (aA t y) ?_;refine AnsH.eq (l9 C (x:=Lin.dot x l[j]) zF ⟨w4,rfl,SlV.monoT (E:=bY cB) zS V⟩ ((ol S (L _ M) zO zO).sm hb)) fun p ak=>?_;obtain ⟨W,_,_⟩:=zT i zK ak;have X:Kp H p:=u.trans W;have aN:=X.le;have ar:=D.mono W.sub;have aK:((l.take j).map fun r=>gw (Lin.dot x r)).length=j:=by simp; omega
  obtain ⟨n,Z,e1,h2,k6,n6,-⟩:=Bl.push (ty2:=gq) (bytes:=8) (id:=p.next+3) (id2:=p.next+2) (k:=5) (cs:=[.int .i64 (gw (Lin.dot x l[j]))]) (a:=gw (Lin.dot x l[j])) ar (fun h=>by cases h) X ⟨_,rfl,rfl⟩ zO zO zO zO zO zO zO;have ab:dr ((p.up 5).put (p.next+2) (.cells [.int .i64 (gw (Lin.dot x l[j]))] gq true)) (p.next+3) 1 8 gq o (.own (p.next+2) 0 1 1 1 true)=some (.own (p.next+3) 0 n n 1 false,Z):=e1;refine zW (aB t y ab) ?_;refine ⟨k6,_,rfl,?_⟩;rw [Vr hj,V7];exact h2
 ·rintro A i t G u ⟨o,y,D⟩;simp only [Vq,Vw,Vv,and_true] at y;have aJ:aa A 5=.int .i64 0:=(G.at_ 5 zU).trans (zV (aA c aI));simp only [Vg,c] at t;rw [VO] at D;refine zW (aV t y aJ ay) ?_;exact ⟨o,rfl,D,u⟩
end
section
variable {tab:Nat->Option au} {base i k:Nat} {T0:Tm} {dst:Option Nat} {op:AOp} {us:List (Nat × Option Nat)} {adds:List Nat} {ds:List jv} {Vs:List AV} {Cs:List Heap} {Es:List (Option Ent)} {Q:DS->Prop}
def jZ {t:Nat} {w:Bool}:WD tab base T0 i (⟨dst,op,some (t,w),us,2,[(k,adds)]⟩ :: ds) ⟨Vs,Cs,Es⟩ Q =
  mI (aa (cw T0 Vs us) t) w (lJ tab (Src.ev (cw T0 Vs us)) (dH base Es (Cs.getD k default) adds) (base+i) op fun v H'=>WD tab base T0 (i+1) ds ⟨Vs++[v],Cs++[H'],Es++[none]⟩ Q) (WD tab base T0 (i+1) ds ⟨Vs++[.tup []],Cs++[dH base Es (Cs.getD k default) adds],Es++[none]⟩ Q) () ():=by
 rw [CU];have a:cg (cw T0 Vs us) (some (t,w))=match aa (cw T0 Vs us) t with | .bool b=>some (b == w) | .tup []=>some false | _=>none:=by
  generalize cw T0 Vs us=T
  unfold aa;rw [Vh];cases h:T[t]? with
  | none=>simp only [cg,h]; rfl
  | some v =>
   simp only [cg,h,WX];cases v with
   | tup vs=>cases vs <;> rfl
   | _=>rfl
 conv=>lhs; unfold wd
 simp only [a,mI];cases aa (cw T0 Vs us) t with
 | bool b=>cases b <;> cases w <;> rfl
 | tup vs=>cases vs <;> rfl
 | _=>rfl
end
def zX {F P Q:Prop} (f:F) (q:Q) (h:F->Q->P:=by intro h q; simp -dsimp (maxSteps:=1000000) (disch:=(first | omega | assumption | exact aH _ | exact aT _ _ | exact bf | exact bS _ _ _ | exact bk _ _ | exact bj _ _ _ _ _ _ | exact bX _ _ | exact bp _)) only [↓qh,qg,↓Pc,Pb,↓jZ,Nat.reduceLT,Nat.reduceEqDiff,Nat.reduceAdd,reduceIte,reduceCtorEq,Nat.reduceBEq,Int.reduceEq,Int.reduceLT,Int.reduceLE,Int.reduceAdd,Int.reduceSub,h]; exact q):P:=h f q
def Pd (a b:Nat):Nat:=(BitVec.ofNat 64 a &&& ~~~ BitVec.ofNat 64 b).toNat
def SM (a b:Nat):Pd a b<18446744073709551616:=(BitVec.ofNat 64 a &&& ~~~ BitVec.ofNat 64 b).isLt
def rY (a:Nat):BitVec.ofInt 64 (a:Int)=BitVec.ofNat 64 a:=by
 apply BitVec.eq_of_toNat_eq
 simp
def LX {a b:Nat} (ha:a<18446744073709551616) (hb:b<18446744073709551616):ca .and .int (.int .u64 (a:Int)) (.int .u64 (b:Int))=some (.int .u64 ((a &&& b:Nat):Int)):=by
 have e:(BitVec.ofInt 64 (a:Int) &&& BitVec.ofInt 64 (b:Int)).toNat=a &&& b:=by
  rw [rY,rY,BitVec.toNat_and,BitVec.toNat_ofNat,BitVec.toNat_ofNat,Wd zO,Wd zO]
 have hlt:a &&& b<=a:=Nat.and_le_left;show some (AV.int .u64 (IntKind.u64.wrap ((BitVec.ofInt 64 (a:Int) &&& BitVec.ofInt 64 (b:Int)).toNat:Nat)))=_;rw [e,gy zO zO]
def Ee (a b:Nat):ca .andNot .int (.int .u64 (a:Int)) (.int .u64 (b:Int))=some (.int .u64 ((Pd a b:Nat):Int)):=by
 have hlt:=SM a b;show some (AV.int .u64 (IntKind.u64.wrap ((BitVec.ofInt 64 (a:Int) &&& ~~~ BitVec.ofInt 64 (b:Int)).toNat:Nat)))=_;rw [rY,rY];show some (AV.int .u64 (IntKind.u64.wrap ((Pd a b:Nat):Int)))=_;rw [gy zO zO]
def OX {a b:Nat}:Pd a b=0 ↔ ∀ j,j<64->a.testBit j=true->b.testBit j=true:=by
 unfold Pd;constructor
 ·intro h j hj ha;have h1:(BitVec.ofNat 64 a &&& ~~~ BitVec.ofNat 64 b).getLsbD j=false:=by
   rw [<- BitVec.testBit_toNat,h]; simp
  rw [BitVec.getLsbD_and,BitVec.getLsbD_not,BitVec.getLsbD_ofNat,BitVec.getLsbD_ofNat,decide_eq_true hj] at h1
  simpa [ha] using h1
 ·intro h;have h1:(BitVec.ofNat 64 a &&& ~~~ BitVec.ofNat 64 b)=0#64:=by
   apply BitVec.eq_of_getLsbD_eq
   intro j hj
   have:=h j hj
   rw [BitVec.getLsbD_and,BitVec.getLsbD_not,BitVec.getLsbD_ofNat,BitVec.getLsbD_ofNat,decide_eq_true hj];cases ha:a.testBit j with
   | false=>simp
   | true=>simp [this ha]
  rw [h1]; rfl
structure MaskUp (bs:List Bool) (k:Nat) (W:List Nat):Prop where
 len:W.length=bs.length / 64+1
 lt:∀ i,W.getD i 0<18446744073709551616
 bit:∀ i j,j<64->(W.getD i 0).testBit j=(decide (64*i+j<k) && bs.getD (64*i+j) false)
abbrev pR (bs:List Bool) (W:List Nat):Prop:=MaskUp bs bs.length W
def MaskUp.zero (bs:List Bool):MaskUp bs 0 (List.replicate (bs.length / 64+1) 0):=by
 have h0:∀ i,(List.replicate (bs.length / 64+1) 0).getD i 0=0:=fun i=>by
  rw [Vh,Wj]; split <;> rfl
 exact ⟨by simp,fun i=>by rw [h0]; decide,fun i j _=>by rw [h0]; simp⟩
def MaskUp.skip {bs:List Bool} {k:Nat} {W:List Nat} (h:MaskUp bs k W) (hb:bs.getD k false=false):MaskUp bs (k+1) W:=by
 refine ⟨h.len,h.lt,fun i j hj=>?_⟩;rw [h.bit i j hj];by_cases e:64*i+j=k
 ·rw [e,hb]; simp
 ·congr 2;simp only [eq_iff_iff];omega
def MaskUp.mark {bs:List Bool} {k:Nat} {W:List Nat} (h:MaskUp bs k W) (b:k<bs.length) (hb:bs.getD k false=true):MaskUp bs (k+1) (W.set (k / 64) (W.getD (k / 64) 0 ||| 2^(k % 64))):=by
 have hi:k / 64<W.length:=by rw [h.len]; have:=Zg (c:=64) (Xe b); omega
 have hp:(2:Nat)^(k % 64)<2^64:=YB zU (Wm _ zU);have hg:∀ i,(W.set (k / 64) (W.getD (k / 64) 0 ||| 2^(k % 64))).getD i 0=if i=k / 64 then W.getD (k / 64) 0 ||| 2^(k % 64) else W.getD i 0:=fun i=>by
  rw [Vh,XF];by_cases e:k / 64=i
  ·subst e; rw [if_pos rfl,if_pos hi,if_pos rfl]; rfl
  ·rw [if_neg e,if_neg (fun e'=>e e'.symm),<- Vh]
 refine ⟨by rw [Vg]; exact h.len,fun i=>?_,fun i j hj=>?_⟩
 ·rw [hg];split
  ·have:=h.lt (k / 64)
   have h2:W.getD (k / 64) 0 ||| 2^(k % 64)<2^64:=ZN zO hp
   omega
  ·exact h.lt i
 ·rw [hg];by_cases a:i=k / 64
  ·rw [if_pos a,Nat.testBit_or,<- a,h.bit i j hj,Nat.testBit_two_pow];by_cases e:64*i+j=k
   ·have e2:k % 64=j:=zO;rw [e,hb,e2]; simp
   ·have e2:¬ k % 64=j:=zO;rw [decide_eq_false e2,ZV];congr 2;simp only [eq_iff_iff];omega
  ·rw [if_neg a,h.bit i j hj];have e:64*i+j≠k:=zO;congr 2;simp only [eq_iff_iff];omega
def DR (bt a bb:List Bool):Bool:=(List.range bt.length).all fun k=>!(a.getD k false && bb.getD k false) || bt.getD k false
def FB {bt a bb:List Bool} {T A B:List Nat} (e:pR bt T) (ha:pR a A) (hb:pR bb B) (h1:a.length=bt.length) (h2:bb.length=bt.length) :
  DR bt a bb=true ↔ ∀ i,i<T.length->Pd (A.getD i 0 &&& B.getD i 0) (T.getD i 0)=0:=by
 have key:∀ i,Pd (A.getD i 0 &&& B.getD i 0) (T.getD i 0)=0 ↔ ∀ j,j<64->64*i+j<bt.length->a.getD (64*i+j) false=true->bb.getD (64*i+j) false=true->bt.getD (64*i+j) false=true:=fun i=>by
  rw [OX];constructor
  ·intro h j hj hlt p q
   have:=h j hj (by rw [Nat.testBit_and,ha.bit i j hj,hb.bit i j hj,p,q,decide_eq_true zO,decide_eq_true zO]; rfl)
   rw [e.bit i j hj,VU] at this;exact this.2
  ·intro h j hj b;rw [Nat.testBit_and,ha.bit i j hj,hb.bit i j hj] at b;simp only [VU,decide_eq_true_eq] at b;rw [e.bit i j hj,VU,decide_eq_true_eq];exact ⟨zO,h j hj zO b.1.2 b.2.2⟩
 unfold DR;rw [VJ];constructor
 ·intro h i _;rw [key];intro j _ hlt p q
  have:=h (64*i+j) (by simpa using hlt)
  rw [p,q] at this
  simpa using this
 ·intro h k d;have d:k<bt.length:=by simpa using d
  have hlt:k / 64<T.length:=by rw [e.len]; have:=Zg (c:=64) (Xe d); omega
  have hm:=(key (k / 64)).1 (h _ hlt) (k % 64) (Wm _ zU);rw [WI] at hm;cases p:a.getD k false with
  | false=>simp
  | true =>
   cases q:bb.getD k false with
   | false=>simp
   | true=>simpa using hm d p q
section
variable {tab:Nat->Option au} {H:Heap} {s:AV}
def OD (C:Code tab) (L:Wf H) {u va t:AV} {bt m bb:List Bool} {c A d:List Nat} (q:Lb H u c) (ha:Lb H va A) (hb:Lb H t d) (s:pR bt c) (o:pR m A) (mb:pR bb d) (h1:m.length=bt.length) (h2:bb.length=bt.length) (J:bt.length<1099511627776) :
  Ans tab (.fn tP [u,va,t]) H fun v H'=>v=.bool (DR bt m bb)/\Kp H H':=by
 refine mN C.q129 zU fun T hl f g k=>?_;have hlt:=s.len;have B:=o.len;have D:=mb.len;rw [h1] at B;rw [h2] at D;have K:bt.length / 64<=bt.length:=XY _ _;refine zW (cp hl f g k q.lenV) ?_;refine am H [] (fun j _ _=>∀ i,i<j->Pd (A.getD i 0 &&& d.getD i 0) (c.getD i 0)=0) (a:=0) (N:=c.length) rfl (by refine zW (aV hl f g k) ?_; rfl) (zV (aV hl f g k)) (Vz _) zO (by simp only [Vg,hl]; rfl) rfl (fun _ _ _ _ h=>h) zK (fun i h=>by omega) ?_ ?_
 ·intro j T1 x _ hj b w n l p;have w1:=l.wf;have M:=l.le;have t9:aa T1 9=u:=(n.at_ 9 zU).trans (zV (aV hl f g k));have t1:aa T1 1=va:=(n.at_ 1 zU).trans (zV (aV hl f g k));have G:aa T1 2=t:=(n.at_ 2 zU).trans (zV (aV hl f g k));have I:=SlV.idx1 q .i64 j hj;have x1:=SlV.idx1 ha .i64 j zO;have x2:=SlV.idx1 hb .i64 j zO;have d0:=fI (q.mono l.sub) hj;have d1:=fI (ha.mono l.sub) (i:=j) zO;have d2:=fI (hb.mono l.sub) (i:=j) zO;have F:=o.lt j;have lb:=mb.lt j;have y:=LX F lb;have z:=Ee (A.getD j 0 &&& d.getD j 0) (c.getD j 0);simp only [Vg,hl] at b;refine zW (cp b t9 w I d0) ?_;refine aM ?_;refine zD (sG b t9 t1 G w x1 x2 d1 d2 y z) ?_;refine iteH.split (fun E=>?_) fun E=>?_
  ·have r:¬ Pd (A.getD j 0 &&& d.getD j 0) (c.getD j 0)=0:=zO;simp only [iN,jM,iM,lS,Xv,Xy,sC,pQ,ZE,ZP,XZ,W5];refine zW b ?_;refine ⟨?_,zK⟩;cases hh:DR bt m bb with
   | false=>rfl
   | true=>exact absurd ((FB s o mb h1 h2).1 hh j hj) r
  ·have r:Pd (A.getD j 0 &&& d.getD j 0) (c.getD j 0)=0:=zO;simp only [iN,jM,iM,lS,Xv,Xy,sC,pQ,ZE,ZP,XZ,W5];refine zW b ?_;refine ⟨zK,fun i hi=>?_⟩;by_cases e:i=j
   ·subst e; exact r
   ·exact p i zO
 ·intro T1 x b n l p;simp only [Vg,hl] at b;refine zW b ?_;exact ⟨by rw [(FB s o mb h1 h2).2 p],zK⟩
end
def QY {k:Nat} (a:k<4611686018427387904):ca .quo .int (.int .i64 (k:Int)) (.int .i64 64)=some (.int .i64 ((k / 64:Nat):Int)):=ND (c:=64) zO a
def Td (k:Nat):ca .rem .int (.int .i64 (k:Int)) (.int .i64 64)=some (.int .i64 ((k % 64:Nat):Int)):=NB (c:=64) zO
def zeros (r:List Int) (D:List (List Int)):List Bool:=D.map fun b=>decide (Lin.dot r b=0)
def wg (r:List Int) (D:List (List Int)):(zeros r D).length=D.length:=by simp [zeros]
def fP (x:Int):gw x=0 ↔ x=0:=by unfold gw; split <;> (try split) <;> omega
section
variable {tab:Nat->Option au} {H:Heap} {s:AV}
def LL (C:Code tab) (hw:Wf H) {ub:Nat} {ql qr qd vr:AV} {r:List Int} {D:List (List Int)} {d e f:Nat} (L:H.get ub=some (.cells [ql,qr,qd] aP true)) (J:dS H qd D) (hr:RowV H vr r) (M:D.length<=1024) (Q:0<d) (hd:d<=64) (ah:r.length=d) (P:∀ x∈D,x.length=d) (ag:∀ z∈r,Bt e z) (O:∀ x∈D,∀ z∈x,Bt f z) (hb:e+f+7<=8796093022208) :
  Ans tab (.fn fc [.ptr ub 0,vr]) H fun v H'=>∃ W,Lb H' v W/\pR (zeros r D) W/\Kp H H':=by
 refine bC C.q112 zU fun T hl i l=>?_;have ar:=hw _ _ L;have Y:=QY (k:=D.length) zO;have ap:D.length / 64<=D.length:=XY _ _;have e1:IntKind.i64.wrap (((D.length / 64:Nat):Int)+1)=((D.length / 64+1:Nat):Int):=by rw [wrap_i64] <;> omega
 have V:∀ H':Heap,I8 H' (H.next+8) ae 1 8 [.int .u64 0] (.int .i64 ((D.length / 64+1:Nat):Int)) (.int .i64 ((D.length / 64+1:Nat):Int))=some (.own (H.next+8) 0 (D.length / 64+1) (D.length / 64+1) 1 true,H'.put (H.next+8) (.cells ((List.replicate (D.length / 64+1) [AV.int .u64 0]).flatten) ae true)):=fun H'=>jd _ _ _ _ _ _ _ _ _ zO zO rfl;refine zW (jY hl i l L J.lenV Y e1 V) ?_;refine AnsH.use (KH C zF (hr.mono (zG H)) (J.mono (zG H)) M Q hd ah P ag O hb) ?_;rintro v H2 ⟨q,rfl,ab,F⟩;obtain ⟨k2,_,w2⟩:=zT H zK F;have b0:=F.get (b:=H.next+8) (e:=.cells (aL (List.replicate (D.length / 64+1) 0)) ae true) (da);have K:=ab.sl;have s:=wg r D;refine zW (cp hl i l K.lenV @List.length_map.{0,0}) ?_;have ad:SlV (bY (HP .i64)) gq H2 q (D.map fun b=>gw (Lin.dot r b)):=K;refine am H [] (fun j _ H'=>∃ W,H'.get (H.next+8)=some (.cells (aL W) ae true)/\MaskUp (zeros r D) j W/\SlV (bY (HP .i64)) gq H' q (D.map fun b=>gw (Lin.dot r b))) (a:=0) (N:=D.length) rfl (by refine zW (aB hl i l) ?_; rfl) (zV (aB hl i l)) (Vz _) zO (by simp only [Vg,hl]; rfl) rfl (fun j vs H' m ⟨W,h1,h2,h3⟩=>⟨W,h1,h2,h3.mono (Sub.bump H' m)⟩) zK ⟨_,by exact b0,by rw [<- s]; exact MaskUp.zero _,ad.mono (Sub.bump H2 _)⟩ ?_ ?_
 ·rintro j T1 t _ hj n B w o ⟨W,hW,g,p⟩;have w1:=o.wf;have al:=o.le;have aq:=w1 _ _ hW;have ao:aa T1 27=q:=(w.at_ 27 zU).trans (zV (aB hl i l));have t5:aa T1 5=.own (H.next+8) 0 (D.length / 64+1) (D.length / 64+1) 1 true:=(w.at_ 5 zU).trans (zV (aB hl i l));have ak:(D.map fun b=>gw (Lin.dot r b))[j]? = some (gw (Lin.dot r D[j])):=by simp [hj]
  obtain ⟨c,hc,G⟩:=SlV.at1 p ak;have hc:c=.int .i64 (gw (Lin.dot r D[j])):=hc;rw [hc] at G;have R:=SlV.idx1 p .i64 j (by simp; exact hj);have A:(zeros r D).getD j false=decide (Lin.dot r D[j]=0):=by simp [zeros,hj]
  have u:=g.len;rw [s] at u;have S:j / 64<D.length / 64+1:=by have:=Zg (c:=64) (Xe hj); omega
  have U:j / 64<W.length:=zO;have Z:=QY (k:=j) zO;have af:=Td j;have I:j % 64<64:=Wm _ zU;have ai:=Gg (r:=j % 64) I (k:=.i64);have hp:(2:Nat)^(j % 64)<2^64:=YB zU I;have X:=vT (g.lt (j / 64)) (b:=2^(j % 64)) zO;simp only [Vg,hl] at n;refine zW (cp n ao B R G) ?_;refine iteH.split (fun h=>?_) fun h=>?_
  ·have y:=(fP _).1 h;refine aM ?_;refine zD (ur n t5 B Z af ai X hW S U) ?_;have m8:NoTy [gq] t (H.next+8):=NoTy.ty hW zU;refine ⟨zK,_,rfl,g.mark (by rw [s]; exact hj) (by rw [A,decide_eq_true y]),SlV.monoT (E:=bY (HP .i64)) zS p⟩
  ·have y:¬ Lin.dot r D[j]=0:=fun e=>h ((fP _).2 e);refine zW n ?_;exact ⟨zK,W,hW,g.skip (by rw [A,decide_eq_false y]),p.mono (Sub.bump t _)⟩
 ·rintro T1 t n w o ⟨W,hW,g,p⟩;have w1:=o.wf;have al:=o.le;have t5:aa T1 5=.own (H.next+8) 0 (D.length / 64+1) (D.length / 64+1) 1 true:=(w.at_ 5 zU).trans (zV (aB hl i l));simp only [Vg,hl] at n;have u:=g.len;rw [s] at u;refine zW (aA n t5) ?_;rw [<- s] at g;exact ⟨W,(uR (H0:=H) hW zO u).sl.mono (Sub.bump t _),g,zK⟩
abbrev SP (H:Heap) (v:AV) (Ws:List (List Nat)):Prop:=yY (sO (bY cB) ae) eN H v Ws
def Ae (zs:List (List Bool)) (i k:Nat):Bool:=(List.range zs.length).all fun t=>t == i || t == k || !DR (zs.getD t []) (zs.getD i []) (zs.getD k [])
def LK (C:Code tab) (hw:Wf H) {vm:AV} {Ws:List (List Nat)} {zs:List (List Bool)} {n i k:Nat} (hm:SP H vm Ws) (ae:Ws.length=zs.length) (J:∀ t (h:t<zs.length) (h':t<Ws.length),pR zs[t] Ws[t]) (hn:∀ z∈zs,z.length=n) (ab:n<1099511627776) (ad:zs.length<1099511627776) (hi:i<zs.length) (B:k<zs.length) :
  Ans tab (.fn nj [vm,.int .i64 (i:Int),.int .i64 (k:Int)]) H fun v H'=>v=.bool (Ae zs i k)/\Kp H H':=by
 refine mN C.q113 zU fun T hl d f g=>?_;refine zW (cp hl d f g hm.lenV) ?_;refine am H [] (fun j _ _=>∀ t,t<j->(t == i || t == k || !DR (zs.getD t []) (zs.getD i []) (zs.getD k []))=true) (a:=0) (N:=Ws.length) rfl (by refine zW (aV hl d f g) ?_; rfl) (zV (aV hl d f g)) (Vz _) zO (by simp only [Vg,hl]; rfl) rfl (fun _ _ _ _ h=>h) zK (fun i h=>by omega) ?_ ?_
 ·rintro j T1 c _ hj b l r q o;have w1:=q.wf;have af:=q.le;have t9:aa T1 9=vm:=(r.at_ 9 zU).trans (zV (aV hl d f g));have t0:aa T1 0=vm:=(r.at_ 0 zU).trans (zV (aV hl d f g));have t1:aa T1 1=.int .i64 (i:Int):=(r.at_ 1 zU).trans (zV (aV hl d f g));have s:aa T1 2=.int .i64 (k:Int):=(r.at_ 2 zU).trans (zV (aV hl d f g));have G:=hm.mono q.sub;have y:i<Ws.length:=zO;have D:k<Ws.length:=zO;have u:j<zs.length:=zO;obtain ⟨Y,L,V⟩:=SlV.at1 G (Vk hj);obtain ⟨X,K,E⟩:=SlV.at1 G (Vk y);obtain ⟨Z,M,F⟩:=SlV.at1 G (Vk D);have L:Lb c Y Ws[j]:=L;have K:Lb c X Ws[i]:=K;have M:Lb c Z Ws[k]:=M;have xj:=SlV.idx1 hm .i64 j hj;have O:=SlV.idx1 hm .i64 i y;have P:=SlV.idx1 hm .i64 k D;have R:zs.getD j []=zs[j]:=by simp [u]
  have Q:zs.getD i []=zs[i]:=by simp [hi]
  have S:zs.getD k []=zs[k]:=by simp [B]
  simp only [Vg,hl] at b;refine zW (cp b t9 l xj V) ?_;refine aM ?_;by_cases m:j=i
  ·subst m;refine zD (gS b t0 t1 s l @jZ @aQ) ?_;refine ⟨zK,fun t x=>?_⟩;by_cases e:t=j
   ·subst e; simp
   ·exact o t zO
  ·have w:¬ (j:Int)=(i:Int):=zO;by_cases p:j=k
   ·subst p;refine zD (lh b t0 t1 s l @jZ @aQ m w) ?_;refine ⟨zK,fun t x=>?_⟩;by_cases e:t=j
    ·subst e; simp
    ·exact o t zO
   ·have A:¬ (j:Int)=(k:Int):=zO;refine zD (Pl b t0 t1 s l @jZ @aQ m w p A O P E F) ?_;have lj:=hn _ (Vm u);have li:=hn _ (Vm hi);have lk:=hn _ (Vm B);refine AnsH.eq (OD C zF (L.mono (zG c)) (K.mono (zG c)) (M.mono (zG c)) (J j u hj) (J i hi y) (J k B D) zO zO zO) fun H2 U=>?_;obtain ⟨k2,_,_⟩:=zT c zK U;have W:Kp H H2:=q.trans k2;have ag:=W.le;cases hh:DR zs[j] zs[i] zs[k] with
    | true =>
     refine zD (Pl b t0 t1 s l @jZ @aQ m w p A O P E F) ?_;refine ⟨?_,zK⟩;cases I:Ae zs i k with
     | false=>rfl
     | true =>
      unfold Ae at I;rw [VJ] at I
      have:=I j (by simpa using u)
      rw [R,Q,S,hh] at this;simp [m,p] at this
    | false =>
     refine zD (Pl b t0 t1 s l @jZ @aQ m w p A O P E F) ?_;refine ⟨zK,fun t x=>?_⟩;by_cases e:t=j
     ·subst e; rw [R,Q,S,hh]; simp
     ·exact o t zO
 ·rintro T1 c b r q o;simp only [Vg,hl] at b;refine zW b ?_;refine ⟨?_,zK⟩
  have:Ae zs i k=true:=by
   unfold Ae;rw [VJ];intro t x;exact o t (by simp at x; omega)
  rw [this]
end
end Go.Proofs.YtkmepoeklibegaaGreat.Ev
