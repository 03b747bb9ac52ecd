/- A part. -/
import Derived.Test.YteaefaohjlmjdaaGreatA0
import Derived.Test.YteaefaohjlmjdaaGreatN22
set_option linter.all false
namespace Go.Proofs.YteaefaohjlmjdaaGreat.Lin
structure Under where
 lines:List V
 rays:List V
 done:List V
def unitV (d i:Nat):V:=(lJ d).set i 1
def startU (d:Nat):Under:=⟨(List.range d).map (unitV d),[],[]⟩
def upV (a u:V):V:=if dot a u<0 then scl (-1) u else u
def addU (a:V) (eq:Bool) (u:Under):Under :=
 match u.lines.findIdx? fun l=>!decide (dot a l=0) with
 | none=>⟨u.lines,cutL u.done a eq u.rays,u.done++if eq then [] else [a]⟩
 | some i=>⟨(u.lines.eraseIdx i).map (foldV a (upV a (u.lines.getD i []))),u.rays.map (foldV a (upV a (u.lines.getD i [])))++(if eq then [] else [upV a (u.lines.getD i [])]),u.done++if eq then [] else [a]⟩
def gensU (d:Nat) (b c:List V):Under:=c.foldl (fun u a=>addU a false u) (b.foldl (fun u a=>addU a true u) (startU d))
def cmpV:V->V->Bool
 | [],_=>true
 | _ :: _,[]=>false
 | a :: x,b :: y=>if a<b then true else if a=b then cmpV x y else false
def gensL (d:Nat) (a b:List V):List V:=formF (gensU d a b).lines
def gensR (d:Nat) (a b:List V):List V:=((gensU d a b).rays.map (restF (gensL d a b))).mergeSort cmpV
section
variable {d:Nat} {E:V->Prop}
def nQ {i j:Nat} (hi:i<d):at_ (unitV d i) j=if j=i then 1 else 0:=by
 unfold at_ unitV lJ;rw [iF,YX];by_cases h:i=j
 ·subst h; simp [hi]
 ·have h':¬ j=i:=fun e=>h e.symm;rw [if_neg h,if_neg h',XG];split <;> rfl
def oO:DD d (fun _=>False) (· ∈ ([]:List V)) (· ∈ (startU d).lines) (startU d).rays:=by
 refine ⟨fun l hl=>?_,fun l hl e he=>he.elim,fun l hl i hi=>(by cases hi),fun x hx _ _=>?_,fun r hr=>(by cases hr),fun x hx=>?_,fun r hr=>(by cases hr),fun r hr=>(by cases hr),List.Pairwise.nil⟩
 ·obtain ⟨i,-,rfl⟩:=nC.1 hl;simp [unitV,lJ]
 all_goals
  first
  | (have hx:=hx.len)
  | skip
 all_goals
  have hl:∀ l,l∈(startU d).lines->l.length=d:=fun l hl=>by
   obtain ⟨i,-,rfl⟩:=nC.1 hl;simp [unitV,lJ]
  have key:∀ n,n<=d->Spn d (· ∈ (startU d).lines) (x.take n++lJ (d-n)):=by
   intro n
   induction n with
   | zero=>intro _; simp; exact .zero
   | succ n f =>
    intro hn;have b:(x.take n++lJ (d-n)).length=d:=by simp [lJ,hx]; omega
    have c:(unitV d n).length=d:=by simp [unitV,lJ]
    have e:x.take (n+1)++lJ (d-(n+1))=mix 1 (x.take n++lJ (d-n)) (at_ x n) (unitV d n):=aM (by rw [mix_length b c]; simp [lJ,hx]; omega) fun i=>by
     rw [cg (b.trans c.symm),nQ zO];have g:∀ m,m<=d->at_ (x.take m++lJ (d-m)) i=if i<m then at_ x i else 0:=fun m hm=>by
      unfold at_;rw [iF,List.getElem?_append]
      have:(x.take m).length=m:=by simp [hx]; omega
      rw [this];by_cases hi:i<m
      ·rw [if_pos hi,if_pos hi,Gy,if_pos hi,iF]
      ·rw [if_neg hi,if_neg hi];unfold lJ;rw [XG];split <;> rfl
     rw [g (n+1) hn,g n zO];by_cases h1:i<n
     ·rw [if_pos zO,if_pos h1,if_neg zO]; grind
     ·by_cases h2:i=n
      ·subst h2; rw [if_pos zO,if_neg zO,if_pos rfl]; grind
      ·rw [if_neg zO,if_neg h1,if_neg h2]; grind
    rw [e];exact .line _ (f zO) (nC.2 ⟨n,XU.2 zO,rfl⟩)
  have a:=key d (o0 _);have e:x.take d++lJ (d-d)=x:=by rw [MU zO]; simp [lJ]
  rw [e] at a
 ·exact a
 ·exact a.mono (fun _ h=>h) (fun r h=>h.elim)
def JT {u:Under} {a:V} (h:DD d E (· ∈ u.done) (· ∈ u.lines) u.rays) (ha:a.length=d) (eq:Bool) :
  DD d (fun e=>E e\/(eq=true/\e=a)) (· ∈ (addU a eq u).done) (· ∈ (addU a eq u).lines) (addU a eq u).rays:=by
 unfold addU;split
 ·rename_i hn;refine TK h (fun x hx=>?_) eq
  have:=Y5.1 hn x hx
  simpa using this
 ·rename_i i hi;obtain ⟨c,g,-⟩:=XB.1 hi;have hl:u.lines.getD i []=u.lines[i]:=by simp [iF,c]
  rw [hl];have hm:u.lines[i]∈u.lines:=mQ c;have hne:dot a u.lines[i]≠0:=by simpa using g
  have k:=h.lenL _ hm;have hs:∃ s:Int,(s=1\/s = -1)/\upV a u.lines[i]=scl s u.lines[i]:=by
   unfold upV;split
   ·exact ⟨-1,.inr rfl,rfl⟩
   ·exact ⟨1,.inl rfl,(vP _).symm⟩
  obtain ⟨s,m,b⟩:=hs;have l:0<dot a (upV a u.lines[i]):=by
   unfold upV;split
   ·rw [dot_scl]; omega
   ·omega
  refine RE h ha (fun x hx=>?_) (fun x hx=>Rx hx) (by rw [b]; exact aj k) (fun e he=>?_) (fun j hj=>?_) l eq
  ·obtain ⟨j,hj⟩:=RB hx;by_cases f:j=i
   ·right
    subst f;rw [eA c] at hj;cases hj;refine ⟨s,?_⟩;rw [b];rcases m with rfl | rfl
    ·rw [vP,vP]
    ·exact aM (by simp [scl]) fun t=>by rw [aC,aC]; omega
   ·left
    exact ZB.2 ⟨j,f,hj⟩
  ·rw [b,dot_scl,h.lineE _ hm e he]; simp
  ·rw [b,dot_scl,h.lineI _ hm j hj]; simp
def DD.congr {E E' I a L L':V->Prop} {R:List V} (h:DD d E I L R) (e:∀ x,E x ↔ E' x) (f:∀ x,I x ↔ a x) (hL:∀ x,L x ↔ L' x):DD d E' a L' R:=by
 have b:E=E':=funext fun x=>propext (e x);have c:I=a:=funext fun x=>propext (f x);have e3:L=L':=funext fun x=>propext (hL x);subst b; subst c; subst e3; exact h
def AB:∀ (l:List V) (u:Under) (E:V->Prop),DD d E (· ∈ u.done) (· ∈ u.lines) u.rays->(∀ a∈l,a.length=d) ->
  DD d (fun e=>E e\/e∈l) (· ∈ (l.foldl (fun u a=>addU a true u) u).done) (· ∈ (l.foldl (fun u a=>addU a true u) u).lines) (l.foldl (fun u a=>addU a true u) u).rays/\(l.foldl (fun u a=>addU a true u) u).done=u.done
 | [],u,E,h,_=>⟨h.congr (fun x=>by simp) (fun x=>Z7) (fun x=>Z7),rfl⟩
 | a :: l,u,E,h,hl=>by
  obtain ⟨h1,h2⟩:=AB l (addU a true u) _ (JT h (hl a (Al ..)) true) fun b hb=>hl b (tZ _ hb);simp only [Yo];refine ⟨h1.congr (fun x=>?_) (fun x=>Z7) (fun x=>Z7),h2.trans ?_⟩
  ·rw [FC]; simp only [true_and]; exact or_assoc
  ·unfold addU; split <;> simp
def yH:∀ (l:List V) (u:Under),DD d E (· ∈ u.done) (· ∈ u.lines) u.rays->(∀ a∈l,a.length=d) ->
  DD d E (· ∈ (l.foldl (fun u a=>addU a false u) u).done) (· ∈ (l.foldl (fun u a=>addU a false u) u).lines) (l.foldl (fun u a=>addU a false u) u).rays/\(l.foldl (fun u a=>addU a false u) u).done=u.done++l
 | [],u,h,_=>⟨h,by simp⟩
 | a :: l,u,h,hl=>by
  obtain ⟨h1,h2⟩:=yH l (addU a false u) ((JT h (hl a (Al ..)) false).congr (fun x=>by simp) (fun x=>Z7) (fun x=>Z7)) fun b hb=>hl b (tZ _ hb);simp only [Yo];refine ⟨h1,h2.trans ?_⟩;unfold addU; split <;> simp
def gensU_dd {b c:List V} (h1:∀ a∈b,a.length=d) (h2:∀ a∈c,a.length=d):DD d (· ∈ b) (· ∈ c) (· ∈ (gensU d b c).lines) (gensU d b c).rays:=by
 obtain ⟨e,f⟩:=AB b (startU d) _ oO h1;obtain ⟨g,h⟩:=yH c _ e h2;refine g.congr (fun x=>by simp) (fun x=>?_) (fun x=>Z7);rw [h,f];simp [startU]
def DD.rep {I L L':V->Prop} {R:List V} (h:DD d E I L R) (o:∀ x,L' x->x.length=d) (hs:∀ x,Spn d L x ↔ Spn d L' x) (f:V->V) (p:∀ r∈R,(f r).length=d/\∃ m k:Int,0<m/\0<k/\Spn d L (mix m (f r) (-k) r)):DD d E I L' (R.map f):=by
 have v:∀ r∈R,∃ m k:Int,0<m/\0<k/\∀ b,(∀ l,L l->dot b l=0)->m*dot b (f r)=k*dot b r:=fun r hr=>by
  obtain ⟨hl,m,k,hm,g,q⟩:=p r hr;refine ⟨m,k,hm,g,fun b hb=>?_⟩
  have:=Con.dot_zero (a:=b) h.lenL (fun r h=>h.elim) hb (fun r h=>h.elim) q
  rw [aU _ _ _ (hl.trans (h.lenR r hr).symm),Int.neg_mul] at this;omega
 have hz:∀ r∈R,∀ b,(∀ l,L l->dot b l=0)->(dot b (f r)=0 ↔ dot b r=0):=fun r hr b hb=>by
  obtain ⟨m,k,hm,g,e⟩:=v r hr;have e:=e b hb;constructor
  ·intro h0;rw [h0] at e;rcases Jv.1 (show k*dot b r=0 by omega) with h1 | h1
   ·omega
   ·exact h1
  ·intro h0;rw [h0] at e;rcases Jv.1 (show m*dot b (f r)=0 by omega) with h1 | h1
   ·omega
   ·exact h1
 have j:∀ i,I i->∀ l,L l->dot i l=0:=fun i hi l hl=>h.lineI l hl i hi;have w:∀ e,E e->∀ l,L l->dot e l=0:=fun e he l hl=>h.lineE l hl e he;have z:∀ b,(∀ l,L l->dot b l=0)->∀ x,L' x->dot b x=0:=fun b hb x hx =>
  Con.dot_zero (a:=b) h.lenL (fun r h=>h.elim) hb (fun r h=>h.elim) ((hs x).2 (eC (o x hx) hx))
 have u:∀ x,x∈R.map f->x.length=d:=fun x hx=>by
  obtain ⟨r,hr,rfl⟩:=nC.1 hx;exact (p r hr).1
 refine ⟨o,fun l hl e he=>z e (w e he) l hl,fun l hl i hi=>z i (j i hi) l hl,fun x hx A B=>(hs x).1 (h.lines x hx A B),?_,?_,?_,?_,?_⟩
 ·intro x hx;obtain ⟨r,hr,rfl⟩:=nC.1 hx;refine ⟨(p r hr).1,fun e he=>(hz r hr e (w e he)).2 ((h.keep r hr).eq e he),fun i hi=>?_⟩;obtain ⟨m,k,hm,g,e⟩:=v r hr;have e:=e i (j i hi)
  have:=N5 (YF g) ((h.keep r hr).ge i hi)
  rw [<- e] at this;exact YH this hm
 ·intro x hx;refine Con.trans o u (fun l hl c=>((hs _).1 (Spn.smul h.lenL (eC (h.lenL l hl) hl) c)).mono (fun _ h=>h) (fun r h=>h.elim)) (fun r hr=>?_) h.lenL h.lenR (h.all x hx);obtain ⟨hl,m,k,hm,g,q⟩:=p r hr;refine .div k g (h.lenR r hr) ?_;have e:scl k r=mix 1 (scl m (f r)) 1 (scl (-1) (mix m (f r) (-k) r)):=aM (by rw [aj (h.lenR r hr),mix_length (aj hl) (aj (mix_length hl (h.lenR r hr)))]) fun i=>by
   rw [aC,cg ((aj hl).trans (aj (mix_length hl (h.lenR r hr))).symm),aC,aC,cg (hl.trans (h.lenR r hr).symm)]; grind
  rw [e];have t1:Con d L' (· ∈ R.map f) (scl m (f r)):=(Con.of_ray hl (Yy hr)).smul o u m zO;have J:Con d L' (· ∈ R.map f) (scl (-1) (mix m (f r) (-k) r)):=((hs _).1 (Spn.smul h.lenL q (-1))).mono (fun _ h=>h) (fun r h=>h.elim);exact J.add o u _ t1
 ·intro x hx;obtain ⟨r,hr,rfl⟩:=nC.1 hx;obtain ⟨i,hi,hn⟩:=h.off r hr;exact ⟨i,hi,fun e=>hn ((hz r hr i (j i hi)).1 e)⟩
 ·intro x hx y hy G;obtain ⟨r,hr,rfl⟩:=nC.1 hx;obtain ⟨k1,n,D,C,H⟩:=h.ext r hr y hy fun i hi e=>G i hi ((hz r hr i (j i hi)).2 e);obtain ⟨hl,m,k,hm,g,q⟩:=p r hr;refine ⟨k*k1,n*m,Yl g D,N5 C zO,(hs _).1 ?_⟩;have t:=Spn.sum2 h.lenL H q k (-n);have e:mix k (mix k1 y (-n) r) (-n) (mix m (f r) (-k) r)=mix (k*k1) y (-(n*m)) (f r):=aM (by rw [mix_length (mix_length hy.len (h.lenR r hr)) (mix_length hl (h.lenR r hr)),mix_length hy.len hl]) fun i=>by
   rw [cg ((mix_length hy.len (h.lenR r hr)).trans (mix_length hl (h.lenR r hr)).symm),cg (hy.len.trans (h.lenR r hr).symm),cg (hl.trans (h.lenR r hr).symm),cg (hy.len.trans hl.symm)]; grind
  rw [e] at t; exact t
 ·refine XM.2 (h.apart.imp_of_mem fun {r s} hr F hne h2=>hne fun i hi=>?_)
  have:=h2 i hi
  rw [hz r hr i (j i hi),hz s F i (j i hi)] at this;exact this
def DD.perm {I L:V->Prop} {R R':List V} (h:DD d E I L R) (hp:R.Perm R'):DD d E I L R':=by
 have hm:∀ x,x∈R' ↔ x∈R:=fun x=>hp.mem_iff.symm;refine ⟨h.lenL,h.lineE,h.lineI,h.lines,fun r hr=>h.keep r ((hm r).1 hr),fun x hx=>(h.all x hx).mono (fun _ h=>h) (fun r hr=>(hm r).2 hr),fun r hr=>h.off r ((hm r).1 hr),fun r hr=>h.ext r ((hm r).1 hr),?_⟩;exact (hp.pairwise_iff (fun {r s} hne h2=>hne fun i hi=>(h2 i hi).symm)).1 h.apart
def cmpV_refl:∀ x:V,cmpV x x=true
 | []=>rfl
 | a :: x=>by simp [cmpV,cmpV_refl x]
def cmpV_trans:∀ a b c:V,cmpV a b=true->cmpV b c=true->cmpV a c=true
 | [],_,_,_,_=>rfl
 | _ :: _,[],_,h,_=>by simp [cmpV] at h
 | _ :: _,_ :: _,[],_,h=>by simp [cmpV] at h
 | a :: x,b :: y,c :: z,h1,h2=>by
  have d:=cmpV_trans x y z;simp only [cmpV] at h1 h2 ⊢;split at h1
  ·split at h2
   ·rw [if_pos zO]
   ·split at h2
    ·rw [if_pos zO]
    ·cases h2
  ·split at h1
   ·split at h2
    ·rw [if_pos zO]
    ·split at h2
     ·rw [if_neg zO,if_pos zO]; exact d h1 h2
     ·cases h2
   ·cases h1
def cmpV_total:∀ a b:V,(cmpV a b || cmpV b a)=true
 | [],_=>by simp [cmpV]
 | _ :: _,[]=>by simp [cmpV]
 | a :: x,b :: y=>by
  have c:=cmpV_total x y;simp only [cmpV];by_cases h1:a<b
  ·simp [h1]
  ·by_cases h2:a=b
   ·subst h2; simpa using c
   ·have:b<a:=zO
    simp [this]
def cmpV_antisymm:∀ a b:V,cmpV a b=true->cmpV b a=true->a=b
 | [],[],_,_=>rfl
 | [],_ :: _,_,h=>by simp [cmpV] at h
 | _ :: _,[],h,_=>by simp [cmpV] at h
 | a :: x,b :: y,h1,h2=>by
  have c:=cmpV_antisymm x y;simp only [cmpV] at h1 h2;split at h1
  ·split at h2
   ·omega
   ·split at h2
    ·omega
    ·cases h2
  ·split at h1
   ·split at h2
    ·omega
    ·split at h2
     ·rename_i e _ _; rw [e,c h1 h2]
     ·cases h2
   ·cases h1
structure An (d:Nat) (E I:V->Prop) (L R:List V):Prop where
 dd:DD d E I (· ∈ L) R
 form:Ech d L
 rest:∀ r∈R,∀ l∈L,at_ r (pv l)=0
 cont:∀ r∈R,content r=1
 sorted:R.Pairwise fun r s=>cmpV r s=true
def gens_told {b c:List V} (h1:∀ a∈b,a.length=d) (h2:∀ a∈c,a.length=d):An d (· ∈ b) (· ∈ c) (gensL d b c) (gensR d b c):=by
 have h:=gensU_dd h1 h2;obtain ⟨f1,f⟩:=form_ech (d:=d) (l:=(gensU d b c).lines) h.lenL;have hr:∀ r∈(gensU d b c).rays,(restF (gensL d b c) r).length=d/\(∀ l∈gensL d b c,at_ (restF (gensL d b c) r) (pv l)=0)/\(∃ m k:Int,0<m/\0<k/\Spn d (· ∈ gensL d b c) (mix m (restF (gensL d b c) r) (-k) r))/\(content (restF (gensL d b c) r)=1\/∀ i,at_ (restF (gensL d b c) r) i=0):=fun r hr=>Gm f1 (h.lenR r hr);have hd:DD d (· ∈ b) (· ∈ c) (· ∈ gensL d b c) ((gensU d b c).rays.map (restF (gensL d b c))):=h.rep f1.len (fun x=>(f x).symm) _ fun r e=>by
  obtain ⟨g,o,⟨m,k,hm,n,j⟩,p⟩:=hr r e;exact ⟨g,m,k,hm,n,(f _).1 j⟩
 have hp:((gensU d b c).rays.map (restF (gensL d b c))).Perm (gensR d b c):=(List.mergeSort_perm _ _).symm;refine ⟨hd.perm hp,f1,fun r e l hl=>?_,fun r e=>?_,List.pairwise_mergeSort cmpV_trans cmpV_total _⟩
 ·obtain ⟨s,hs,rfl⟩:=nC.1 (hp.mem_iff.2 e);exact (hr s hs).2.1 l hl
 ·have hm:=hp.mem_iff.2 e;obtain ⟨s,hs,rfl⟩:=nC.1 hm;refine (hr s hs).2.2.2.resolve_right fun hz=>?_;obtain ⟨i,hi,hn⟩:=hd.off _ hm;refine hn ?_;rw [(JC (hr s hs).1).2 hz,kN]
def PK {L R:V->Prop} (hL:∀ x,L x->x.length=d) (a:∀ x,R x->x.length=d) {x:V} (h:Con d L R x):Spn d L x\/∃ r,R r/\∃ k c:Int,0<k/\0<c/\∃ y,Con d L R y/\scl k x=mix c r 1 y:=by
 induction h with
 | zero=>exact .inl .zero
 | @line x l c hx hl b =>
  have h1:=hx.length hL a;have h2:=hL l hl;rcases b with b | ⟨r,hr,k,f,m,g,y,hy,e⟩
  ·exact .inl (.line c b hl)
  ·refine .inr ⟨r,hr,k,f,m,g,_,.line (k*c) hy hl,aM (by rw [aj (mix_length h1 h2),mix_length (a r hr) (mix_length (hy.length hL a) h2)]) fun i=>?_⟩;have e3:k*at_ x i=f*at_ r i+1*at_ y i:=by rw [<- aC,e,cg ((a r hr).trans (hy.length hL a).symm)]
   rw [aC,cg (h1.trans h2.symm),cg ((a r hr).trans (mix_length (hy.length hL a) h2).symm),cg ((hy.length hL a).trans h2.symm)]; grind
 | @ray x l c hc hx hl b =>
  have h1:=hx.length hL a;have h2:=a l hl;by_cases n:c=0
  ·subst n;have e:mix 1 x 0 l=x:=aM (by rw [mix_length h1 h2,h1]) fun i=>by rw [cg (h1.trans h2.symm)]; grind
   rw [e]; exact b
  ·exact .inr ⟨l,hl,1,c,zO,zO,x,hx,aM (by rw [aj (mix_length h1 h2),mix_length h2 h1]) fun i=>by rw [aC,cg (h1.trans h2.symm),cg (h2.trans h1.symm)]; grind⟩
 | @div x j hj hl hx b =>
  rcases b with b | ⟨r,hr,k,f,m,g,y,hy,e⟩
  ·exact .inl (.div j hj hl b)
  ·refine .inr ⟨r,hr,k*j,f,Yl m hj,g,y,hy,?_⟩;rw [<- e];exact aM (by simp [scl]) fun i=>by rw [aC,aC,aC]; grind
def F4 {E' I o:V->Prop} {L R L' R':List V} (h:An d E I L R) (h':An d E' o L' R') (hs:∀ x,Keep d E I x ↔ Keep d E' o x) (hL:L=L'):∀ r∈R,r∈R':=by
 intro r hr;subst hL;have g:=h.dd.keep r hr;have z:∀ x,Keep d E I x->Spn d (· ∈ L) x->∀ i,I i->dot i x=0:=fun x _ hx i hi=>Con.dot_zero (a:=i) h.dd.lenL (fun r h=>h.elim) (fun l hl=>h.dd.lineI l hl i hi) (fun r h=>h.elim) hx;rcases PK h'.dd.lenL h'.dd.lenR (h'.dd.all r ((hs r).1 g)) with j | ⟨b,f,k,c,G,u,y,hy,e⟩
 ·exfalso
  obtain ⟨i,hi,hn⟩:=h.dd.off r hr;exact hn (z r g j i hi)
 ·have m:=h'.dd.lenR b f;have q:Keep d E I y:=(hs y).2 (h'.dd.con_keep hy);have p:Keep d E I b:=(hs b).2 (h'.dd.keep b f);obtain ⟨k1,s,w,D,j⟩:=h.dd.ext r hr b p fun i hi hz=>by
   have t:k*dot i r=c*dot i b+1*dot i y:=by rw [<- dot_scl,e,aU _ _ _ (m.trans q.len.symm)]
   rw [hz] at t;have B:=N5 (YF u) (p.ge i hi);have C:=q.ge i hi;rcases Jv.1 (show c*dot i b=0 by omega) with h1 | h1
   ·omega
   ·exact h1
  have F:s≠0:=fun e0=>by
   subst e0;obtain ⟨n,v,A⟩:=h'.dd.off b f
   have:=Con.dot_zero (a:=n) h'.dd.lenL (fun r h=>h.elim) (fun l hl=>h'.dd.lineI l hl n v) (fun r h=>h.elim) j
   rw [aU _ _ _ (m.trans g.len.symm)] at this;rcases Jv.1 (show k1*dot n b=0 by omega) with h1 | h1
   ·omega
   ·exact A h1
  have:b=r:=yT h.form m g.len (fun l hl=>h'.rest b f l hl) (fun l hl=>h.rest r hr l hl) (h'.cont b f) (h.cont r hr) w zO j
  rw [<- this]; exact f
def qY {E' I g:V->Prop} {L R L' R':List V} (h:An d E I L R) (h':An d E' g L' R') (hs:∀ x,Keep d E I x ↔ Keep d E' g x):L=L'/\R=R':=by
 have f:∀ {E I:V->Prop} {L R:List V},An d E I L R->∀ x,x.length=d->(Spn d (· ∈ L) x ↔ Keep d E I x/\Keep d E I (scl (-1) x)):=by
  intro E I L R h x hx;constructor
  ·intro m;have j:∀ e,E e->dot e x=0:=fun e he=>Con.dot_zero (a:=e) h.dd.lenL (fun r h=>h.elim) (fun l hl=>h.dd.lineE l hl e he) (fun r h=>h.elim) m;have k:∀ e,I e->dot e x=0:=fun e he=>Con.dot_zero (a:=e) h.dd.lenL (fun r h=>h.elim) (fun l hl=>h.dd.lineI l hl e he) (fun r h=>h.elim) m;exact ⟨⟨hx,j,fun i hi=>by rw [k i hi]; omega⟩,⟨aj hx,fun e he=>by rw [dot_scl,j e he]; simp,fun i hi=>by rw [dot_scl,k i hi]; simp⟩⟩
  ·rintro ⟨h1,h2⟩;refine h.dd.lines x hx h1.eq fun i hi=>?_;have p:=h1.ge i hi;have o:=h2.ge i hi;rw [dot_scl] at o;omega
 have hL:L=L':=h.form.unique h'.form fun x=>by
  constructor
  ·intro hx;have c:=hx.length h.dd.lenL (fun r h=>h.elim);rw [f h x c] at hx;rw [f h' x c,<- hs,<- hs]; exact hx
  ·intro hx;have c:=hx.length h'.dd.lenL (fun r h=>h.elim);rw [f h' x c] at hx;rw [f h x c,hs,hs]; exact hx
 refine ⟨hL,?_⟩;have s1:=F4 h h' hs hL;have s2:=F4 h' h (fun x=>(hs x).symm) hL.symm;have n:∀ {E I:V->Prop} {L R:List V},An d E I L R->R.Nodup:=fun h=>h.dd.apart.imp fun hne e=>hne fun i hi=>by rw [e]
 refine List.Perm.eq_of_pairwise (le:=fun a b=>cmpV a b=true) (fun a b _ _ h1 h2=>cmpV_antisymm a b h1 h2) h.sorted h'.sorted ((List.perm_ext_iff_of_nodup (n h) (n h')).2 fun x=>⟨s1 x,s2 x⟩)
end
def Bd (M:Nat) (x:V):Prop:=∀ i,(at_ x i).natAbs<=M
def Bd.mono {M N:Nat} (h:M<=N) {x:V} (hx:Bd M x):Bd N x:=fun i=>B5 (hx i) h
def Py {M N:Nat}:∀ {x y:V},(∀ a∈x,a.natAbs<=M)->(∀ b∈y,b.natAbs<=N)->(dot x y).natAbs<=x.length*(M*N)
 | [],y,_,_=>by cases y <;> simp [dot]
 | a :: x,[],_,_=>by simp [dot]
 | a :: x,b :: y,h1,h2=>by
  have d:=Py (x:=x) (y:=y) (fun c hc=>h1 c (tZ _ hc)) (fun c hc=>h2 c (tZ _ hc));have ha:=h1 a (Al ..);have hb:=h2 b (Al ..);simp only [dot,Sb];have g:=Zr (a*b) (dot x y);rw [Zz] at g
  have:=X0 ha hb
  rw [XN,ZC];omega
def Bd.mem {M:Nat} {x:V} (h:Bd M x):∀ a∈x,a.natAbs<=M:=fun a ha=>by
 obtain ⟨i,rfl⟩:=Jd ha;exact h i
def bd_dot {d M N:Nat} {x y:V} (hx:x.length=d) (h1:Bd M x) (h2:Bd N y):(dot x y).natAbs<=d*(M*N):=by
 have:=Py h1.mem h2.mem
 rw [hx] at this; exact this
def UU {d M b:Nat} {a u x:V} (ha:a.length=d) (g:u.length=d) (hx:x.length=d) (h1:Bd M a) (h2:Bd b u) (h3:Bd b x):Bd (2*d*M*b*b) (mv a u x):=by
 intro i;unfold mv;rw [cg (hx.trans g.symm)];have c:=bd_dot ha h1 h2;have f:=bd_dot ha h1 h3;have t:=Zr (dot a u*at_ x i) (-(dot a x)*at_ u i);rw [Zz,Zz,ZN] at t;have p1:=X0 c (h3 i);have p2:=X0 f (h2 i);have e:2*d*M*b*b=d*(M*b)*b+d*(M*b)*b:=by grind
 rw [e]; omega
def pi:List V->List V->List V
 | [],Ls=>Ls
 | a :: S,Ls=>match Ls.findIdx? fun l=>!decide (dot a l=0) with
  | none=>pi S Ls
  | some i=>pi S ((Ls.eraseIdx i).map (mv a (Ls.getD i [])))
def Fz {d M:Nat} (g:1<=2*d*M):∀ (S Ls:List V) (n b:Nat),Ls.length<=n->1<=b->(∀ a∈S,a.length=d/\Bd M a)->(∀ l∈Ls,l.length=d/\Bd b l)->∀ w∈pi S Ls,w.length=d/\Bd ((2*d*M*b)^2^n) w
 | [],Ls,n,b,hn,hb,h,hL,w,f=>by
  refine ⟨(hL w f).1,(hL w f).2.mono ?_⟩;have h1:b<=2*d*M*b:=by have:=B2 b g; omega
  have h2:(2*d*M*b)^1<=(2*d*M*b)^2^n:=JR zO (Nat.one_le_two_pow);rw [Nat.pow_one] at h2;omega
 | a :: S,Ls,n,b,hn,hb,h,hL,w,f=>by
  unfold pi at f;split at f
  ·exact Fz g S Ls n b hn hb (fun c hc=>h c (tZ _ hc)) hL w f
  ·rename_i i hi;obtain ⟨j,q,-⟩:=XB.1 hi;have hl:Ls.getD i []=Ls[i]:=by simp [iF,j]
   rw [hl] at f;have hm:=hL _ (mQ j);have ha:=h a (Al ..);obtain ⟨n',rfl⟩:∃ n',n=n'+1:=⟨n-1,zO⟩
   have p:1<=2*d*M*b*b:=by
    have m:=X0 g hb;have o:=X0 m hb
    simpa using o
   have:=Fz g S _ n' (2*d*M*b*b) (by rw [rR,List.length_eraseIdx_of_lt j]; omega) p (fun c hc=>h c (tZ _ hc)) (fun l hl=>by
    obtain ⟨x,hx,rfl⟩:=nC.1 hl;have k:=hL x (Rx hx);exact ⟨bC hm.1 k.1,UU ha.1 hm.1 k.1 ha.2 hm.2 k.2⟩) w f
   refine ⟨this.1,this.2.mono (Zm ?_)⟩;have e:2*d*M*(2*d*M*b*b)=(2*d*M*b)^2:=by rw [Nat.pow_two]; grind
   rw [e,<- ZQ,Rb 2 n',EV 2 (2^n')]
def tw:∀ {d:Nat} (S Ls:List V),(∀ l∈Ls,l.length=d)->∀ (b:V),(∀ l∈Ls,dot b l=0)->∀ w∈pi S Ls,dot b w=0
 | d,[],Ls,hL,b,hb,w,c=>hb w c
 | d,a :: S,Ls,hL,b,hb,w,c=>by
  unfold pi at c;split at c
  ·exact tw S Ls hL b hb w c
  ·rename_i i hi;obtain ⟨e,f,-⟩:=XB.1 hi;have hl:Ls.getD i []=Ls[i]:=by simp [iF,e]
   rw [hl] at c;have hm:=mQ e;refine tw (d:=d) S _ (fun l hl=>?_) b (fun l hl=>?_) w c
   ·obtain ⟨x,hx,rfl⟩:=nC.1 hl;exact bC (hL _ hm) (hL x (Rx hx))
   ·obtain ⟨x,hx,rfl⟩:=nC.1 hl;rw [yg (hL _ hm) (hL x (Rx hx)),hb _ hm,hb x (Rx hx)]; simp
def rW:∀ {d:Nat} (S Ls:List V),(∀ l∈Ls,l.length=d)->∀ s∈S,∀ w∈pi S Ls,dot s w=0
 | d,[],Ls,hL,s,hs,w,b=>by cases hs
 | d,a :: S,Ls,hL,s,hs,w,b=>by
  unfold pi at b;split at b
  ·rename_i hn;rcases FC.1 hs with rfl | hs
   ·exact tw (d:=d) S Ls hL s (fun l hl=>by have:=Y5.1 hn l hl; simpa using this) w b
   ·exact rW S Ls hL s hs w b
  ·rename_i i hi;obtain ⟨e,f,-⟩:=XB.1 hi;have hl:Ls.getD i []=Ls[i]:=by simp [iF,e]
   rw [hl] at b;have hm:=mQ e;have c:∀ l∈(Ls.eraseIdx i).map (mv a Ls[i]),l.length=d:=fun l hl=>by
    obtain ⟨x,hx,rfl⟩:=nC.1 hl;exact bC (hL _ hm) (hL x (Rx hx))
   rcases FC.1 hs with rfl | hs
   ·refine tw (d:=d) S _ c s (fun l hl=>?_) w b;obtain ⟨x,hx,rfl⟩:=nC.1 hl;rw [yg (hL _ hm) (hL x (Rx hx))]; grind
   ·exact rW S _ c s hs w b
def Ca:∀ {d:Nat} (S Ls:List V),(∀ l∈Ls,l.length=d)->∀ x,x.length=d->Spn d (· ∈ Ls) x->(∀ s∈S,dot s x=0)->Spn d (· ∈ pi S Ls) x
 | d,[],Ls,hL,x,hx,hs,_=>hs
 | d,a :: S,Ls,hL,x,hx,hs,hz=>by
  unfold pi;split
  ·exact Ca S Ls hL x hx hs fun s hs=>hz s (tZ _ hs)
  ·rename_i i hi;obtain ⟨g,m,-⟩:=XB.1 hi;have hl:Ls.getD i []=Ls[i]:=by simp [iF,g]
   rw [hl];have hm:=mQ g;have b:=hL _ hm;have hne:dot a Ls[i]≠0:=by simpa using m
   have f:∀ l,l∈(Ls.eraseIdx i).map (mv a Ls[i])->l.length=d:=fun l hl=>by
    obtain ⟨x,hx,rfl⟩:=nC.1 hl;exact bC (hL _ hm) (hL x (Rx hx))
   refine Ca S _ f x hx ?_ fun s hs=>hz s (tZ _ hs);have t:Spn d (· ∈ (Ls.eraseIdx i).map (mv a Ls[i])) (mv a Ls[i] x):=Con.image (fun l hl=>hL l hl) (fun r h=>h.elim) f (fun r h=>h.elim) (mv a Ls[i]) (I6 b) (fun x y c hx hy=>I7 b hx hy) (fun x c hx=>E7 b hx) (fun x hx=>bC b hx) (fun y hy c=>by
    obtain ⟨j,hj⟩:=RB hy;by_cases k:j=i
    ·subst k;rw [eA g] at hj;cases hj;have e:scl c (mv a Ls[j] Ls[j])=lJ d:=by
      rw [Ko b];exact aM (by simp [scl,lJ]) fun t=>by rw [aC,iI]; simp
     rw [e]; exact .zero
    ·exact Con.of_line (bC b (hL y hy)) (Yy (ZB.2 ⟨j,k,hj⟩)) c) (fun r h=>h.elim) hs
   rw [Wh b hx (hz a (Al ..))] at t;exact pH f hx hne t
def KG {d M:Nat} (hd:0<d) (B:0<M) {S:List V} (D:∀ a∈S,a.length=d/\Bd M a) {v:V} (A:v.length=d) (hc:content v=1) (hz:∀ s∈S,dot s v=0)
  (I:∀ x,x.length=d->(∀ s∈S,dot s x=0)->∃ m n:Int,m≠0/\scl m x=scl n v):Bd ((2*d*M)^2^d) v:=by
 have u:∀ l∈(startU d).lines,l.length=d:=fun l hl=>(oO (d:=d)).lenL l hl;have K:=Ca S (startU d).lines u v A ((oO (d:=d)).lines v A (fun e h=>h.elim) (fun i h=>by cases h)) hz;have F:∀ l∈(startU d).lines,l.length=d/\Bd 1 l:=fun l hl=>by
  refine ⟨u l hl,fun i=>?_⟩;obtain ⟨j,hj,rfl⟩:=nC.1 hl;rw [nQ (XU.1 hj)];split <;> simp
 have C:1<=2*d*M:=by have:=X0 (show 1<=2*d by omega) B; simpa using this
 have f:=Fz C S (startU d).lines d 1 (by simp [startU]) zO D F;rw [Yb] at f;have ⟨w,o,j,hj⟩:∃ w∈pi S (startU d).lines,∃ j,at_ w j≠0:=by
  apply Nw
  intro H;have E:∀ w∈pi S (startU d).lines,∀ j,at_ w j=0:=fun w o j=>Z9.1 fun e=>H ⟨w,o,j,e⟩;have L:∀ i,at_ v i=0:=by
   have key:∀ {x:V},Spn d (· ∈ pi S (startU d).lines) x->∀ i,at_ x i=0:=by
    intro x hx
    induction hx with
    | zero=>intro i; exact iI
    | @line x l c hx hl p =>
     intro i;rw [cg ((hx.length (fun l hl=>(f l hl).1) (fun r h=>h.elim)).trans (f l hl).1.symm),p i,E l hl i]; simp
    | ray c hc hx hr p=>exact hr.elim
    | @div x k N hl hx p =>
     intro i
     have:=p i
     rw [aC] at this;rcases Jv.1 this with h | h
     ·omega
     ·exact h
   exact key K
  have:=content_eq_zero.2 (zero_iff.2 L)
  omega
 obtain ⟨m,n,hm,e⟩:=I w (f w o).1 fun s hs=>rW S _ u s hs w o;have G:n≠0:=fun h0=>by
  have:=congrArg (fun z=>at_ z j) e
  simp only [aC,h0,Int.zero_mul] at this;rcases Jv.1 this with h | h
  ·exact hm h
  ·exact hj h
 intro i;have h1:(m.natAbs:Int) ∣ n:=by
  have h2:∀ a∈v,(m.natAbs:Int) ∣ n*a:=fun a ha=>by
   obtain ⟨t,rfl⟩:=Jd ha
   have:=congrArg (fun z=>at_ z t) e
   simp only [aC] at this;rw [<- this];exact Int.natAbs_dvd.2 (Int.dvd_mul_right m _)
  have h3:(m.natAbs:Int) ∣ (content (scl n.natAbs v):Int):=lp fun a ha=>by
   obtain ⟨b,hb,rfl⟩:=nC.1 ha;rcases Int.natAbs_eq n with hn | hn
   ·rw [<- hn]; exact h2 b hb
   ·have:=h2 b hb
    rw [hn,Int.neg_mul] at this;exact Int.dvd_neg.1 this
  rw [nK zO,hc] at h3
  have:=ZJ.2 h3
  simp only [Y7,Int.mul_one,Int.natCast_one] at this;exact ZW.2 this
 obtain ⟨q,y⟩:=h1;have J:(at_ w i).natAbs=q.natAbs*(at_ v i).natAbs:=by
  have:=congrArg (fun z=>(at_ z i).natAbs) e
  simp only [aC,Zz,y] at this;simp only [Y7] at this;rw [Se] at this;exact Nat.eq_of_mul_eq_mul_left zO this
 have hq0:1<=q.natAbs:=by
  have:q≠0:=fun h0=>G (by rw [y,h0]; simp)
  omega
 have:=(f w o).2 i
 rw [J] at this;have g:=B2 (at_ v i).natAbs hq0;omega
structure Sp (d:Nat) (ps:List (Nat × V)) (u:Under):Prop where
 lines:ps.map (·.2)=u.lines
 lt:∀ q∈ps,q.1<d
 diag:∀ q∈ps,at_ q.2 q.1≠0
 apart:ps.Pairwise fun q q'=>at_ q.2 q'.1=0/\at_ q'.2 q.1=0
 rays:∀ r∈u.rays,∀ q∈ps,at_ r q.1=0
 contL:∀ l∈u.lines,content l=1
 contR:∀ r∈u.rays,content r=1
section
variable {d:Nat} {ps:List (Nat × V)}
def DJ {α β:Type} (f:α->β) (l:List α) (i:Nat):(l.map f).eraseIdx i=(l.eraseIdx i).map f:=by
 simp [Y4,List.map_take,List.map_drop]
def AY:∀ (l:List (Nat × V)),(l.map fun _=>(0:Int)).sum=0
 | []=>rfl
 | _ :: l=>by simp [AY l]
def MQ (C:∀ q∈ps,q.2.length=d) (z:∀ q∈ps,at_ q.2 q.1≠0) (o:ps.Pairwise fun q q'=>at_ q.2 q'.1=0/\at_ q'.2 q.1=0) {x:V} (hx:Spn d (· ∈ ps.map (·.2)) x) (hz:∀ q∈ps,at_ x q.1=0):∀ i,at_ x i=0:=by
 have D:ps.Nodup:=o.imp_of_mem fun {q q'} a E h e=>by
  subst e; exact z q a h.1
 have J:∀ q∈ps,∀ q'∈ps,q≠q'->at_ q.2 q'.1=0:=fun q a q' E hne=>by
  obtain ⟨i,hi⟩:=RB a;obtain ⟨j,hj⟩:=RB E;obtain ⟨A,rfl⟩:=B4.1 hi;obtain ⟨B,rfl⟩:=B4.1 hj;rcases Zn i j with hlt | heq | hlt
  ·exact (Tt.1 o i j A B hlt).1
  ·subst heq; exact absurd rfl hne
  ·exact (Tt.1 o j i B A hlt).2
 have H:∀ l,l∈ps.map (·.2)->l.length=d:=fun l hl=>by
  obtain ⟨q,a,rfl⟩:=nC.1 hl;exact C q a
 have key:∀ {x:V},Spn d (· ∈ ps.map (·.2)) x->∃ k:Int,0<k/\∃ c:Nat × V->Int,(∀ i,k*at_ x i=(ps.map fun q=>c q*at_ q.2 i).sum):=by
  intro x hx
  induction hx with
  | zero=>exact ⟨1,zO,fun _=>0,fun i=>by rw [iI]; simp only [Int.zero_mul,Z8]; exact (AY ps).symm⟩
  | @line x l n hx hl m =>
   obtain ⟨k,f,c,hc⟩:=m;obtain ⟨q0,hq0,rfl⟩:=nC.1 hl;refine ⟨k,f,fun r=>c r+(if r=q0 then k*n else 0),fun i=>?_⟩;rw [cg ((hx.length H (fun r h=>h.elim)).trans (C q0 hq0).symm)];have e:∀ (G:List (Nat × V)),G.Nodup->(G.map fun r=>(c r+(if r=q0 then k*n else 0))*at_ r.2 i).sum=(G.map fun r=>c r*at_ r.2 i).sum+(if q0∈G then k*n*at_ q0.2 i else 0):=by
    intro G
    induction G with
    | nil=>intro _; simp
    | cons g G w =>
     intro hg;obtain ⟨p,t⟩:=Ze.1 hg;simp only [uz,ZI,w t];by_cases u:g=q0
     ·subst u;simp only [if_pos rfl,FC,true_or,if_true,p,if_false]
      grind
     ·have:¬ q0=g:=fun e=>u e.symm
      simp only [if_neg u,FC,this,false_or]
      grind
   rw [e ps D,if_pos hq0,<- hc i]
   grind
  | ray c hc hx hr m=>exact hr.elim
  | @div x j hj hl hx m =>
   obtain ⟨k,f,c,hc⟩:=m;exact ⟨k*j,Yl f hj,c,fun i=>by rw [<- hc i,aC]; grind⟩
 obtain ⟨k,f,c,hc⟩:=key hx;have I:∀ q∈ps,c q=0:=fun q a=>by
  have b:=hc q.1;rw [hz q a] at b;have F:∀ (G:List (Nat × V)),(∀ g∈G,g∈ps)->G.Nodup->(G.map fun s=>c s*at_ s.2 q.1).sum=if q∈G then c q*at_ q.2 q.1 else 0:=by
   intro G
   induction G with
   | nil=>intro _ _; simp
   | cons g G w =>
    intro y hg;obtain ⟨p,t⟩:=Ze.1 hg;simp only [uz,ZI,w (fun x hx=>y x (tZ _ hx)) t];by_cases v:g=q
    ·subst v;simp [p]
    ·have K:¬ q=g:=fun e=>v e.symm;rw [J g (y g (Al ..)) q a v];simp [K]
  rw [F ps (fun g hg=>hg) D,if_pos a] at b;rcases Jv.1 (show c q*at_ q.2 q.1=0 by omega) with h1 | h1
  ·exact h1
  ·exact absurd h1 (z q a)
 intro i;have b:=hc i
 have:(ps.map fun q=>c q*at_ q.2 i)=ps.map fun _=>(0:Int):=Ym fun q a=>by rw [I q a]; simp
 rw [this,AY] at b;rcases Jv.1 b with h1 | h1
 ·omega
 ·exact h1
def FD {i:Nat} (hi:i<d):content (unitV d i)=1:=by
 have h1:(content (unitV d i):Int) ∣ 1:=by
  have:=PW (x:=unitV d i) (i:=i) (by rw [nQ hi]; simp)
  rw [nQ hi,if_pos rfl] at this;exact content_dvd this
 have:=ZJ.2 h1
 simpa using this
def MS (d:Nat):Sp d ((List.range d).map fun i=>(i,unitV d i)) (startU d):=by
 refine ⟨by simp [startU,YV,Function.comp_def],fun q a=>?_,fun q a=>?_,?_,fun r hr=>(by cases hr),fun l hl=>?_,fun r hr=>(by cases hr)⟩
 ·obtain ⟨i,hi,rfl⟩:=nC.1 a;exact XU.1 hi
 ·obtain ⟨i,hi,rfl⟩:=nC.1 a;rw [nQ (XU.1 hi)]; simp
 ·refine XM.2 (Y8 (fun {i j} hi hj hlt=>?_) Z4);have hi:=XU.1 hi;have hj:=XU.1 hj;simp only;rw [nQ hi,nQ hj,if_neg zO,if_neg zO];exact ⟨rfl,rfl⟩
 ·obtain ⟨i,hi,rfl⟩:=nC.1 hl;exact FD (XU.1 hi)
def ST (a u:V) (i:Nat):at_ (upV a u) i=0 ↔ at_ u i=0:=by
 unfold upV;split
 ·rw [aC]; omega
 ·exact Z7
def RK {u:Under} {a:V} {E:V->Prop} (f:DD d E (· ∈ u.done) (· ∈ u.lines) u.rays) (h:Sp d ps u) (eq:Bool):∃ Q,Sp d Q (addU a eq u):=by
 have w:∀ q∈ps,q.2.length=d:=fun q c=>f.lenL q.2 (by rw [<- h.lines]; exact Yy c);unfold addU;split
 ·rename_i hn;have R:∀ x,x∈u.lines->dot a x=0:=fun x hx=>by
   have:=Y5.1 hn x hx
   simpa using this
  refine ⟨ps,h.lines,h.lt,h.diag,h.apart,fun r hr q c=>?_,h.contL,fun r hr=>?_⟩
  ·rcases mem_cutL.1 hr with ⟨i,r,h1,h2,rfl⟩ | ⟨i,r,h1,h2,⟨h3,rfl⟩ | ⟨k,n,h3,h4,h5,rfl⟩⟩
   ·exact h.rays _ (Cv h1) q c
   ·exact h.rays _ (Cv h1) q c
   ·rw [(kQ q.1).1];unfold mx;rw [cg ((f.lenR _ (Cv h1)).trans (f.lenR _ (Cv h3)).symm),h.rays _ (Cv h1) q c,h.rays _ (Cv h3) q c]; simp
  ·rcases mem_cutL.1 hr with ⟨i,r,h1,h2,rfl⟩ | ⟨i,r,h1,h2,⟨h3,rfl⟩ | ⟨k,n,h3,h4,h5,rfl⟩⟩
   ·exact h.contR _ (Cv h1)
   ·exact h.contR _ (Cv h1)
   ·refine iO ?_;have hr:=Cv h1;have D:=Cv h3;obtain ⟨b,hb,hne⟩:=f.off r hr;have hm:dot b (mx a r n)≠0:=fun e=>hne ((mU (f.keep r hr) (f.keep n D) h2 h4 hb).1 e).1
    apply Nw
    intro z;have hz:∀ i,at_ (mx a r n) i=0:=fun i=>Z9.1 fun e=>z ⟨i,e⟩;refine hm ?_;rw [(JC (fL (f.keep r hr) (f.keep n D) h2 h4).len).2 hz,kN]
 ·rename_i i hi;obtain ⟨o,K,-⟩:=XB.1 hi;have hl:u.lines.getD i []=u.lines[i]:=by simp [iF,o]
  rw [hl];have hne:dot a u.lines[i]≠0:=by simpa using K
  have y:i<ps.length:=by have:=congrArg List.length h.lines; simp at this; omega
  have M:u.lines[i]=(ps[i]).2:=by
   have:(ps.map (·.2))[i]? = u.lines[i]?:=by rw [h.lines]
   rw [XA,eA y,eA o] at this
   simpa using this.symm
  have I:(u.lines[i]).length=d:=f.lenL _ (mQ o)
  generalize s:upV a u.lines[i]=v
  have B:v.length=d:=by
   rw [<- s]; unfold upV; split
   ·exact aj I
   ·exact I
  have S:0<dot a v:=by
   rw [<- s]; unfold upV;split
   ·rw [dot_scl]; omega
   ·omega
  have O:∀ t,at_ v t=0 ↔ at_ (ps[i]).2 t=0:=fun t=>by rw [<- s,ST,M]
  have g:∀ q∈ps.eraseIdx i,at_ v q.1=0:=fun q c=>by
   obtain ⟨j,L,hj⟩:=ZB.1 c;obtain ⟨C,rfl⟩:=B4.1 hj;rw [O];rcases Nat.lt_or_gt_of_ne L with hlt | hlt
   ·exact (Tt.1 h.apart j i C y hlt).2
   ·exact (Tt.1 h.apart i j y C hlt).1
  have m:∀ x:V,x.length=d->∀ t,at_ v t=0->(at_ (foldV a v x) t=0 ↔ at_ x t=0):=fun x hx t A=>by
   unfold foldV;rw [(kQ t).1];unfold mv;rw [cg (hx.trans B.symm),A];constructor
   ·intro e;rcases Jv.1 (show dot a v*at_ x t=0 by omega) with h1 | h1
    ·omega
    ·exact h1
   ·intro e; rw [e]; simp
  have J:∀ x:V,x.length=d->(∃ t,at_ v t=0/\at_ x t≠0)->content (foldV a v x)=1:=fun x hx ⟨t,A,P⟩=>by
   have:at_ (foldV a v x) t≠0:=fun e=>P ((m x hx t A).1 e)
   unfold foldV at this ⊢;exact iO ⟨t,fun e=>this ((kQ t).1.2 e)⟩
  refine ⟨(ps.eraseIdx i).map fun q=>(q.1,foldV a v q.2),?_,?_,?_,?_,?_,?_,?_⟩
  ·simp only [YV,<- h.lines];rw [DJ,YV];rfl
  ·intro q c;obtain ⟨q0,hq0,rfl⟩:=nC.1 c;exact h.lt q0 (Rx hq0)
  ·intro q c;obtain ⟨q0,hq0,rfl⟩:=nC.1 c;have hm:=Rx hq0;exact fun e=>h.diag q0 hm ((m q0.2 (w q0 hm) q0.1 (g q0 hq0)).1 e)
  ·refine XM.2 ((h.apart.sublist (List.eraseIdx_sublist ps i)).imp_of_mem fun {q q'} c F G=>?_);exact ⟨(m q.2 (w q (Rx c)) q'.1 (g q' F)).2 G.1,(m q'.2 (w q' (Rx F)) q.1 (g q c)).2 G.2⟩
  ·intro r hr q c;obtain ⟨q0,hq0,rfl⟩:=nC.1 c;rcases Eu.1 hr with hr | hr
   ·obtain ⟨r0,p,rfl⟩:=nC.1 hr;exact (m r0 (f.lenR r0 p) q0.1 (g q0 hq0)).2 (h.rays r0 p q0 (Rx hq0))
   ·cases eq
    ·simp at hr; subst hr; exact g q0 hq0
    ·simp at hr
  ·intro l hl;obtain ⟨x,hx,rfl⟩:=nC.1 hl;rw [<- h.lines,DJ] at hx;obtain ⟨q,c,rfl⟩:=nC.1 hx;have hm:=Rx c;exact J q.2 (w q hm) ⟨q.1,g q c,h.diag q hm⟩
  ·intro r hr;rcases Eu.1 hr with hr | hr
   ·obtain ⟨r0,p,rfl⟩:=nC.1 hr;have H:=f.lenR r0 p;obtain ⟨b,hb,hn⟩:=f.off r0 p;have N:dot b v=0:=by
     have hz:=f.lineI _ (mQ o) b hb;rw [<- s]; unfold upV;split
     ·rw [dot_scl,hz]; simp
     ·exact hz
    unfold foldV;refine iO ?_
    apply Nw
    intro z;have hz:∀ t,at_ (mv a v r0) t=0:=fun t=>Z9.1 fun e=>z ⟨t,e⟩;have e:=yg (a:=a) B H b;rw [(JC (bC B H)).2 hz,kN,N] at e;rcases Jv.1 (show dot a v*dot b r0=0 by omega) with h1 | h1
    ·omega
    ·exact hn h1
   ·cases eq
    ·simp at hr;subst hr
     have:=h.contL _ (mQ o)
     rw [<- s]; unfold upV;split
     ·rw [zr]; exact this
     ·exact this
    ·simp at hr
def PD {M:Nat} (hd:0<d) (F:0<M) {u:Under} {Es:List V} (m:DD d (· ∈ Es) (· ∈ u.done) (· ∈ u.lines) u.rays) (h:Sp d ps u) (C:∀ e∈Es,e.length=d/\Bd M e) (D:∀ i∈u.done,i.length=d/\Bd M i) :
  (∀ l∈u.lines,Bd ((2*d*M)^2^d) l)/\(∀ r∈u.rays,Bd ((2*d*M)^2^d) r):=by
 have G:∀ q∈ps,q.2.length=d:=fun q b=>m.lenL q.2 (by rw [<- h.lines]; exact Yy b);have I:∀ {t:Nat},t<d->(unitV d t).length=d/\Bd M (unitV d t):=fun {t} z=>⟨by simp [unitV,lJ],fun i=>by rw [nQ z]; split <;> simp <;> omega⟩
 have w:∀ {t:Nat} {x:V},t<d->x.length=d->dot (unitV d t) x=at_ x t:=fun {t x} z hx=>by
  have key:∀ (n t:Nat) (x:V),t<n->x.length=n->dot (unitV n t) x=at_ x t:=by
   intro n
   induction n with
   | zero=>intro t x h; omega
   | succ n B =>
    intro t x z hx;cases x with
    | nil=>simp at hx
    | cons a x =>
     cases t with
     | zero =>
      have:dot (lJ n) x=0:=by rw [dot_comm,kN]
      simp [unitV,lJ,Ya,dot,at_] at this ⊢;omega
     | succ t =>
      have:=B t x zO (by simpa using hx)
      simp [unitV,lJ,Ya,dot,at_] at this ⊢;exact this
  exact key d t x z hx
 have E:∀ {x:V},Spn d (· ∈ u.lines) x->(∀ q∈ps,at_ x q.1=0)->∀ i,at_ x i=0:=fun hx hz=>MQ G h.diag h.apart (by rw [h.lines]; exact hx) hz;constructor
 ·intro l hl;rw [<- h.lines] at hl;obtain ⟨q0,hq0,rfl⟩:=nC.1 hl;have o:=G q0 hq0;have y:q0.2∈u.lines:=by rw [<- h.lines]; exact hl
  refine KG hd F (S:=Es++u.done++(ps.filter fun q=>!decide (q.1=q0.1)).map fun q=>unitV d q.1) (fun a ha=>?_) o (h.contL _ y) (fun s hs=>?_) (fun x hx hz=>?_)
  ·rcases Eu.1 ha with ha | ha
   ·rcases Eu.1 ha with ha | ha
    ·exact C a ha
    ·exact D a ha
   ·obtain ⟨q,b,rfl⟩:=nC.1 ha;exact I (h.lt q (C4.1 b).1)
  ·rcases Eu.1 hs with hs | hs
   ·rcases Eu.1 hs with hs | hs
    ·exact m.lineE _ y s hs
    ·exact m.lineI _ y s hs
   ·obtain ⟨q,b,rfl⟩:=nC.1 hs;obtain ⟨H,N⟩:=C4.1 b;rw [w (h.lt q H) o];have hne:q≠q0:=fun e=>by subst e; simp at N
    obtain ⟨i,hi⟩:=RB H;obtain ⟨j,hj⟩:=RB hq0;obtain ⟨p,rfl⟩:=B4.1 hi;obtain ⟨v,rfl⟩:=B4.1 hj;rcases Zn i j with hlt | heq | hlt
    ·exact (Tt.1 h.apart i j p v hlt).2
    ·subst heq; exact absurd rfl hne
    ·exact (Tt.1 h.apart j i v p hlt).1
  ·have P:Spn d (· ∈ u.lines) x:=m.lines x hx (fun e he=>hz e (by simp [he])) (fun i hi=>hz i (by simp [hi]));refine ⟨at_ q0.2 q0.1,at_ x q0.1,h.diag q0 hq0,?_⟩;have hy:=E (x:=mix (at_ q0.2 q0.1) x (-(at_ x q0.1)) q0.2) (Spn.sum2 m.lenL P (eC o y) _ _) (fun q b=>by
    rw [cg (hx.trans o.symm)];by_cases A:q.1=q0.1
    ·rw [A]; grind
    ·have h1:at_ x q.1=0:=by
      have:=hz (unitV d q.1) (XV _ (Yy (f:=fun q=>unitV d q.1) (C4.2 ⟨b,by simp [A]⟩)))
      rw [w (h.lt q b) hx] at this; exact this
     have h2:at_ q0.2 q.1=0:=by
      have hne:q≠q0:=fun e=>A (by rw [e]);obtain ⟨i,hi⟩:=RB b;obtain ⟨j,hj⟩:=RB hq0;obtain ⟨p,rfl⟩:=B4.1 hi;obtain ⟨v,rfl⟩:=B4.1 hj;rcases Zn i j with hlt | heq | hlt
      ·exact (Tt.1 h.apart i j p v hlt).2
      ·subst heq; exact absurd rfl hne
      ·exact (Tt.1 h.apart j i v p hlt).1
     rw [h1,h2]; simp)
   refine aM (by rw [aj hx,aj o]) fun i=>?_
   have:=hy i
   rw [cg (hx.trans o.symm)] at this;rw [aC,aC]; grind
 ·intro r hr;have g:=m.keep r hr;refine KG hd F (S:=Es++(u.done.filter fun i=>decide (dot i r=0))++ps.map fun q=>unitV d q.1) (fun a ha=>?_) g.len (h.contR r hr) (fun s hs=>?_) (fun x hx hz=>?_)
  ·rcases Eu.1 ha with ha | ha
   ·rcases Eu.1 ha with ha | ha
    ·exact C a ha
    ·exact D a (C4.1 ha).1
   ·obtain ⟨q,b,rfl⟩:=nC.1 ha;exact I (h.lt q b)
  ·rcases Eu.1 hs with hs | hs
   ·rcases Eu.1 hs with hs | hs
    ·exact g.eq s hs
    ·simpa using (C4.1 hs).2
   ·obtain ⟨q,b,rfl⟩:=nC.1 hs;rw [w (h.lt q b) g.len];exact h.rays r hr q b
  ·
   have ⟨n,W,hn⟩:∃ n:Int,0<=n/\∀ i∈u.done,dot i r≠0->0<=n*dot i r+dot i x:=by
    have key:∀ (l:List V),(∀ i∈l,0<=dot i r)->∃ n:Int,0<=n/\∀ i∈l,dot i r≠0->0<=n*dot i r+dot i x:=by
     intro l
     induction l with
     | nil=>intro _; exact ⟨0,zO,fun i hi=>by cases hi⟩
     | cons a l B =>
      intro hl;obtain ⟨n,hn,K⟩:=B fun i hi=>hl i (tZ _ hi);refine ⟨n+(dot a x).natAbs,zO,fun i hi hne=>?_⟩;have h0:=hl i hi;have L:1<=dot i r:=zO;have e:(n+((dot a x).natAbs:Int))*dot i r=n*dot i r+(dot a x).natAbs*dot i r:=by grind
      rw [e];have R:((dot a x).natAbs:Int)*1<=(dot a x).natAbs*dot i r:=Int.mul_le_mul_of_nonneg_left L zO;rcases FC.1 hi with rfl | hi
      ·have T:=N5 hn h0;omega
      ·have:=K i hi hne
       omega
    exact key u.done fun i hi=>g.ge i hi
   have J:∀ i∈u.done,dot i r=0->dot i x=0:=fun i hi h0=>hz i (by simp [hi,h0]);have hy:Keep d (· ∈ Es) (· ∈ u.done) (mix n r 1 x):=by
    refine ⟨mix_length g.len hx,fun e he=>?_,fun i hi=>?_⟩
    ·rw [aU _ _ _ (g.len.trans hx.symm),g.eq e he,hz e (by simp [he])]; simp
    ·rw [aU _ _ _ (g.len.trans hx.symm)];by_cases h0:dot i r=0
     ·rw [h0,J i hi h0]; simp
     ·have:=hn i hi h0; omega
   obtain ⟨k,c,U,hc,O⟩:=m.ext r hr _ hy fun i hi h0=>by
    rw [aU _ _ _ (g.len.trans hx.symm),h0,J i hi h0]; simp
   have Q:=E O fun q b=>by
    rw [cg (hy.len.trans g.len.symm),cg (g.len.trans hx.symm),h.rays r hr q b]
    have:=hz (unitV d q.1) (XV _ (Yy (f:=fun q:Nat × V=>unitV d q.1) b))
    rw [w (h.lt q b) hx] at this;rw [this]; simp
   refine ⟨k,c-k*n,zO,aM (by rw [aj hx,aj g.len]) fun i=>?_⟩
   have:=Q i
   rw [cg (hy.len.trans g.len.symm),cg (g.len.trans hx.symm)] at this;rw [aC,aC]; grind
end
end Go.Proofs.YteaefaohjlmjdaaGreat.Lin
namespace Go.Proofs.YteaefaohjlmjdaaGreat.Ev
open Go Nn
def RM {x y a:AV} (ha:One a):cE [x,y] [((1,1),a)]=some (.agg [x,a]):=by
 simp [cE,cB,ha.1,ha.2]
theorem ap (T0:Tm) (Vs:List AV) (u v w x:Nat × Option Nat):cw T0 Vs [u,v,w,x]=((((List.replicate T0.length .undef).set u.1 (nk T0 Vs u)).set v.1 (nk T0 Vs v)).set w.1 (nk T0 Vs w)).set x.1 (nk T0 Vs x):=rfl
section
variable {tab:Nat->Option aA} {f n:Nat} {res:List (Nat × Option (Option Nat))} {body:ACode} {H:Heap} {Q:AV->Heap->Prop}
def Vh {a b c d e:AV} (i:tab f=some ⟨5,n,res,body,none⟩) (hn:5<=n) (h:∀ T:Tm,T.length=n->ad T 0=a->ad T 1=b->ad T 2=c->ad T 3=d->ad T 4=e->WC tab false body T H (vT res Q)):Ans tab (.fn f [a,b,c,d,e]) H Q :=
 px i rfl rfl hn fun T hl g=>h T hl (g 0 (by simp)) (g 1 (by simp)) (g 2 (by simp)) (g 3 (by simp)) (g 4 (by simp))
end
def nG {H:Heap} (a:Wf H) {v:AV} {l:List Int} (hs:RowV H v l) {i:Nat} (hi:i<l.length):∃ w,bO H w (l[i]).natAbs/\Ldd H (some 2) (aB v (i*2)) (.agg [.bool (decide (l[i]<0)),w])/\cS 2 v (.int .i64 (i:Int))=some (aB v (i*2)):=by
 obtain ⟨w,h1,h2,-,-⟩:=iZ hs hi;exact ⟨w,h1,Ldd.of a h2,SlV.idx hs .i64 i hi⟩
def BoxI (H:Heap) (b:Nat) (z:Int):Prop:=∃ q,H.get b=some (.cells [.bool (decide (z<0)),q] aa true)/\bO H q z.natAbs
def BoxI.mono {H H':Heap} (hs:Sub H H') {b:Nat} {z:Int} (h:BoxI H b z):BoxI H' b z:=by
 obtain ⟨q,h1,h2⟩:=h; exact ⟨q,hs.get _ _ h1,h2.mono hs⟩
def BoxR (H:Heap) (b:Nat) (l:List Int):Prop:=∃ q,H.get b=some (.cells [q] af true)/\RowV H q l
def BoxR.mono {H H':Heap} (hs:Sub H H') {b:Nat} {l:List Int} (h:BoxR H b l):BoxR H' b l:=by
 obtain ⟨q,h1,h2⟩:=h; exact ⟨q,hs.get _ _ h1,h2.mono hs⟩
section
variable {tab:Nat->Option aA} {H:Heap} {s:AV}
def Ew (C:Code tab) (j:Wf H) {i:Int} {a:AV} {b:Nat} {x y:Int} (ha:IntV H a x) (hb:BoxI H b y) (hx:MuI x) (hy:MuI y) :
  Ans tab (.fn mL [.int .i64 i,a,.ptr b 0]) H fun v H'=>IntV H' v (x*y)/\Kp H H':=by
 obtain ⟨p,rfl,hp⟩:=ha;obtain ⟨q,hb,h⟩:=hb;have op:=hp.one;have l:=j _ _ hb;refine lC C.q165 zU fun T hl c d f=>?_;refine zW (bB hl c d f hb) ?_;refine AnsH.use (nt C zF ⟨p,rfl,hp.mono (zG H)⟩ ⟨q,rfl,h.mono (zG H)⟩ hx hy) ?_;rintro v H2 ⟨⟨w,rfl,hr⟩,g⟩;obtain ⟨k2,_,k⟩:=zT H zK g;have o:=hr.one;have d1:=g.get (b:=H.next+1) (e:=.cells [.bool false,.nilSl] aa true) (cC);have m:=k _ _ d1;have n:NoTy [ae] H2 (H.next+1):=NoTy.ty d1 zU;refine zW (bB hl c d f d1) ?_;exact ⟨⟨w,rfl,SlV.monoT (E:=bU gg) zS hr⟩,zK⟩
def vK (C:Code tab) (D:Wf H) {a:AV} {l:List Int} {y:Int} (hs:RowV H s l) (ha:IntV H a y) (o:l.length<=64) (m:∀ z∈l,MuI z) (hy:MuI y) :
  Ans tab (.fn nz [s,a]) H fun v H'=>∃ r,v=.tup [r,.int .i64 0]/\RowV H' r (Lin.scl y l)/\Kp H H'/\Fr H r:=by
 obtain ⟨q,rfl,h⟩:=ha;have F:=h.one;have os:=hs.one;refine bA C.q147 zU fun T hl c f=>?_;refine zW (aD hl c f) ?_;refine AnsH.eq (gI C (d:=l.length) zF (Tu hs (zG H) (by refine vH ?_; rfl)) (by simp) (by simp) o fun r hr=>?_) fun H2 j=>?_
 ·simp at hr; subst hr; exact ⟨rfl,fun z hz=>(m z hz).sm⟩
 obtain ⟨k2,_,G⟩:=zT H zK j;have b0:=j.get (b:=H.next) (e:=.cells [.bool (decide (y<0)),q] aa true) (cC);refine zW (aO hl c f @b0) ?_;refine AnsH.eq (dM C zF ⟨q,rfl,h.mono (zG H)⟩ hy.sm) fun A k=>?_;obtain ⟨x,_,w3⟩:=zT H zK k;have n:=k.get (b:=H.next) b0;refine zW (aD hl c f) ?_;refine AnsH.use (yO C zF (hs.mono (zG H)) zO (fun _ z=>z*y) fun i hi H' w g u=>?_) ?_
 ·exact Ew C g.wf u ⟨q,g.get (b:=H.next) (zV n),h.mono (Kp.sub (H:=H) (Kp.trans zK g))⟩ (m _ (mQ hi)) hy
 ·rintro v B ⟨hr,t,p⟩;obtain ⟨E,_,_⟩:=zT H zK t;have e:l.mapIdx (fun _ z=>z*y)=Lin.scl y l:=by
   apply YE <;> simp [Lin.scl,Int.mul_comm]
  rw [e] at hr;refine zW (aD hl c f) ?_;exact ⟨_,rfl,hr,zK,fun b hb=>B5 x.le (B5 (Ob _ _) (p b hb))⟩
def Lz (C:Code tab) (d:Wf H) {a:AV} {l:List Int} {y:Int} (hs:RowV H s l) (ha:IntV H a y) (b:l.length<=64) (c:∀ z∈l,MuI z) (hy:MuI y) :
  Ans tab (.fn nz [s,a]) H fun v H'=>∃ r,v=.tup [r,.int .i64 0]/\RowV H' r (Lin.scl y l)/\Kp H H':=(vK C d hs ha b c hy).mono fun _ _ ⟨r,h1,h2,h3,_⟩=>⟨r,h1,h2,h3⟩
def Nv {l m:List Int} (h:l.length=m.length) (g:Int->Int->Int):l.mapIdx (fun i z=>g z (m.getD i 0))=List.zipWith g l m:=by
 apply YE
 ·simp [h]
 ·intro i h1 h2;have hi:i<m.length:=by simp at h1; omega
  simp [hi]
def Ip (C:Code tab) (u:Wf H) {i:Nat} {a:AV} {bm I b:Nat} {x m n:Int} {l:List Int} (hi:i<l.length) (ha:IntV H a x) (hm:BoxI H bm m) (hn:BoxI H I n) (hb:BoxR H b l) (hx:MuI x) (N:MuI m) (P:MuI n) (hy:MuI l[i]) (R:dD (m*x)) (S:dD (n*l[i])) :
  Ans tab (.fn pO [.int .i64 (i:Int),a,.ptr bm 0,.ptr I 0,.ptr b 0]) H fun v H'=>IntV H' v (m*x+n*l[i])/\Kp H H':=by
 obtain ⟨p,rfl,hp⟩:=ha;obtain ⟨q,hb,U⟩:=hb;obtain ⟨Y,c,O⟩:=hm;obtain ⟨Z,d,Q⟩:=hn;have op:=hp.one;have lb:=u _ _ hb;have lm:=u _ _ c;have ln:=u _ _ d;obtain ⟨w,X,L,t⟩:=nG u U hi;have s:=L.put;have o:=L.ld;refine Vh C.q172 zU fun T hl f g h j k=>?_;refine zW (dj hl f g h j k) ?_;refine aF ?_;refine zD (qQ hl f g h j k hb c d t s o) ?_;refine AnsH.use (nt C zF ⟨Y,rfl,O.mono (zG H)⟩ ⟨p,rfl,hp.mono (zG H)⟩ N hx) ?_;rintro v H2 ⟨V,J⟩;obtain ⟨k2,_,w2⟩:=zT H zK J;have G:=L.mono k2;have z:=G.put;have y:=G.ld;have A:=k2.get hb;have F:=k2.get d;have D:=k2.get c;refine zD (Lm hl f g h j k hb c d t s o z y A F D) ?_;refine AnsH.use (nt C zF ⟨Z,rfl,Q.mono (zG H)⟩ ⟨w,rfl,X.mono (zG H)⟩ P hy) ?_;rintro v3 H3 ⟨W,B⟩;obtain ⟨k3,_,w3⟩:=zT H zK B;refine zD (Lm hl f g h j k hb c d t s o z y A F D) ?_;refine AnsH.use (J2 C zF (V.mono B.sub) W R S) ?_;rintro v4 M ⟨⟨r,rfl,hr⟩,K⟩;obtain ⟨k4,_,w4⟩:=zT H zK K;have ad:=hr.one;have d1:=K.get (b:=H.next+1) (B.get (b:=H.next+1) (J.get (b:=H.next+1) (e:=.cells [.bool false,.nilSl] aa true) (cC)));have ab:=w4 _ _ d1;have m1:NoTy [ae] M (H.next+1):=NoTy.ty d1 zU;refine zD (Nx hl f g h j k hb c d t s o z y A F D d1) ?_;exact ⟨⟨r,rfl,SlV.monoT (E:=bU gg) zS hr⟩,zK⟩
def Ez (C:Code tab) (W:Wf H) {vm L a b:AV} {m n:Int} {x y:List Int} (hm:IntV H vm m) (hn:IntV H L n) (ha:RowV H a x) (hb:RowV H b y) (K:x.length=y.length) (P:x.length<=64) (I:MuI m) (J:MuI n) (D:∀ z∈x,MuI z/\dD (m*z)) (E:∀ z∈y,MuI z/\dD (n*z)) :
  Ans tab (.fn xU [vm,a,L,b]) H fun v H'=>∃ r,v=.tup [r,.int .i64 0]/\RowV H' r (Lin.mix m x n y)/\Kp H H':=by
 obtain ⟨q,rfl,A⟩:=hm;obtain ⟨s,rfl,B⟩:=hn;have om:=A.one;have on:=B.one;have oa:=ha.one;have ob:=hb.one;refine Jw C.q164 zU fun T hl c f g h=>?_;refine zW (bB hl c f g h) ?_;refine AnsH.eq (dM C zF ⟨q,rfl,A.mono (zG H)⟩ I.sm) fun H2 l=>?_;obtain ⟨k2,_,w2⟩:=zT H zK l;have b0:=l.get (b:=H.next) (e:=.cells [.bool (decide (m<0)),q] aa true) (cC);have G:=l.get (b:=H.next+1) (e:=.cells [.bool (decide (n<0)),s] aa true) (cC);have M:=l.get (b:=H.next+2) (e:=.cells [b] af true) (cC);refine zW (dj hl c f g h G) ?_;refine AnsH.eq (dM C zF ⟨s,rfl,B.mono (zG H)⟩ J.sm) fun S o=>?_;obtain ⟨X,_,w3⟩:=zT H zK o;have N:=o.get (b:=H.next) b0;have O:=o.get (b:=H.next+1) G;have t:=o.get (b:=H.next+2) M;have ab:=w3 _ _ t;refine zW (dj hl c f g h @t) ?_;refine AnsH.eq (gI C (d:=x.length) zF (C2 ha hb (zG H) (by refine vH ?_; rfl)) (by simp) (by simp) P fun r hr=>?_) fun U p=>?_
 ·simp at hr; rcases hr with rfl | rfl
  ·exact ⟨rfl,fun z hz=>(D z hz).1.sm⟩
  ·exact ⟨K.symm,fun z hz=>(E z hz).1.sm⟩
 obtain ⟨Y,_,w4⟩:=zT H zK p;have d0:=p.get (b:=H.next) (e:=.cells [.bool (decide (m<0)),q] aa true) (zV N);have d1:=p.get (b:=H.next+1) (e:=.cells [.bool (decide (n<0)),s] aa true) (zV @O);have d2:=p.get (b:=H.next+2) (e:=.cells [b] af true) (zV @t);refine zW (bB hl c f g h) ?_;refine AnsH.use (AK C zF (ha.mono (zG H)) zO (fun i z=>m*z+n*y.getD i 0) fun i hi H' w j R=>?_) ?_
 ·have k:i<y.length:=zO;have e:y.getD i 0=y[i]:=by simp [k]
  have F:Sub H H':=Kp.sub (H:=H) (Kp.trans zK j);show Ans tab _ H' fun v H2=>IntV H2 v (m*x[i]+n*y.getD i 0)/\Kp H' H2;rw [e];exact Ip C j.wf k R ⟨q,j.get (b:=H.next) (zV d0),A.mono F⟩ ⟨s,j.get (b:=H.next+1) (zV d1),B.mono F⟩ ⟨b,j.get (b:=H.next+2) (zV d2),hb.mono F⟩ (D _ (mQ hi)).1 I J (E _ (mQ k)).1 (D _ (mQ hi)).2 (E _ (mQ k)).2
 ·rintro v V ⟨hr,Q⟩;obtain ⟨Z,_,_⟩:=zT H zK Q;rw [Nv K (fun u v=>m*u+n*v)] at hr;refine zW (bB hl c f g h) ?_;exact ⟨_,rfl,hr,zK⟩
def yw (a b:List Int) (j:Nat):Int:=Lin.dot (a.take j) (b.take j)
def Hk:∀ (a b:List Int) (x y:Int),a.length=b.length->Lin.dot (a++[x]) (b++[y])=Lin.dot a b+x*y
 | [],[],x,y,_=>by simp [Lin.dot]
 | [],_ :: _,x,y,h=>by simp at h
 | _ :: _,[],x,y,h=>by simp at h
 | u :: a,v :: b,x,y,h=>by
  have:=Hk a b x y (by simpa using h)
  simp only [YQ,Lin.dot,this];omega
def yv {a b:List Int} {j:Nat} (ha:j<a.length) (hb:j<b.length):yw a b (j+1)=yw a b j+a[j]*b[j]:=by
 unfold yw;rw [BU ha,BU hb,Hk _ _ _ _ (by simp; omega)]
def Hl {a b:List Int} (h:a.length=b.length):yw a b a.length=Lin.dot a b:=by
 unfold yw;rw [KO,h,KO]
def QL (C:Code tab) (hw:Wf H) {a b:AV} {x y:List Int} (ha:RowV H a x) (hb:RowV H b y) (O:x.length=y.length) (S:x.length<=64) (M:∀ z∈x,MuI z) (P:∀ z∈y,MuI z) (hp:∀ i (h:i<x.length) (h':i<y.length),dD (x[i]*y[i])) (U:∀ j,j<=x.length->dD (yw x y j)) :
  Ans tab (.fn V3 [a,b]) H fun v H'=>∃ r,v=.tup [r,.int .i64 0]/\IntV H' r (Lin.dot x y)/\Kp H H':=by
 have oa:=ha.one;have ob:=hb.one;refine bA C.q49 zU fun T hl c f=>?_;refine zW (aD hl c f) ?_;refine AnsH.eq (gI C (d:=x.length) zF (C2 ha hb (zG H) (by refine vH ?_; rfl)) (by simp) (by simp) S fun r hr=>?_) fun H2 J=>?_
 ·simp at hr; rcases hr with rfl | rfl
  ·exact ⟨rfl,fun z hz=>(M z hz).sm⟩
  ·exact ⟨O.symm,fun z hz=>(P z hz).sm⟩
 obtain ⟨k2,_,w2⟩:=zT H zK J;have b0:=J.get (b:=H.next) (e:=.cells [.bool false,.nilSl] aa true) (cC);refine zW (aO hl c f ha.lenV) ?_;refine aq H [] (fun j _ H'=>BoxI H' H.next (yw x y j)) (a:=0) (N:=x.length) rfl (by refine zW (aD hl c f) ?_; rfl) (zV (aD hl c f)) (xq _) zO (by simp only [dz,hl]; rfl) rfl (fun j vs H' m h=>h.mono (Sub.bump H' m)) zK ⟨.nilSl,by refine zW @b0 ?_; simp [yw,Lin.dot],by simpa [yw,Lin.dot] using eO _⟩ ?_ ?_
 ·rintro j T1 n _ hj k s l g ⟨q,hq0,p⟩;have w1:=g.wf;have ab:=g.le;have o:j<y.length:=zO;have af:ad T1 14=a:=(l.at_ 14 zU).trans (zV (aE hl c));have t4:ad T1 4=.ptr H.next 0:=(l.at_ 4 zU).trans (zV (aD hl c f))
  have t1:ad T1 1=b:=(l.at_ 1 zU).trans (zV (aO hl c f f));obtain ⟨w,hn,X,-,-⟩:=iZ (ha.mono g.sub) hj;have V:cS 2 a (.int .i64 (j:Int))=some (aB a (j*2)):=SlV.idx ha .i64 j hj;obtain ⟨u,Z,L,B⟩:=nG w1 (hb.mono g.sub) o;have ow:=hn.one;have aj:=w1 _ _ hq0;have A:=L.put;have t:=L.ld;have oq:=p.one;simp only [dz,hl] at k;refine zW (bB k af s V X) ?_;refine aF ?_;refine zD (fX k t4 t1 s hq0 B A t) ?_;refine AnsH.use (nt C zF ⟨w,rfl,hn.mono (zG n)⟩ ⟨u,rfl,Z.mono (zG n)⟩ (M _ (mQ hj)) (P _ (mQ o))) ?_;rintro v R ⟨Y,W⟩;obtain ⟨k13,_,_⟩:=zT n zK W;have G:Kp H R:=Kp.trans g k13;have ag:=G.le;have w3:=G.wf;have D:=k13.get hq0;refine zD (jU k t4 t1 s hq0 B A t D) ?_;refine AnsH.use (J2 C zF ⟨q,rfl,p.mono (zG n)⟩ Y (U j zO) (hp j hj o)) ?_;rintro v4 I ⟨⟨r,rfl,hr⟩,K⟩;have Q:Kp H I:=Kp.trans G K;have ah:=Q.le;have w4:=Q.wf;have am:=hr.one;have F:=K.get D;have al:=w4 _ _ F;have m0:NoTy [ae] I H.next:=NoTy.ty F zU
  refine zD (oK k t4 t1 s hq0 B A t D F) ?_;refine ⟨zK,r,?_,?_⟩
  ·rw [yv hj o]; exact cC
  ·rw [yv hj o]; exact SlV.monoT (E:=bU gg) zS hr
 ·rintro T1 n k l g ⟨q,hq0,p⟩;have w1:=g.wf;have ab:=g.le;have t4:ad T1 4=.ptr H.next 0:=(l.at_ 4 zU).trans (zV (aD hl c f))
  have t5:ad T1 5=.int .i64 0:=(l.at_ 5 zU).trans (zV (aD hl c f));simp only [dz,hl] at k;rw [Hl O] at hq0 p;refine zW (aO k t4 t5 hq0) ?_;exact ⟨_,rfl,⟨q,rfl,p⟩,zK⟩
end
def Ce {l:List Int} (h:∀ z∈l,dD z):Sm (Lin.content l):=by
 by_cases h0:Lin.content l=0
 ·rw [h0]; unfold Sm; rw [cR]; simp
 ·have b:∃ a∈l,a≠0:=Nw fun hn=>h0 (Lin.content_eq_zero.2 fun a ha=>Nw fun hne=>hn ⟨a,ha,hne⟩);obtain ⟨a,ha,hne⟩:=b;have hd:=Lin.content_dvd ha;have c:Lin.content l<=a.natAbs:=Nat.le_of_dvd zO (ZW.1 hd);exact Sm.mono c (h a ha)
def FE {l:List Int} {j:Nat} (hj:j<l.length):Lin.content (l.take (j+1))=Nat.gcd (Lin.content (l.take j)) (l[j]).natAbs:=by
 unfold Lin.content;rw [BU hj,ZL];rfl
section
variable {tab:Nat->Option aA} {H:Heap} {s:AV}
def FX (C:Code tab) (B:Wf H) {l:List Int} (hs:RowV H s l) (n:l.length<=64) (hz:∀ z∈l,dD z) :
  Ans tab (.fn oj [s]) H fun v H'=>∃ r,v=.tup [r,.int .i64 0]/\bO H' r (Lin.content l)/\Kp H H':=by
 have os:=hs.one;refine cT C.q168 zU fun T hl b=>?_;refine zW (aE hl b) ?_;refine AnsH.eq (gI C (d:=l.length) zF (Tu hs (zG H) (by refine vH ?_; rfl)) (by simp) (by simp) n fun r hr=>?_) fun H2 q=>?_
 ·simp at hr; subst hr; exact ⟨rfl,hz⟩
 obtain ⟨k2,_,F⟩:=zT H zK q;refine zW (aD hl b hs.lenV) ?_;refine aq H [2] (fun j vs H'=>∃ c,vs=[c]/\bO H' c (Lin.content (l.take j))) (a:=0) (N:=l.length) rfl (by refine zW (aE hl b) ?_; rfl) (zV (aE hl b)) (xq _) zO (by simp only [dz,hl]; rfl) rfl (fun j vs H' m ⟨c,h1,h2⟩=>⟨c,h1,h2.mono (Sub.bump H' m)⟩) zK ⟨.nilSl,by exact zV (aE hl b),by simpa [Lin.content] using eO _⟩ ?_ ?_
 ·rintro j T1 i _ hj f o k e ⟨c,g,hc⟩;have w1:=e.wf;have x:=e.le;simp only [uz,B3,Ae,and_true] at g;have y:ad T1 11=s:=(k.at_ 11 zU).trans (zV (aE hl b));obtain ⟨w,hn,u,-,-⟩:=iZ (hs.mono e.sub) hj;have p:cS 2 s (.int .i64 (j:Int))=some (aB s (j*2)):=SlV.idx hs .i64 j hj;have E:=hn.one;simp only [dz,hl] at f;refine zW (dj f y o p u g) ?_;refine AnsH.use (RC C zF (hc.mono (zG i)) (hn.mono (zG i)) (Ce fun z h=>hz z (YS h)) (hz _ (mQ hj))) ?_;rintro v A ⟨r,rfl,hr,t⟩;obtain ⟨D,_,w3⟩:=zT H zK t;refine zW f ?_;refine ⟨zK,_,rfl,?_⟩;rw [FE hj];exact hr
 ·rintro T1 i f k e ⟨c,g,hc⟩;have w1:=e.wf;have x:=e.le;simp only [uz,B3,Ae,and_true] at g;have t3:ad T1 3=.int .i64 0:=(k.at_ 3 zU).trans (zV (aE hl b));simp only [dz,hl] at f;rw [KO] at hc;refine zW (aD f g t3) ?_;exact ⟨_,rfl,hc,zK⟩
def yP (C:Code tab) (h:Wf H) {i:Int} {a:AV} {x:Int} (ha:IntV H a x) (hx:dD x) :
  Ans tab (.fn oi [.int .i64 i,a]) H fun v H'=>IntV H' v x/\Kp H H':=by
 obtain ⟨p,rfl,hp⟩:=ha;have op:=hp.one;refine bA C.q155 zU fun T hl c d=>?_;refine zW (aD hl c d) ?_;refine aF ?_;refine zD (aD hl c d) ?_;refine AnsH.use (ie C zF (hp.mono (zG H)) (by unfold dD Sm at hx; omega)) ?_;rintro v H2 ⟨hr,f⟩;obtain ⟨k2,_,g⟩:=zT H zK f;have l:=hr.one;have b0:=f.get (b:=H.next) (e:=.cells [.bool (decide (x<0)),p] aa true) (cC);have d1:=f.get (b:=H.next+1) (e:=.cells [.bool false,.nilSl] aa true) (cC);have j:=g _ _ d1;have k:NoTy [ae] H2 (H.next+1):=NoTy.ty d1 zU;refine zD (bB hl c d @b0 d1) ?_;exact ⟨⟨v,rfl,SlV.monoT (E:=bU gg) zS hr⟩,zK⟩
def AL (C:Code tab) (g:Wf H) {l:List Int} (hs:RowV H s l) (b:l.length<1099511627776) (hz:∀ z∈l,dD z) :
  Ans tab (.fn pN [s]) H fun v H'=>RowV H' v l/\Kp H H':=by
 refine cT C.q129 zU fun T hl a=>?_;refine zW (aE hl a) ?_;refine AnsH.use (AK C zF (hs.mono (zG H)) b (fun _ z=>z) fun i hi H' w c f=>yP C c.wf f (hz _ (mQ hi))) ?_;rintro v H2 ⟨hr,d⟩;obtain ⟨k2,_,_⟩:=zT H zK d;have e:l.mapIdx (fun _ z=>z)=l:=by apply YE <;> simp
 rw [e] at hr;refine zW (aE hl a) ?_;exact ⟨hr,zK⟩
def Ey (C:Code tab) (j:Wf H) {i:Int} {a q:AV} {b n:Nat} {x:Int} (ha:IntV H a x) (hb:H.get b=some (.cells [q] aK true)) (h:bO H q n) (h0:n≠0) (hd:(n:Int) ∣ x) (hx:dD x) (hn:Sm n) :
  Ans tab (.fn mM [.int .i64 i,a,.ptr b 0]) H fun v H'=>IntV H' v (x / n)/\Kp H H':=by
 obtain ⟨p,rfl,hp⟩:=ha;have op:=hp.one;have m:=h.one;have o:=j _ _ hb;refine lC C.q169 zU fun T hl d f g=>?_;have l:cE [.bool false,.nilSl] [((1,1),q)]=some (.agg [.bool false,q]):=RM m;refine zW (dj hl d f g hb l) ?_;refine AnsH.use (FV C (y:=(n:Int)) zF ⟨p,rfl,hp.mono (zG H)⟩ ⟨q,by rw [decide_eq_false zO],by simpa using h.mono (zG H)⟩ hx (by unfold dD; simpa using hn) zO ?_) ?_
 ·rw [Y7]; exact Nat.mod_eq_zero_of_dvd (ZW.1 hd)
 rintro v H2 ⟨r,rfl,⟨w,rfl,hr⟩,c⟩;rw [Int.tdiv_eq_ediv_of_dvd hd] at hr ⊢;obtain ⟨k2,_,A⟩:=zT H zK c;have z:=hr.one;have u:H.next+12<=H2.next:=c.le
 have d1:=c.get (b:=H.next+1) (e:=.cells [.bool false,.nilSl] aa true) (cC);have k:H2.get (H.next+9)=none:=c.free (show _<H.next+12 by omega) (by rw [au zO,au zO]; exact j.fresh (b:=H.next+9) zO);have s:NoTy [ae] H2 (H.next+1):=NoTy.ty d1 zU;have t:NoTy [ae] H2 (H.next+9):=NoTy.none k;refine zW (bB hl d f g d1) ?_;exact ⟨⟨w,rfl,SlV.monoT (E:=bU gg) zS hr⟩,zK⟩
def xG (C:Code tab) (p:Wf H) {l:List Int} (hs:RowV H s l) (j:l.length<=64) (hz:∀ z∈l,dD z) :
  Ans tab (.fn rB [s]) H fun v H'=>∃ r,v=.tup [r,.int .i64 0]/\RowV H' r (Lin.prime l)/\Kp H H':=by
 refine cT C.q151 zU fun T hl a=>?_;refine zW (aE hl a) ?_;refine AnsH.use (FX C zF (hs.mono (zG H)) j hz) ?_;rintro v H2 ⟨c,rfl,hc,f⟩;obtain ⟨k2,_,D⟩:=zT H zK f;have B:=hc.one;have A:H.next+10<=H2.next:=f.le
 have g:H2.get (H.next+7)=none:=f.free (show _<H.next+10 by omega) (p.fresh (b:=H.next+7) zO);have u:=bN (Lin.content l);refine zW (aD hl a hc.lenV) ?_;refine iteH.split (fun h=>?_) fun h=>?_
 ·have h0:Lin.content l=0:=zO;refine zW (aE hl a) ?_;refine AnsH.use (AL C zF (hs.mono (zG H)) zO hz) ?_;rintro v q ⟨hr,k⟩;obtain ⟨x,_,_⟩:=zT H zK k;refine zW (aE hl a) ?_;refine ⟨_,rfl,?_,zK⟩;unfold Lin.prime;rw [if_pos h0];exact hr
 ·have h0:Lin.content l≠0:=zO;refine zW (aE hl a) ?_;have s2:∀ m,Sub H2 (((H2.up m).put (H.next+7) (.cells [.nilSl] aK true)).put (H.next+7) (.cells [c] aK true)):=fun m=>(Sub.bump H2 m).trans ((aG (H:=H2.up m) g).put g _);refine AnsH.use (AK C zF (hs.mono (zG H)) zO (fun _ z=>z / (Lin.content l:Int)) fun i hi H' w d o=>?_) ?_
  ·exact Ey C d.wf o (d.get (b:=H.next+7) (cC)) ((hc.mono (s2 _)).mono d.sub) h0 (Lin.content_dvd (mQ hi)) (hz _ (mQ hi)) (Ce hz)
  ·rintro v t ⟨hr,n⟩;obtain ⟨y,_,_⟩:=zT H zK n;have e:l.mapIdx (fun _ z=>z / (Lin.content l:Int))=Lin.prime l:=by
    unfold Lin.prime;rw [if_neg h0]
    apply YE <;> simp
   rw [e] at hr;refine zW (aE hl a) ?_;exact ⟨_,rfl,hr,zK⟩
def C7 (c:Int->Int->Int):List Int->List Int->Int
 | x :: l,y :: m=>if c x y=0 then C7 c l m else c x y
 | _,_=>0
def Hy {c:Int->Int->Int}:∀ {l m:List Int} {j:Nat} (hj:j<l.length) (a:j<m.length),(∀ k (h:k<l.length) (h':k<m.length),k<j->c l[k] m[k]=0)->c l[j] m[j]≠0->C7 c l m=c l[j] m[j]
 | [],m,j,hj,_,_,_=>by simp at hj
 | _ :: _,[],j,_,a,_,_=>by simp at a
 | x :: l,y :: m,0,_,_,_,h1=>by
  have b:¬ c x y=0:=h1;show (if c x y=0 then C7 c l m else c x y)=_;rw [if_neg b]; rfl
 | x :: l,y :: m,j+1,hj,a,h0,h1=>by
  have b:c x y=0:=h0 0 (by simp) (by simp) zO;show (if c x y=0 then C7 c l m else c x y)=_;rw [if_pos b];exact Hy (by simpa using hj) (by simpa using a) (fun k h h' d=>h0 (k+1) (by simpa using h) (by simpa using h') zO) h1
def DT {c:Int->Int->Int}:∀ {l m:List Int},(∀ k (h:k<l.length) (h':k<m.length),c l[k] m[k]=0)->C7 c l m=0
 | [],m,_=>by cases m <;> rfl
 | _ :: _,[],_=>rfl
 | x :: l,y :: m,h0=>by
  have a:c x y=0:=h0 0 (by simp) (by simp);show (if c x y=0 then C7 c l m else c x y)=_;rw [if_pos a];exact DT fun k h h'=>h0 (k+1) (by simpa using h) (by simpa using h')
def Ao (C:Code tab) (Q:Wf H) {fi:Nat} {first caps:List AV} {a b:AV} {l m:List Int} (ha:RowV H a l) (hb:RowV H b m) (J:l.length=m.length) (O:l.length<1099511627776) (c:Int->Int->Int)
  (B:∀ i (h:i<l.length) (h':i<m.length) H' u v,Kp H H'->IntV H' u l[i]->IntV H' v m[i]->Ans tab (.fn fi (first++[u,v]++caps)) H' fun r H2=>r=.int .i64 (c l[i] m[i])/\Kp H' H2) :
  Ans tab (.fn bg [a,b,.fn (.func fi) first caps]) H fun r H'=>r=.int .i64 (C7 c l m)/\Kp H H':=by
 refine lC C.q156 zU fun T hl d f g=>?_;refine zW (bB hl d f g ha.lenV) ?_;refine aq H [] (fun j _ _=>∀ k (h:k<l.length) (h':k<m.length),k<j->c l[k] m[k]=0) (a:=0) (N:=l.length) rfl (by refine zW (aO hl d f g) ?_; rfl) (zV (aO hl d f g)) (xq _) zO (by simp only [dz,hl]; rfl) rfl (fun _ _ _ _ h=>h) zK (fun k _ _ h=>by omega) ?_ ?_
 ·intro j T1 s _ hj n D o p q;have w1:=p.wf;have R:=p.le;have t:j<m.length:=zO;have K:ad T1 11=a:=(o.at_ 11 zU).trans (zV (aE hl d));have t1:ad T1 1=b:=(o.at_ 1 zU).trans (zV (bB hl d f g f));have M:ad T1 2=.fn (.func fi) first caps:=(o.at_ 2 zU).trans (zV (bB hl d f g g))
  obtain ⟨w,hn,I,-,-⟩:=iZ (ha.mono p.sub) hj;have E:cS 2 a (.int .i64 (j:Int))=some (aB a (j*2)):=SlV.idx ha .i64 j hj;obtain ⟨u,x,L,F⟩:=nG w1 (hb.mono p.sub) t;have U:=hn.one;have S:=x.one;have z:=L.put;have y:=L.ld;have hge:¬ m.length<=j:=zO;simp only [dz,hl] at n;refine zW (qQ n K t1 M D E I hb.lenV hge F z y) ?_;refine AnsH.eq (B j hj t _ (.agg [.bool (decide (l[j]<0)),w]) (.agg [.bool (decide (m[j]<0)),u]) zK ⟨w,rfl,hn.mono (zG s)⟩ ⟨u,rfl,x.mono (zG s)⟩) fun H2 G=>?_;obtain ⟨k2,_,_⟩:=zT H zK G;by_cases hz:c l[j] m[j]=0
  ·refine zW (aE n hz) ?_;refine ⟨zK,fun k h h' P=>?_⟩;by_cases e:k=j
   ·subst e; exact hz
   ·exact q k h h' zO
  ·refine zW (aE n hz) ?_;exact ⟨by rw [Hy hj t q hz],zK⟩
 ·intro T1 s n o p q;have t0:ad T1 0=a:=(o.at_ 0 zU).trans (zV (aE hl d));have t1:ad T1 1=b:=(o.at_ 1 zU).trans (zV (bB hl d f g f));have A:lenV a=some (.int .i64 (m.length:Int)):=by rw [ha.lenV,J]
  simp only [dz,hl] at n;refine zW (bB n t0 t1 A hb.lenV) ?_;exact ⟨by rw [DT fun k h h'=>q k h h' h],zK⟩
def Iq (C:Code tab) (g:Wf H) {a b:AV} {x y:Int} (ha:IntV H a x) (hb:IntV H b y) (hx:dD x) (hy:dD y) :
  Ans tab (.fn pP [a,b]) H fun v H'=>v=.int .i64 (gJ (x-y))/\Kp H H':=by
 obtain ⟨p,rfl,hp⟩:=ha;obtain ⟨q,rfl,e⟩:=hb;have op:=hp.one;have h:=e.one;refine bA C.q157 zU fun T hl c d=>?_;refine zW (aD hl c d) ?_;refine AnsH.eq (xE C zF ⟨p,rfl,hp.mono (zG H)⟩ ⟨q,rfl,e.mono (zG H)⟩ hx hy) fun H2 f=>?_;obtain ⟨k2,_,_⟩:=zT H zK f;refine zW (aD hl c d) ?_;exact zK
def FH (l m:List Int):Int:=C7 (fun x y=>gJ (x-y)) l m
def QM (C:Code tab) (w:Wf H) {a b:AV} {l m:List Int} (ha:RowV H a l) (hb:RowV H b m) (g:l.length=m.length) (k:l.length<=64) (f:∀ z∈l,dD z) (j:∀ z∈m,dD z) :
  Ans tab (.fn xV [a,b]) H fun v H'=>v=.tup [.int .i64 (FH l m),.int .i64 0]/\Kp H H':=by
 have B:=ha.one;have D:=hb.one;refine bA C.q130 zU fun T hl c e=>?_;refine zW (aD hl c e) ?_;refine AnsH.eq (gI C (d:=l.length) zF (C2 ha hb (zG H) (by refine vH ?_; rfl)) (by simp) (by simp) k fun r hr=>?_) fun H2 o=>?_
 ·simp at hr; rcases hr with rfl | rfl
  ·exact ⟨rfl,f⟩
  ·exact ⟨g.symm,j⟩
 obtain ⟨k2,_,E⟩:=zT H zK o;refine zW (aD hl c e) ?_;refine AnsH.eq (Ao C zF (ha.mono (zG H)) (hb.mono (zG H)) g zO (fun x y=>gJ (x-y)) fun i h h' H' u v n q s=>Iq C n.wf q s (f _ (mQ h)) (j _ (mQ h'))) fun t p=>?_;obtain ⟨A,_,_⟩:=zT H zK p;refine zW (aD hl c e) ?_;exact ⟨rfl,zK⟩
end
abbrev P4 (H:Heap) (v:AV) (ls:List (List (Bool × List Nat))):Prop:=AD (tT rawE aa) af H v ls
def yE (r:List (Bool × List Nat)):Bool:=!tW r || decide (r.length=0)
def cL (ls:List (List (Bool × List Nat))):Int :=
 if 1024<ls.length then 4 else if ls.any yE then 8 else if ls.any (fun r=>decide (r.length≠(ls.headD []).length)) then 70 else 0
def Dq {ls:List (List (Bool × List Nat))} (h0:ls.length<=1024) {j:Nat} (hj:j<ls.length) (h:yE ls[j]=true):cL ls=8:=by
 have:ls.any yE=true:=OL.2 ⟨_,mQ hj,h⟩
 unfold cL;rw [if_neg zO,if_pos this]
def IG {ls:List (List (Bool × List Nat))} (h0:ls.length<=1024) (hb:∀ k (h:k<ls.length),yE ls[k]=false) {j:Nat} (hj:j<ls.length) (h:ls[j].length≠(ls[0]'zO).length):cL ls=70:=by
 have h1:¬ ls.any yE=true:=by
  rw [OL]; rintro ⟨r,hr,b⟩;obtain ⟨k,c,rfl⟩:=U0 hr;rw [hb k c] at b; cases b
 have e:ls.headD []=ls[0]'zO:=by cases ls with | nil=>simp at hj | cons a l=>rfl
 have h2:ls.any (fun r=>decide (r.length≠(ls.headD []).length))=true:=OL.2 ⟨_,mQ hj,by rw [e]; simpa using h⟩;unfold cL;rw [if_neg zO,if_neg h1,if_pos h2]
def xP {ls:List (List (Bool × List Nat))} (h0:ls.length<=1024) (hb:∀ k (h:k<ls.length),yE ls[k]=false) (hl:∀ k (h:k<ls.length),ls[k].length=(ls[0]'zO).length):cL ls=0:=by
 have h1:¬ ls.any yE=true:=by
  rw [OL]; rintro ⟨r,hr,b⟩;obtain ⟨k,c,rfl⟩:=U0 hr;rw [hb k c] at b; cases b
 have h2:¬ ls.any (fun r=>decide (r.length≠(ls.headD []).length))=true:=by
  rw [OL]; rintro ⟨r,hr,b⟩;obtain ⟨k,c,rfl⟩:=U0 hr;have e:ls.headD []=ls[0]'zO:=by cases ls with | nil=>simp at c | cons a l=>rfl
  rw [e,hl k c] at b;simp at b
 unfold cL;rw [if_neg zO,if_neg h1,if_neg h2]
section
variable {tab:Nat->Option aA} {H:Heap} {s:AV}
def Bu {ty:Nat} {ls:List (List (Bool × List Nat))} (hs:AD (tT rawE aa) ty H s ls) {i:Nat} (hi:i<ls.length):∃ w,SlV rawE aa H w ls[i]/\bk H none (aB s i)=some w:=SlV.at1 hs (eA hi)
def uI (C:Code tab) (K:Wf H) {ls:List (List (Bool × List Nat))} (hs:P4 H s ls) (J:ls.length<4611686018427387904) (hb:∀ r∈ls,nr r) :
  Ans tab (.fn lV [s]) H fun v H'=>v=.int .i64 (cL ls)/\Kp H H':=by
 refine cT C.q123 zU fun T hl d=>?_;by_cases h0:1024<ls.length
 ·have e:(1024:Int)<(ls.length:Int):=zO;refine zW (aO hl d hs.lenV e) ?_;exact ⟨by unfold cL; rw [if_pos h0],zK⟩
 ·have e:¬ (1024:Int)<(ls.length:Int):=zO;have i:ls.length<=1024:=zO;refine zW (aO hl d hs.lenV e) ?_;refine aq H [] (fun j _ _=>∀ k (h:k<ls.length),k<j->yE ls[k]=false) (a:=0) (N:=ls.length) rfl (by refine zW (aE hl d) ?_; rfl) (zV (aE hl d)) (xq _) zO (by simp only [dz,hl]; rfl) rfl (fun _ _ _ _ h=>h) zK (fun k _ h=>by omega) ?_ ?_
  ·intro j T1 x _ hj b E t f m;have w1:=f.wf;have G:=f.le;have I:ad T1 10=s:=(t.at_ 10 zU).trans (zV (aE hl d));obtain ⟨w,hr,o⟩:=Bu (hs.mono f.sub) hj;have n:=SlV.idx1 hs .i64 j hj;simp only [dz,hl] at b;refine zW (bB b I E n o) ?_;refine AnsH.eq (mj C zF (hr.mono (zG x)) (hb _ (mQ hj))) fun H2 c=>?_;obtain ⟨k2,_,_⟩:=zT H zK c;cases q:tW ls[j] with
   | false =>
    refine zW b ?_;exact ⟨by rw [Dq i hj (by simp [yE,q])],zK⟩
   | true =>
    refine zW (aE b hr.lenV) ?_;refine iteH.split (fun hz=>?_) fun hz=>?_
    ·refine zW b ?_;exact ⟨by rw [Dq i hj (by unfold yE; rw [q,decide_eq_true zO]; rfl)],zK⟩
    ·refine zW b ?_;refine ⟨zK,fun k h F=>?_⟩;by_cases ek:k=j
     ·subst ek; unfold yE; rw [q,decide_eq_false zO]; rfl
     ·exact m k h zO
  ·intro T1 x b t f m;have w1:=f.wf;have G:=f.le;have t0:ad T1 0=s:=(t.at_ 0 zU).trans (zV (aE hl d));simp only [dz,hl] at b;refine zW (aD b t0 hs.lenV) ?_;refine aq H [] (fun j _ _=>∀ k (h:k<ls.length),k<j->ls[k].length=(ls[0]'zO).length) (a:=0) (N:=ls.length) rfl (by refine zW b ?_; rfl) (zV b) (xq _) zO (by simp only [dz,b]; rfl) rfl (fun _ _ _ _ h=>h) zK (fun k _ h=>by omega) ?_ ?_
   ·intro j T2 H2 _ hj g y u c p;have M:=c.wf;have L:=c.le;have l:0<ls.length:=zO;have t25:ad T2 25=s:=(u.at_ 25 zU).trans (zV (aE b t0));have D:ad T2 0=s:=(u.at_ 0 zU).trans (zV (aE b t0));obtain ⟨w,hr,o⟩:=Bu (hs.mono c.sub) hj;obtain ⟨w0,B,A⟩:=Bu (hs.mono c.sub) l;have n:=SlV.idx1 hs .i64 j hj;have z:cS 1 s (.int .i64 0)=some (aB s 0):=SlV.idx1 hs .i64 0 l;simp only [dz,b] at g;by_cases he:ls[j].length=(ls[0]'l).length
    ·have l2:lenV w=some (.int .i64 ((ls[0]'l).length:Int)):=by rw [hr.lenV,he]
     refine zW (oK g t25 D y n o z A l2 B.lenV) ?_;refine ⟨zK,fun k h F=>?_⟩;by_cases ek:k=j
     ·subst ek; exact he
     ·exact p k h zO
    ·refine zW (ia g t25 D y n o z A hr.lenV B.lenV he) ?_;exact ⟨by rw [IG i (fun k h=>m k h h) hj he],zK⟩
   ·intro T2 H2 g u c p;simp only [dz,b] at g;refine zW g ?_;exact ⟨by rw [xP i (fun k h=>m k h h) fun k h=>p k h h],zK⟩
def Bn {ty:Nat} {ls:List (List Int)} (hs:AD (tT intE aa) ty H s ls):AD (tT rawE aa) ty H s (ls.map fun r=>r.map bF):=by
 obtain ⟨cells,hr,b,hc,ha⟩:=hs;refine ⟨cells,hr,b,by rw [hc,rR]; rfl,fun i a hi=>?_⟩;rw [XA] at hi;cases hz:ls[i]? with
 | none=>rw [hz] at hi; cases hi
 | some z =>
  rw [hz] at hi; cases hi;obtain ⟨w,h1,h2⟩:=ha i z hz;exact ⟨w,h1,SlV.raw h2⟩
def vW {r:List Int} (b:r.length<=64) (hz:∀ z∈r,dD z):nr (r.map bF):=by
 refine ⟨by rw [rR]; omega,fun z h=>?_⟩;rw [nC] at h;obtain ⟨a,ha,rfl⟩:=h
 have:=hz a ha
 unfold dD Sm at this;show (ah a.natAbs).length<_;omega
def ES {r:List Int} (a:r.length<=64):tW (r.map bF)=true:=by
 simp only [tW,rR,List.any_map,Ky,decide_eq_true_eq,XE,XW];exact ⟨a,fun z _=>by simp [xx]⟩
structure yJ (d:Nat) (ls:List (List Int)):Prop where
 pos:0<d
 le:d<=64
 len:∀ r∈ls,r.length=d
 sm:∀ r∈ls,∀ z∈r,dD z
def kJ (C:Code tab) (g:Wf H) {d:Nat} {ls:List (List Int)} {ty:Nat} (hs:pb H s ls) (f:ls.length<=1024) (b:yJ d ls) :
  Ans tab (.fn lV [s]) H fun v H'=>v=.int .i64 0/\Kp H H':=by
 have h:=uI C g (Bn hs) (by rw [rR]; omega) fun r hr=>by
  rw [nC] at hr;obtain ⟨a,ha,rfl⟩:=hr;exact vW (by rw [b.len a ha]; exact b.le) (b.sm a ha)
 have e:cL (ls.map fun r=>r.map bF)=0:=by
  refine xP (by rw [rR]; exact f) (fun k c=>?_) fun k c=>?_
  ·rw [rR] at c;have hm:=mQ c;simp only [ZA];unfold yE;rw [ES (by rw [b.len _ hm]; exact b.le),decide_eq_false (by rw [rR,b.len _ hm]; have:=b.pos; omega)];rfl
  ·rw [rR] at c;simp only [ZA,rR];rw [b.len _ (mQ c),b.len _ (mQ zO)]
 rw [e] at h;exact h
def Gj (C:Code tab) (j:Wf H) {a b:Nat}:Ans tab (.fn ot [.int .i64 (a:Int),.int .i64 (b:Int)]) H fun v H'=>v=.bool (Lin.before a b)/\Kp H H':=by
 refine bA C.q166 zU fun T hl c d=>?_;by_cases h1:a=b
 ·subst h1;refine zW (aD hl c d) ?_;exact ⟨by simp [Lin.before],zK⟩
 ·have e:¬ (a:Int)=(b:Int):=zO;by_cases h2:a=0
  ·have g:(a:Int)=0:=zO;have h4:¬ (0:Int)=(b:Int):=zO;have h5:¬ 0=b:=zO;refine zW (fX hl c d e h1 g h4 h5) ?_;exact ⟨by simp [Lin.before,h2],zK⟩
  ·have f:¬ (a:Int)=0:=zO;by_cases h3:b=0
   ·have i:(b:Int)=0:=zO;refine zW (fX hl c d e f i h1 h2) ?_;exact ⟨by simp [Lin.before,h2,h3],zK⟩
   ·have h:¬ (b:Int)=0:=zO;refine zW (jU hl c d e f h h1 h2 h3) ?_;exact ⟨by unfold Lin.before; rw [show (a != b)=true from by simpa using h1,show (a != 0)=true from by simpa using h2,show (b == 0)=false from by simpa using h3]; rfl,zK⟩
def Gi (C:Code tab) (b:Wf H) {d:Nat} :
  Ans tab (.fn ol [.int .i64 (d:Int)]) H fun v H'=>v=.fn (.func fh) [] [.ptr H.next 0]/\H'.get H.next=some (.cells [.int .i64 (d:Int)] d9 true)/\H.next+1<=H'.next/\Kp H H':=by
 refine cT C.q170 zU fun T hl a=>?_;refine zW (aE hl a) ?_;exact ⟨zO,zK⟩
def Ma {d k:Nat} (a:k+1<d):(Lin.places d)[k]? = some (k+1):=by
 unfold Lin.places;rw [Ni (by simp; omega),List.getElem?_range' zO];congr 1; omega
def Gt {d:Nat} (hd:0<d):(Lin.places d)[d-1]? = some 0:=by
 unfold Lin.places;rw [Xy (by simp),if_neg zO]
 simp
def IV (C:Code tab) {H0:Heap} {t b d:Nat} (hd:d<1099511627776) (J:Nat->Heap->Prop) (R:Heap->Prop) (D:Kp H0 H) (h0:J 0 H) (j:∀ k H m,J k H->J k (H.up m)) (B:∀ H m,R H->R (H.up m))
  (hA:∀ k H,J k H->H.get b=some (.cells [.int .i64 (d:Int)] d9 true))
  (hr:∀ (k p:Nat) H,(Lin.places d)[k]? = some p->Kp H0 H->J k H->Ans tab (.round t [.int .i64 (p:Int)]) H fun v H'=>Kp H0 H'/\((v=.bool true/\J (k+1) H')\/(v=.bool false/\R H'))) :
  Ans tab (.ent fh [.loopv t,.ptr b 0]) H fun _ H'=>Kp H0 H'/\(J d H'\/R H'):=by
 refine TJ C.q175 zU fun T hl l n=>?_;refine zW (aD hl l n) ?_;refine cu H0 [3] (fun m vs H'=>∃ i:Nat,vs=[.int .i64 (i:Int)]/\1<=i/\i<=d+1/\(0<d->i<=d)/\(d=0->i=1)/\m=d+1-i/\J (i-1) H') d (by simp only [dz]; exact hl) rfl zK ⟨1,by refine zW (aD hl l n) ?_; rfl,o0 _,zO,fun h=>h,fun _=>rfl,zO,j _ _ _ h0⟩ ?_;rintro k T1 A a w u ⟨i,q,s,E,x,y,hm,o⟩;have w1:=u.wf;have F:=u.le;simp only [uz,B3,Ae,and_true] at q;have t0:ad T1 0=.loopv t:=(w.at_ 0 zU).trans (zV (aE hl l));have t1:ad T1 1=.ptr b 0:=(w.at_ 1 zU).trans (zV (aO hl l n n));have hb:=hA _ _ o;refine zW (bB a q t0 t1 hb) ?_;refine iteH.split (fun h=>?_) fun h=>?_
 ·have hi:i<d:=zO;have hp:(Lin.places d)[i-1]? = some i:=by have:=Ma (d:=d) (k:=i-1) zO; rwa [Nat.sub_add_cancel s] at this
  refine zW (aO a q t0 t1) ?_;refine AnsH.use (hr (i-1) i _ hp zK (j _ _ _ o)) ?_;rintro v H2 ⟨c,⟨rfl,f⟩ | ⟨rfl,r⟩⟩
  ·rw [Nat.sub_add_cancel s] at f;have e:IntKind.i64.wrap ((i:Int)+1)=((i+1:Nat):Int):=by rw [wrap_i64] <;> omega
   have z:=c.wf;have G:=c.le;refine zW (aD a q e) ?_;exact ⟨zK,d-i,zO,i+1,rfl,zO,zO,fun _=>hi,fun h=>by omega,zO,by simpa using j _ _ _ f⟩
  ·have z:=c.wf;refine zW a ?_;exact ⟨zK,.inr r⟩
 ·have hi:¬ i<d:=zO;refine zW (aO a t0 t1 hb) ?_;refine iteH.split (fun h=>?_) fun h=>?_
  ·have g:0<d:=zO;have e:i=d:=by have:=x g; omega
   subst e;refine zW (aE a t0) ?_;refine AnsH.use (hr (i-1) 0 _ (Gt g) zK (j _ _ _ o)) ?_;rintro v H2 ⟨c,⟨rfl,f⟩ | ⟨rfl,r⟩⟩
   ·rw [Nat.sub_add_cancel s] at f;refine zW a ?_;exact ⟨c,.inl f⟩
   ·refine zW a ?_;exact ⟨c,.inr r⟩
  ·have g:d=0:=zO;have e:=y g;subst e;refine zW a ?_;refine ⟨zK,.inl ?_⟩;rw [g];exact j _ _ _ o
theorem Ox (b:Nat) (T T':Tm) (ps:List Nat) (a body:ACode) (Q:AV->Heap->Prop) (H2:Heap):Td b T ps a body Q .ret T' H2=(H2.get b=some (.loop T ps a body .busy none)/\Q (.bool false) (H2.put b (.loop T ps a body .done (some .ret)))):=rfl
def KR {α:Type} {p:α->Bool}:∀ {l:List α} {k:Nat} {x:α},l[k]? = some x->(∀ i y,i<k->l[i]? = some y->p y=false)->p x=true->l.find? p=some x
 | [],k,x,h,_,_=>by simp at h
 | a :: l,0,x,h,_,hp=>by
  simp at h; subst h; simp [hp]
 | a :: l,k+1,x,h,h0,hp=>by
  rw [List.find?_cons_of_neg (by rw [h0 0 a zO rfl]; simp)];exact KR (by simpa using h) (fun i y hi hy=>h0 (i+1) y zO (by simpa using hy)) hp
end
def Tf (l:List Int):Int:=match Lin.pivot l with
 | some p=>(p:Int)
 | none=>-1
section
variable {tab:Nat->Option aA} {H:Heap} {s:AV}
def sC {l:List Int} {p:Nat} (hp:p<l.length):Lin.at_ l p=l[p]:=by simp [Lin.at_,hp]
def uH (C:Code tab) (L:Wf H) {l:List Int} (hs:RowV H s l) (O:l.length<=64):Ans tab (.fn pQ [s]) H fun v H'=>v=.int .i64 (Tf l)/\Kp H H':=by
 have os:=hs.one;refine cT C.q152 zU fun T hl c=>?_;refine zW (aD hl c hs.lenV) ?_;refine AnsH.use (Gi C zF) ?_;rintro v H2 ⟨rfl,b0,I,q⟩;obtain ⟨k2,_,W⟩:=zT H zK q;simp only [next_put,dg] at b0 I;have p0:=q.get (b:=H.next) (e:=.cells [s] af true) (cC);have p1:=q.get (b:=H.next+1) (e:=.cells [.int .i64 0] d9 true) (cC);refine zW (aE hl c) ?_;refine pJ (fi:=fh) (args:=[.loopv H2.next,.ptr (H.next+5) 0]) (by refine zW (aE hl c) ?_; rfl) ?_
 generalize he:Ent.loop _ _ _ _ LoopState.ready none=e0
 generalize hd:Ent.loop _ _ _ _ LoopState.done (some ACode.ret)=A
 have u:Kp H ((H2.up 1).put H2.next e0):=zK;have U:=u.le;refine (IV C (H0:=H) (d:=l.length) zO (fun k H'=>H'.get H2.next=some e0/\H'.get H.next=some (.cells [s] af true)/\H'.get (H.next+1)=some (.cells [.int .i64 0] d9 true)/\H'.get (H.next+5)=some (.cells [.int .i64 (l.length:Int)] d9 true)/\(∀ i y,i<k->(Lin.places l.length)[i]? = some y->Lin.at_ l y=0))
  (fun H'=>∃ p:Nat,Lin.pivot l=some p/\H'.get H2.next=some A/\H'.get (H.next+1)=some (.cells [.int .i64 (p:Int)] d9 true)) u ⟨by exact cC,by exact zV p0,by exact zV p1,by exact zV @b0,fun i y h=>by omega⟩ (fun _ _ _ h=>h) (fun _ _ h=>h) (fun k H' h=>h.2.2.2.1) ?_).mono ?_
 ·rintro k p N hp o ⟨a,m,f,t,n⟩;rw [<- he] at a;have w1:=o.wf;have S:=o.le;have hlt:=w1 _ _ a;have j:p<l.length:=Lin.mem_places.1 (Cv hp);obtain ⟨w,hn,P,Q,r⟩:=iZ hs j;have z:=(Ldd.of L r).put;have x:=bD o.sub r;have F:cS 2 s (.int .i64 (p:Int))=some (aB s (p*2)):=SlV.idx hs .i64 p j;have D:CT 1 (aB s (p*2))=some (aB s (p*2+1)):=SlV.fa hs zO 1 (p*2);have G:=bN (l[p]).natAbs;refine qB a rfl ?_;refine zW (oK hl c a m f F D z x hn.lenV) ?_;refine iteH.split (fun h=>?_) fun h=>?_
  ·have K:Lin.pivot l=some p:=by
    refine KR hp (fun i y hi hy=>by simp [n i y hi hy]) ?_;rw [sC j]; simp; omega
   refine zW (dj hl c a m f @Ox) ?_
   generalize Ent.loop _ _ _ _ LoopState.busy none=B
   rw [hd];exact ⟨zK,.inr ⟨p,K,by exact cC,by exact cC⟩⟩
  ·have hz:Lin.at_ l p=0:=by rw [sC j]; omega
   refine zW (dj hl c a m f @vS) ?_
   generalize Ent.loop _ _ _ _ LoopState.busy none=B
   rw [he];refine ⟨zK,.inl ⟨rfl,t,fun i y hi hy=>?_⟩⟩;by_cases e:i=k
   ·subst e;rw [hp] at hy; cases hy; exact hz
   ·exact n i y zO hy
 ·rintro _ H' ⟨g,⟨a,m,f,t,n⟩ | ⟨p,hp,a,f⟩⟩
  ·refine .inl ⟨a,?_⟩;have w1:=g.wf;have M:=g.le;have V:=w1 _ _ f;have R:Kp H (H'.up 1):=g.up 1;refine zW (aD hl c f) ?_;have J:Lin.pivot l=none:=by
    unfold Lin.pivot;rw [List.find?_eq_none];intro y hy;obtain ⟨i,hi⟩:=RB hy;have G:(Lin.places l.length).length=l.length:=by
     unfold Lin.places;rw [C5,List.length_range'];split <;> simp <;> omega
    have E:i<l.length:=by have:=(B4.1 hi).1; omega
    simp [n i y E hi]
   exact ⟨by unfold Tf; rw [J],zK⟩
  ·refine .inr (.inl ⟨a,?_⟩);have w1:=g.wf;have M:=g.le;refine zW (aD hl c f) ?_;exact ⟨by unfold Tf; rw [hp],zK⟩
def Jb {m n:Int} {e f g h:Nat} {x y:List Int} (hm:Bt g m) (hn:Bt h n) (hx:∀ z∈x,Bt e z) (hy:∀ z∈y,Bt f z):∀ z∈Lin.mix m x n y,Bt (max (g+e) (h+f)+1) z:=by
 intro z hz;unfold Lin.mix at hz;rw [List.mem_iff_getElem] at hz;obtain ⟨i,hi,rfl⟩:=hz;have h1:i<x.length:=by simp at hi; omega
 have h2:i<y.length:=by simp at hi; omega
 rw [List.getElem_zipWith];exact Bt.add (hm.mul (hx _ (mQ h1))) (hn.mul (hy _ (mQ h2)))
def Gs {e:Nat} {x:List Int} (hx:∀ z∈x,Bt e z):∀ z∈Lin.prime x,Bt e z:=by
 intro z hz;unfold Lin.prime at hz;split at hz
 ·exact hx z hz
 ·rw [nC] at hz;obtain ⟨a,ha,rfl⟩:=hz;have h:=hx a ha;unfold Bt at *;refine XK ?_ h;rw [Int.natAbs_ediv_of_dvd (Lin.content_dvd ha)];exact Zf _ _
def ID {e:Nat} {x:List Int} (hx:∀ z∈x,Bt e z):∀ z∈Lin.scl (-1) x,Bt e z:=by
 intro z hz;unfold Lin.scl at hz;rw [nC] at hz;obtain ⟨a,ha,rfl⟩:=hz
 have:=(hx a ha).neg
 rwa [show -a = -1*a by omega] at this
def R7 {e f p:Nat} {a u:List Int} (ha:∀ z∈a,Bt e z) (c:∀ z∈u,Bt f z):∀ z∈Lin.wo a u p,Bt (e+f+1) z:=by
 intro z hz;unfold Lin.wo at hz;split at hz
 ·exact (ha z hz).mono zO
 ·have hm:Bt f (Lin.at_ u p):=by
   unfold Lin.at_; rw [iF];cases h:u[p]? with
   | none=>exact Bt.zero f
   | some b=>exact c b (Cv h)
  have hn:Bt e (-(Lin.at_ a p)):=by
   refine Bt.neg ?_;unfold Lin.at_; rw [iF];cases h:a[p]? with
   | none=>exact Bt.zero e
   | some b=>exact ha b (Cv h)
  exact (Gs (Jb hm hn ha c) z hz).mono zO
def vQ (C:Code tab) (D:Wf H) {va I:AV} {x u:List Int} {p e f:Nat} (ha:RowV H va x) (hb:RowV H I u) (E:x.length=u.length) (t:x.length<=64) (hp:p<x.length) (hx:∀ z∈x,Bt e z) (g:∀ z∈u,Bt f z) (he:e+f+1<=8796093022208) :
  Ans tab (.fn mO [va,I,.int .i64 (p:Int)]) H fun v H'=>RowV H' v (Lin.wo x u p)/\Kp H H':=by
 refine lC C.q153 zU fun T hl a c d=>?_;have j:p<u.length:=zO;obtain ⟨w,hn,Q,-,M⟩:=iZ ha hp;have A:cS 2 va (.int .i64 (p:Int))=some (aB va (p*2)):=SlV.idx ha .i64 p hp;have N:CT 1 (aB va (p*2))=some (aB va (p*2+1)):=SlV.fa ha zO 1 (p*2);have W:=bN (x[p]).natAbs;refine zW (fX hl a c d A N M hn.lenV) ?_;refine iteH.split (fun h=>?_) fun h=>?_
 ·have hz:Lin.at_ x p=0:=by rw [sC hp]; omega
  refine zW (aE hl a) ?_;refine ⟨?_,zK⟩;unfold Lin.wo;rw [if_pos hz];exact ha.mono (zG H)
 ·have hz:¬ Lin.at_ x p=0:=by rw [sC hp]; omega
  refine zW (dj hl a c d A Q) ?_;refine AnsH.use (Di C zF ⟨w,rfl,hn.mono (zG H)⟩ ((hx _ (mQ hp)).sm zO)) ?_;rintro v H2 ⟨r,rfl,hr,i⟩;obtain ⟨k2,_,w2⟩:=zT H zK i;obtain ⟨G,rfl,B⟩:=hr;have Z:=B.one;obtain ⟨V,R,L,y⟩:=nG D hb j;have q:=L.put;have o:=(L.mono k2).ld;have Y:H.next+19<=H2.next:=i.le
  have s:H2.get (H.next+16)=none:=i.free (show _<H.next+19 by omega) (D.fresh (b:=H.next+16) zO);have s2:∀ m,Sub H2 (((H2.up m).put (H.next+16) (.cells [.bool false,.nilSl] aa true)).put (H.next+16) (.cells [.bool (decide (-x[p]<0)),G] aa true)):=fun m=>(Sub.bump H2 m).trans ((aG (H:=H2.up m) s).put s _);refine zW (aO hl a c d) ?_;refine aF ?_;refine zD (fX hl a c d y q o @ap) ?_;have k:=g _ (mQ j);have l:=hx _ (mQ hp);refine AnsH.use (Ez C (m:=u[p]) (n:=-x[p]) zF ⟨V,rfl,R.mono (zG H)⟩ ⟨G,rfl,B.mono (s2 _)⟩ (ha.mono (zG H)) (hb.mono (zG H)) E t (k.len zO) (l.neg.len zO) (fun z hz=>⟨(hx z hz).len zO,(k.mul (hx z hz)).sm zO⟩) (fun z hz=>⟨(g z hz).len zO,(l.neg.mul (g z hz)).sm zO⟩)) ?_;rintro v3 J ⟨r3,rfl,S,O⟩;obtain ⟨X,_,w3⟩:=zT H zK O;refine zD (fX hl a c d y q o @ap) ?_;refine AnsH.use (xG C zF (S.mono (zG J)) (by rw [Lin.mix_length rfl E.symm]; exact t) (fun z hz=>(Jb k l.neg hx g z hz).sm zO)) ?_;rintro v4 K ⟨r4,rfl,U,P⟩;obtain ⟨F,_,_⟩:=zT H zK P;simp only [je,ko,jd,mo,Y0,YQ,tF,qC,List.getLastD_cons,List.getLastD_nil,Zg,Yh];refine zW (aO hl a c d) ?_;refine ⟨?_,zK⟩;unfold Lin.wo;rw [if_neg hz,sC hp,sC j];exact U.mono (Kp.sub (H:=K) (Kp.trans (Kp.refl F.wf) ((Kp.refl F.wf).up _)))
end
def S9 (tab:Nat->Option aA) (rd:Bool) (b:ACode) (Q:Ex->Tm->Heap->Prop) (x:Ex) (T:Tm) (H:Heap):Prop:=match x with
 | .nrm=>WB tab rd b T H Q
 | x=>Q x T H
def TL (R:Tm->Heap->Prop) (Q:Ex->Tm->Heap->Prop) (x:Ex) (T:Tm) (H:Heap):Prop:=match x with
 | .nrm=>R T H
 | x=>Q x T H
section
variable {tab:Nat->Option aA} {rd:Bool} {a b:ACode} {T:Tm} {H:Heap} {Q:Ex->Tm->Heap->Prop} {R:Tm->Heap->Prop}
theorem aw:S9 tab rd b Q .nrm T H=WB tab rd b T H Q:=rfl
theorem gK:S9 tab rd b Q .ret T H=Q .ret T H:=rfl
theorem aZ:TL R Q .nrm T H=R T H:=rfl
theorem wP:TL R Q .ret T H=Q .ret T H:=rfl
def aI (h:WC tab rd a T H (S9 tab rd b Q)):WB tab rd (.seq a b) T H Q:=AJ (h.wb.mono fun x T' H' h=>by cases x <;> exact h)
def dy (R:Tm->Heap->Prop) (hp:iW a=true) (h:WC tab rd a T H (TL R Q)) (hb:∀ T' H',Same (fU a) T T'->R T' H'->WB tab rd b T' H' Q):WB tab rd (.seq a b) T H Q :=
 AJ ((h.wb.same hp).mono fun x T' H' ⟨hs,h⟩=>by
  cases x with
  | nrm=>exact hb T' H' hs h
  | exit e=>exact h
  | goto l=>exact h
  | ret=>exact h)
def Am {f:Nat} {fn:aA} {args:List AV} {Q:AV->Heap->Prop} (a:tab f=some fn) (he:fn.ext=none) (hl:args.length=fn.nparams) (hn:fn.nparams<=fn.ntmps)
  (h:∀ T0:Tm,T0.length=fn.ntmps->(∀ i,i<args.length->ad T0 i=args.getD i .undef)->WB tab false fn.body T0 H (vT fn.results Q)):Ans tab (.fn f args) H Q:=by
 obtain ⟨x,T',H',⟨N,g⟩,hx,v,c,b⟩:=h (args++List.replicate (fn.ntmps-args.length) .undef) (by simp; omega) fun i hi=>by
  unfold ad;rw [iF,iF,Ni hi]
 refine ⟨v,H',⟨N+1,fun m n hm hn=>?_⟩,b⟩;obtain ⟨n',rfl⟩:∃ n',n=n'+1:=⟨n-1,zO⟩
 show jW tab fd (lU tab fd m n') m (.fn f args) H=_;simp only [jW,a,he,Bk,if_pos hl];rw [g m n' zO zO];rcases hx with rfl | rfl <;> simp [c]
end
def Cells.set1 {α:Type} {e:R5 α} {H:Heap} {cells:List AV} {l:List α} (h:Cells (bU e) H cells l) {i:Nat} {a:α} {v:AV} (hi:i<l.length) (hr:e.R H v a):Cells (bU e) H (cells.set i v) (l.set i a):=by
 have hc:i<cells.length:=by have:=h.1; simp [bU] at this; omega
 have h2:cells.take (i*1)++[v]++cells.drop (i*1+1)=cells.set i v:=by rw [Yb,Zj,if_pos hc]; simp
 have this:Cells (bU e) H (cells.take (i*1)++[v]++cells.drop (i*1+1)) (l.set i a):=Cells.set h hi ⟨v,rfl,hr⟩;rw [h2] at this;exact this
def Cells.at1 {α:Type} {e:R5 α} {H:Heap} {cells:List AV} {l:List α} (h:Cells (bU e) H cells l) {i:Nat} (hi:i<l.length):∃ v,bf cells i none=some v/\e.R H v l[i]:=by
 obtain ⟨v,h1,h2⟩:=h.2 i _ (eA hi);have hc:i<cells.length:=by have:=h.1; simp [bU] at this; omega
 refine ⟨v,?_,h2⟩;have a:(cells.drop (i*1)).take 1=[v]:=h1;rw [Yb] at a;have h3:((cells.drop i).take 1)[0]? = some v:=by rw [a]; rfl
 rw [List.getElem?_take_of_lt zO,GQ] at h3
 simpa [bf] using h3
section
variable {tab:Nat->Option aA} {H:Heap} {s:AV}
def nU (F:List (List Int)) (x:List Int) (k:Nat):List Int:=(F.take k).foldl (fun a r=>Lin.wo a r (Lin.pv r)) (Lin.prime x)
def rl {F:List (List Int)} {x:List Int} {k:Nat} (a:k<F.length):nU F x (k+1)=Lin.wo (nU F x k) F[k] (Lin.pv F[k]):=by
 unfold nU;rw [BU a,ZL]; rfl
def kn (F:List (List Int)) (x:List Int):nU F x F.length=Lin.restF F x:=by
 unfold nU Lin.restF;rw [KO]
def pI {d:Nat} {F:List (List Int)} {x:List Int} (hx:x.length=d) (a:∀ r∈F,r.length=d):∀ k,k<=F.length->(nU F x k).length=d
 | 0,_=>by unfold nU; simp [Lin.prime_length,hx]
 | k+1,h=>by
  rw [rl zO];exact Lin.wo_length (pI hx a k zO) (a _ (mQ zO))
def oR {e f:Nat} {F:List (List Int)} {x:List Int} (hx:∀ z∈x,Bt e z) (a:∀ r∈F,∀ z∈r,Bt f z):∀ k,k<=F.length->∀ z∈nU F x k,Bt (e+k*(f+1)) z
 | 0,_=>by
  intro z hz;unfold nU at hz;exact (Gs hx z (by simpa using hz)).mono zO
 | k+1,h=>by
  rw [rl zO];intro z hz;refine (R7 (oR hx a k zO) (a _ (mQ zO)) z hz).mono ?_;rw [Yn]; omega
def IO {r:List Int} {p:Nat} (h:Lin.pivot r=some p):Tf r=(p:Int):=by unfold Tf; rw [h]
def yo (C:Code tab) (hw:Wf H) {fb:Nat} {q va:AV} {F:List (List Int)} {x:List Int} {d e f:Nat} (D:H.get fb=some (.cells [q] eR true)) (s:pb H q F) (ha:RowV H va x) (hx:x.length=d) (W:d<=64) (X:F.length<=64)
  (p:∀ r∈F,r.length=d/\Lin.pivot r=some (Lin.pv r)/\∀ z∈r,Bt f z) (A:∀ z∈x,Bt e z) (hb:e+65*(f+1)<=8796093022208) :
  Ans tab (.fn iX [.ptr fb 0,va]) H fun v H'=>RowV H' v (Lin.restF F x)/\Kp H H':=by
 refine bA C.q128 zU fun T hl i k=>?_;refine zW (aD hl i k) ?_;refine AnsH.use (xG C zF (ha.mono (zG H)) zO fun z hz=>(A z hz).sm zO) ?_;rintro v H2 ⟨r2,rfl,P,J⟩;obtain ⟨k2,_,w2⟩:=zT H zK J;have E:=k2.get D;refine zW (bB hl i k E s.lenV) ?_;refine aq H [1] (fun j vs H'=>∃ v,vs=[v]/\RowV H' v (nU F x j)) (a:=0) (N:=F.length) rfl (by refine zW (aD hl i k) ?_; rfl) (zV (aD hl i k)) (xq _) zO (by simp only [dz,hl]; rfl) rfl (fun j vs H' m ⟨c,h1,h2⟩=>⟨c,h1,h2.mono (Sub.bump H' m)⟩) zK ⟨r2,by exact zV (aD hl i k),by exact P.mono (Sub.bump H2 _)⟩ ?_ ?_
 ·rintro j T1 n _ hj g G y b ⟨vr,l,hr⟩;have w1:=b.wf;have S:=b.le;simp only [uz,B3,Ae,and_true] at l;have U:ad T1 15=q:=(y.at_ 15 zU).trans (zV (aD hl i k));obtain ⟨w,u,M⟩:=dH (s.mono b.sub) hj;have I:=SlV.idx1 s .i64 j hj;have o:=p _ (mQ hj);simp only [dz,hl] at g;refine zW (dj g U G I M l) ?_;refine AnsH.eq (uH C zF (u.mono (zG n)) zO) fun V K=>?_;obtain ⟨t,_,w3⟩:=zT n zK K;rw [IO o.2.1];have O:=pI hx (fun r h=>(p r h).1) j zO;have Z:Lin.pv F[j]<d:=by have:=(Lin.pivot_some.1 o.2.1).1; omega
  have Y:j*(f+1)<=63*(f+1):=B2 _ zO;refine zW (aE g l) ?_;refine AnsH.use (vQ C zF (hr.mono t.sub) (u.mono t.sub) (O.trans o.1.symm) zO zO (oR A (fun r h=>(p r h).2.2) j zO) o.2.2 zO) ?_;rintro v4 B ⟨Q,L⟩;have R:Kp H B:=Kp.trans (Kp.trans b t) L;have aa:=R.le;refine zW g ?_;refine ⟨zK,_,rfl,?_⟩;rw [rl hj];exact Q
 ·rintro T1 n g y b ⟨vr,l,hr⟩;have w1:=b.wf;have S:=b.le;simp only [uz,B3,Ae,and_true] at l;simp only [dz,hl] at g;rw [kn] at hr;refine zW (aE g l) ?_;exact ⟨hr.mono (Sub.bump n _),zK⟩
abbrev rowsE:fQ (List Int):=bU (tT intE aa)
def Id (C:Code tab) {H0:Heap} {q va:AV} {F:List (List Int)} {x:List Int} {k a:Nat} (d:Kp H0 H) (A:Bl rowsE af H0 H q F) (g:k<=F.length) (i:H.get a=some (.cells [va] af true)) (hx:RowV H va x) (hne:∀ n,q ≠ .own a 0 n n 1 false) (G:F.length<1099511627776) :
  Ans tab (.fn cH [q,.int .i64 (k:Int),.own a 0 1 1 1 true]) H fun v H'=>Kp H0 H'/\Bl rowsE af H0 H' v (F.take k++x :: F.drop k)/\(∀ b e,H.get b=some e->(∀ n,q ≠ .own b 0 n n 1 false)->H'.get b=some e)/\(∃ n,v=.own H.next 0 n n 1 false)/\H'.next=H.next+1:=by
 have f:=d.le;have m:=hx.one;have w:H.get H.next=none:=d.wf.fresh (o0 _)
 have j:aP H 1 1 (.own a 0 1 1 1 true)=some [va]:=by simp [aP,i]
 rcases A with ⟨rfl,rfl⟩ | ⟨b,cells,rfl,hb,hcl,p⟩
 ·have y:k=0:=by simpa using g
  subst y;have hs:Sub H (({ H with next:=H.next+1 }:Heap).put H.next (.cells [va] af true)):=(Sub.bump H 1).put w _;refine AA C.q167 rfl rfl (v:=.own H.next 0 1 1 1 false) (H':=({ H with next:=H.next+1 }:Heap).put H.next (.cells [va] af true)) ?_ ⟨(d.up 1).put f (by show _<H.next+1; omega),.inr ⟨H.next,[va],rfl,al _ _ _,?_,f⟩,fun c e hc _=>hs.get _ _ hc,⟨1,rfl⟩,rfl⟩
  ·show wM H (.insert 1 24 af) [.nilSl,.int .i64 (.ofNat 0),.own a 0 1 1 1 true]=_;simp [wM,j,m.2]
  ·exact Cells.one (E:=rowsE) ⟨va,rfl,hx.mono hs⟩
 ·have hl:(F.take k++x :: F.drop k).length=F.length+1:=by simp; omega
  have s:b≠a:=fun e=>hne F.length (by rw [e]; rfl);have hlt:=d.wf _ _ hb;have D:cells.length=F.length:=by have:=hcl.1; simpa [bU] using this
  have l:∀ c e,H.get c=some e->c≠b->((({ H with next:=H.next+1 }:Heap).kill b).put H.next (.cells (cells.take (k*1)++[va]++cells.drop (k*1)) af true)).get c=some e:=fun c e hc u=>by
   have:=d.wf _ _ hc
   rw [au zO,cM u]; exact hc
  have hs:SubT (tT intE aa).tys H ((({ H with next:=H.next+1 }:Heap).kill b).put H.next (.cells (cells.take (k*1)++[va]++cells.drop (k*1)) af true)):=fun c cs t r B hc=>l c _ hc fun e=>by
   subst e;rw [hb] at hc; cases hc
   revert B; decide
  refine AA C.q167 rfl rfl (v:=.own H.next 0 (F.length+1) (F.length+1) 1 false) (H':=(({ H with next:=H.next+1 }:Heap).kill b).put H.next (.cells (cells.take (k*1)++[va]++cells.drop (k*1)) af true)) ?_ ⟨((d.up 1).kill p).put f (by show _<H.next+1; omega),.inr ⟨H.next,_,by rw [hl]; rfl,al _ _ _,?_,f⟩,fun c e hc h=>l c e hc fun o=>h F.length (by rw [o]; rfl),⟨_,rfl⟩,rfl⟩
  ·show wM H (.insert 1 24 af) [.own b 0 F.length F.length 1 false,.int .i64 (.ofNat k),.own a 0 1 1 1 true]=_;have z:=hcl.ones;simp only [wM,j,hb,i];rw [if_pos ⟨trivial,trivial,s,zO,g,zO,zO,zO,trivial,by simp [m.2],z⟩]
  ·have h1:=(hcl.mono hs).take g;have h2:=(hcl.mono hs).drop k;have h3:Cells rowsE ((({ H with next:=H.next+1 }:Heap).kill b).put H.next (.cells (cells.take (k*1)++[va]++cells.drop (k*1)) af true)) [va] [x]:=Cells.one (E:=rowsE) ⟨va,rfl,SlV.monoT (E:=intE) hs hx⟩;have e:F.take k++[x]++F.drop k=F.take k++x :: F.drop k:=by simp
   rw [<- e];exact (h1.append h3).append h2
end
def jV (w:List Int->List Int) (F:List (List Int)) (j:Nat):List (List Int):=(F.take j).map w++F.drop j
def A9 (w:List Int->List Int) (F:List (List Int)):jV w F 0=F:=by simp [jV]
def sQ (w:List Int->List Int) (F:List (List Int)) {j:Nat} (h:j<=F.length):(jV w F j).length=F.length:=by simp [jV]; omega
def Dm (w:List Int->List Int) (F:List (List Int)):jV w F F.length=F.map w:=by simp [jV]
def Dl (w:List Int->List Int) (F:List (List Int)) {j:Nat} (h:j<F.length):(jV w F j)[j]? = some F[j]:=by
 unfold jV;rw [Xy (by simp; omega)];have e:j-((F.take j).map w).length=0:=by simp; omega
 rw [e,GQ];simp [h]
def Dk (w:List Int->List Int) (F:List (List Int)) {j:Nat} (h:j<F.length):(jV w F j).set j (w F[j])=jV w F (j+1):=by
 apply Yk
 intro i;rw [YX];have hl:=sQ w F (Ys h);by_cases e:j=i
 ·subst e;rw [if_pos rfl,if_pos zO];unfold jV;rw [Ni (by simp; omega)];simp [h]
 ·rw [if_neg e];unfold jV;by_cases hi:i<j
  ·rw [Ni (by simp; omega),Ni (by simp; omega)];simp [hi,show i<j+1 by omega]
  ·rw [Xy (by simp; omega),Xy (by simp; omega),GQ,GQ];congr 1
   simp; omega
def KK {x:List Int} {p:Nat}:∀ {F:List (List Int)} {k:Nat},k<=F.length->(∀ i (h:i<F.length),i<k->Lin.before (Lin.pv F[i]) p=true)->(∀ h:k<F.length,Lin.before (Lin.pv F[k]) p=false)->Lin.insP x p F=F.take k++x :: F.drop k
 | [],k,a,_,_=>by
  have:k=0:=by simpa using a
  subst this; rfl
 | r :: F,0,_,_,h1=>by
  have:=h1 (by simp)
  simp only [List.getElem_cons_zero] at this;simp [Lin.insP,this]
 | r :: F,k+1,a,h0,h1=>by
  have h2:=h0 0 (by simp) zO;simp only [List.getElem_cons_zero] at h2;have b:=KK (x:=x) (p:=p) (F:=F) (k:=k) (by simpa using a) (fun i h hi=>by have:=h0 (i+1) (by simpa using h) zO; simpa using this) (fun h=>by have:=h1 (by simpa using h); simpa using this);simp [Lin.insP,h2,b]
def Ic:MuI (-1):=by
 have:=br (n:=1) (k:=1) zU
 unfold MuI;show (ah 1).length<_;omega
section
variable {tab:Nat->Option aA} {H:Heap} {s:AV}
def Po (C:Code tab) {H0:Heap} {fb:Nat} {q va:AV} {F:List (List Int)} {x:List Int} {d e f:Nat} (hk:Kp H0 H) (cb:H0.next<=fb) (au:H.get fb=some (.cells [q] eR true)) (hq:Bl rowsE af H0 H q F) (ha:RowV H va x) (hx:x.length=d) (bp:d<=64) (hE:Lin.Ech d F) (a3:F.length<=64)
  (bq:∀ r∈F,∀ z∈r,Bt f z) (bd:∀ z∈x,Bt e z) (hb:e+66*(f+1)<=8796093022208) :
  Ans tab (.fn gD [.ptr fb 0,va]) H fun v H'=>v=.tup []/\Kp H0 H'/\∃ q',H'.get fb=some (.cells [q'] eR true)/\Bl rowsE af H0 H' q' (Lin.putF F x):=by
 have hw:=hk.wf;have hF:∀ r∈F,r.length=d/\Lin.pivot r=some (Lin.pv r)/\∀ z∈r,Bt f z:=fun r hr=>⟨hE.len r hr,(hE.pos hr).1,bq r hr⟩
 have bV:(Lin.restF F x).length=d:=by rw [<- kn]; exact pI hx (fun r h=>(hF r h).1) _ (o0 _)
 have cc:F.length*(f+1)<=64*(f+1):=B2 _ a3;have aM:∀ z∈Lin.restF F x,Bt (e+64*(f+1)) z:=fun z hz=>by
  rw [<- kn] at hz;exact (oR bd (fun r h=>(hF r h).2.2) _ (o0 _) z hz).mono zO
 refine Am C.q150 rfl rfl zU fun T hl g=>?_;have hl:T.length=79:=hl;have a8:c_P_rows_form_put.results=[]:=rfl;have l:ad T 0=.ptr fb 0:=g 0 (by simp);have o:ad T 1=va:=g 1 (by simp);refine aI ?_;refine zW (aO hl l o @aw) ?_;refine AnsH.use (yo C (H:=H.up 4) zF au (hq.sl.mono (Sub.bump H 4)) (ha.mono (Sub.bump H 4)) hx bp a3 hF bd zO) ?_;rintro v H2 ⟨a6,bC⟩;obtain ⟨k2,_,w2⟩:=zT H zK bC;refine zW (aO hl l o @aw) ?_;refine aI ?_;refine zW (aO hl l o @aw) ?_;refine AnsH.eq (uH C zF (a6.mono (zG H2)) zO) fun U aY=>?_;have k3:Kp H U:=Kp.trans k2 (Kp.trans zK aY);have cp:=k3.le;have w3:=k3.wf;have Z:RowV U v (Lin.restF F x):=a6.mono (Kp.sub (H:=H2) (Kp.trans zK aY));cases P:Lin.pivot (Lin.restF F x) with
 | none =>
  have e1:Tf (Lin.restF F x) = -1:=by unfold Tf; rw [P]
  rw [e1];refine zW (aO hl l o @aw) ?_;refine aI ?_;refine zW (dj hl l o @aw @gK a8) ?_;have e2:Lin.putF F x=F:=by unfold Lin.putF; rw [P]
  rw [e2];have bZ:Kp H0 U:=hk.trans k3;have cm:=bZ.le;exact ⟨zK,q,k3.get au,hq.mono (zG H)⟩
 | some p =>
  rw [IO P];have hp:p<(Lin.restF F x).length:=(Lin.pivot_some.1 P).1;have ce:=(Lin.pivot_some.1 P).2.1;have bI:¬ (p:Int)<0:=zO;refine zW (aO hl l o @aw) ?_;refine aI ?_;refine zW (dj hl l o @aw @gK bI) ?_;refine dy (fun T' H'=>∃ u,ad T' 1=u/\RowV H' u (Lin.signed (Lin.restF F x) p)/\Kp H H') rfl ?_ ?_
  ·obtain ⟨w,hn,a4,bP,b8⟩:=iZ Z hp;have M:cS 2 v (.int .i64 (p:Int))=some (aB v (p*2)):=SlV.idx Z .i64 p hp;have bu:CT 0 (aB v (p*2))=some (aB v (p*2)):=SlV.fa Z zO 0 (p*2);refine zW (fo hl l o M bu bP @aZ) ?_;refine iteH.split (fun h=>?_) fun h=>?_
   ·refine zW (aD hl l o) ?_;refine AnsH.use (jk C (n:=-1) zF zO zO) ?_;rintro v4 K ⟨bx,a0⟩;have I:Kp H K:=Kp.trans k3 (Kp.trans zK a0);have cq:=I.le;have w4:=I.wf;refine zW (aD hl l o) ?_;refine AnsH.use (Lz C zF (Z.mono (Kp.sub (H:=U) (Kp.trans zK a0))) bx zO (fun z hz=>(aM z hz).len zO) Ic) ?_;rintro v5 L ⟨r5,rfl,bN,W⟩;have k5:Kp H L:=Kp.trans I W;have cr:=k5.le;refine zW (aO hl l o @aZ) ?_;refine ⟨_,rfl,?_,k5⟩;unfold Lin.signed;rw [if_pos (by rw [sC hp]; exact h)];exact bN
   ·refine zW (aO hl l o @aZ) ?_;refine ⟨_,rfl,?_,zK⟩;unfold Lin.signed;rw [if_neg (by rw [sC hp]; exact h)];exact Z.mono (Sub.bump U _)
  ·rintro T1 K aJ ⟨u,bb,bM,I⟩;have w4:=I.wf;have b0:Kp H0 K:=hk.trans I;have cn:=b0.le;have t0:ad T1 0=.ptr fb 0:=(aJ.at_ 0 zU).trans (zV (aD hl l o));have t4:ad T1 4=.int .i64 (p:Int):=(aJ.at_ 4 zU).trans (zV (aD hl l o));have s:T1.length=79:=aJ.len.trans (by simp only [dz]; exact hl);have aW:=I.get au;have a5:Bl rowsE af H0 K q F:=hq.mono I.sub;have bK:Lin.putF F x=Lin.insP (Lin.signed (Lin.restF F x) p) p (F.map fun r=>Lin.wo r (Lin.signed (Lin.restF F x) p) p):=by unfold Lin.putF; rw [P]
   have ap:=(Lin.put_ech hE hx).1;rw [bK] at ap ⊢;have bW:(Lin.signed (Lin.restF F x) p).length=d:=Lin.signed_length bV;have bS:∀ z∈Lin.signed (Lin.restF F x) p,Bt (e+64*(f+1)) z:=by
    unfold Lin.signed;split
    ·exact ID aM
    ·exact aM
   have aC:∀ r'∈F.map (fun r=>Lin.wo r (Lin.signed (Lin.restF F x) p) p),r'.length=d/\Lin.pivot r'=some (Lin.pv r'):=fun r' h=>by
    have hm:r'∈Lin.insP (Lin.signed (Lin.restF F x) p) p (F.map fun r=>Lin.wo r (Lin.signed (Lin.restF F x) p) p):=Lin.mem_insP.2 (.inr h);exact ⟨ap.len _ hm,(ap.pos hm).1⟩
   generalize Lin.signed (Lin.restF F x) p=y at *
   obtain ⟨w,bc⟩:∃ w:List Int->List Int,w=fun r=>Lin.wo r y p:=⟨_,rfl⟩
   rw [<- bc] at aC ⊢;have cf:p<d:=zO;refine WC.wb ?_;refine zW (bB s t0 t4 aW a5.sl.lenV) ?_;refine aq H0 [] (fun j _ H'=>H'.get fb=some (.cells [q] eR true)/\Bl rowsE af H0 H' q (jV w F j)/\RowV H' u y) (a:=0) (N:=F.length) rfl (by refine zW s ?_; rfl) (zV s) (xq _) zO (by simp only [dz,s]; rfl) rfl (fun j vs H' m ⟨h1,h2,h3⟩=>⟨h1,h2.mono (Sub.bump H' m),h3.mono (Sub.bump H' m)⟩) zK ⟨aW,by rw [A9]; exact a5.mono (Sub.bump K _),bM.mono (Sub.bump K _)⟩ ?_ ?_
   ·rintro j T2 L _ hj ah av aj W ⟨R,j2,j3⟩;have w5:=W.wf;have ci:=W.le;have aL:=sQ w F (Ys hj);rcases j2 with ⟨-,bJ⟩ | ⟨b,cells,aH,ag,hcl,br⟩
    ·exfalso
     rw [bJ] at aL; simp at aL; omega
    rw [aL] at aH;have ax:j<(jV w F j).length:=zO;obtain ⟨vr,bQ,am⟩:=hcl.at1 ax;have bw:(jV w F j)[j]=F[j]:=by
     have:=Dl w F hj
     rw [eA ax] at this;exact Option.some.inj this
    rw [bw] at am;have am:RowV L vr F[j]:=am;have aS:=hF _ (mQ hj);have ca:cells.length=F.length:=by have:=hcl.1; simp [bU] at this; omega
    have hne:fb≠b:=fun e=>by
     subst e;rw [R] at ag; injection ag with h; injection h with _ h2; exact absurd h2 zU
    have b4:ad T2 29=q:=(aj.at_ 29 zU).trans (zV s);have bh:ad T2 0=.ptr fb 0:=(aj.at_ 0 zU).trans (zV (aE s t0));have bi:ad T2 1=u:=(aj.at_ 1 zU).trans (zV (aE s bb));have bk:ad T2 4=.int .i64 (p:Int):=(aj.at_ 4 zU).trans (zV (aE s t4));have M:cS 1 q (.int .i64 (j:Int))=some (.ptr b j):=by
     have:=jB (b:=b) (off:=0) (c:=F.length) (sz:=1) (x:=false) (k:=.i64) hj
     rw [RO,Yb] at this;rw [aH]; exact this
    simp only [dz,s] at ah;refine zW (dj ah b4 av M ag bQ) ?_;refine aF ?_;refine zD (dj ah bh bi bk av R) ?_;refine AnsH.use (vQ C zF (am.mono (zG L)) (j3.mono (zG L)) (aS.1.trans bW.symm) zO zO aS.2.2 bS zO) ?_;rintro v6 V ⟨a7,bD⟩;obtain ⟨ab,_,_⟩:=zT L zK bD;have bf:Kp H0 V:=W.trans ab;have co:=bf.le;have w6:=bf.wf;have ar:=ab.get ag;have cg:=w6 _ _ ar;have bX:=ab.get R;have o6:=a7.one;have bz:j<cells.length:=zO;refine zD (oK ah bh bi bk av R bX M ar bz) ?_;have mb:NoTy (tT intE aa).tys V b:=NoTy.ty ar zU;have bg:SubT (tT intE aa).tys V (V.put b (.cells (cells.set j v6) af true)):=SubT.puts (SubT.refl _ _) mb;have bR:w F[j]=Lin.wo F[j] y p:=by rw [bc]
    have bt:Cells rowsE V cells (jV w F j):=hcl.mono (ab.sub.t _);refine ⟨zK,.inr ⟨b,_,?_,al _ _ _,?_,br⟩,SlV.monoT (E:=intE) bg (j3.mono ab.sub)⟩
    ·rw [sQ w F zO]; exact aH
    ·rw [<- Dk w F hj,bR];exact Cells.mono (E:=rowsE) bg (bt.set1 ax a7)
   ·rintro T3 H7 G aK a1 ⟨R,j2,j3⟩;have w7:=a1.wf;have cj:=a1.le;rw [Dm] at j2;have aN:ad T3 0=.ptr fb 0:=(aK.at_ 0 zU).trans (zV (aE s t0));have bj:ad T3 1=u:=(aK.at_ 1 zU).trans (zV (aE s bb));have bm:ad T3 4=.int .i64 (p:Int):=(aK.at_ 4 zU).trans (zV (aE s t4));simp only [dz,s] at G;obtain ⟨F',aR⟩:∃ F',F'=F.map w:=⟨_,rfl⟩
    rw [<- aR] at j2 aC ⊢;have b7:F'.length=F.length:=by rw [aR]; simp
    refine zW (aO G aN bj bm) ?_;refine mi H0 [7] (fun m vs H'=>∃ k:Nat,vs=[.int .i64 (k:Int)]/\k<=F'.length/\(∀ i (h:i<F'.length),i<k->Lin.before (Lin.pv F'[i]) p=true)/\m=F'.length-k/\H'.get fb=some (.cells [q] eR true)/\Bl rowsE af H0 H' q F'/\RowV H' u y)
     (fun vs H'=>∃ k:Nat,vs=[.int .i64 (k:Int)]/\k<=F'.length/\(∀ i (h:i<F'.length),i<k->Lin.before (Lin.pv F'[i]) p=true)/\(∀ h:k<F'.length,Lin.before (Lin.pv F'[k]) p=false)/\H'.get fb=some (.cells [q] eR true)/\Bl rowsE af H0 H' q F'/\RowV H' u y)
     F'.length (by simp only [dz,G]; rfl) rfl zK ⟨0,by refine zW G ?_; rfl,zO,fun i _ h=>by omega,zO,R,j2.mono (Sub.bump H7 _),j3.mono (Sub.bump H7 _)⟩ ?_ ?_
    ·rintro m T4 J Y a9 ay ⟨k,B,X,hbf,hm,D,t,Q⟩;have w8:=ay.wf;have ck:=ay.le;simp only [uz,B3,Ae,and_true] at B;have ae:ad T4 0=.ptr fb 0:=(a9.at_ 0 zU).trans (zV (aE G aN));have aP:ad T4 4=.int .i64 (p:Int):=(a9.at_ 4 zU).trans (zV (aE G bm));by_cases O:k<F'.length
     ·obtain ⟨wv,bO,a4⟩:=dH t.sl O;have M:=SlV.idx1 t.sl .i64 k O;have bF:=aC _ (mQ O);refine zW (jU Y B ae aP D t.sl.lenV O M a4) ?_;refine AnsH.eq (uH C zF (bO.mono (zG J)) zO) fun H9 bE=>?_;obtain ⟨b2,_,w9⟩:=zT J zK bE;rw [IO bF.2];refine zW (aO Y B ae aP) ?_;refine AnsH.eq (Gj C zF) fun aQ bA=>?_;have S:Kp J aQ:=Kp.trans b2 bA;have ct:=S.le;have bY:Kp H0 aQ:=ay.trans S;have cl:=bY.le;cases aU:Lin.before (Lin.pv F'[k]) p with
      | true =>
       have e:IntKind.i64.wrap ((k:Int)+1)=((k+1:Nat):Int):=by rw [wrap_i64] <;> omega
       refine zW (aD Y B e) ?_;refine ⟨zK,F'.length-(k+1),zO,k+1,rfl,zO,fun i h hi=>?_,rfl,S.get D,t.mono (zG J),Q.mono (zG J)⟩;by_cases ei:i=k
       ·subst ei; exact aU
       ·exact hbf i h zO
      | false =>
       refine zW (aE Y B) ?_;exact ⟨zK,k,rfl,X,hbf,fun _=>aU,S.get D,t.mono S.sub,Q.mono S.sub⟩
     ·refine zW (fo Y B ae aP D t.sl.lenV O) ?_;exact ⟨zK,k,rfl,X,hbf,fun h=>absurd h O,t.mono (Sub.bump J _),Q.mono (Sub.bump J _)⟩
    ·rintro T5 A a2 ba aX ⟨k,B,X,hbf,bs,D,t,Q⟩;have bn:=aX.wf;have ch:=aX.le;simp only [uz,B3,Ae,and_true] at B;have ae:ad T5 0=.ptr fb 0:=(ba.at_ 0 zU).trans (zV (aE G aN));have b3:ad T5 1=u:=(ba.at_ 1 zU).trans (zV (aE G bj));rw [KK X hbf bs];have oa:=Q.one;have cu:=bn _ _ D;refine zW (bB a2 B ae b3 D) ?_;have aV:A.get (A.next+7)=none:=bn.fresh zO;have bL:∀ n,q ≠ .own (A.next+7) 0 n n 1 false:=fun n e=>by
      rcases t with ⟨h,-⟩ | ⟨b,cells,h,aT,-⟩
      ·rw [h] at e; cases e
      ·rw [h] at e; injection e with e1; rw [e1,aV] at aT; cases aT
     have sx:Sub A ((A.up 12).put (A.next+7) (.cells [u] af true)):=(Sub.bump A 12).trans (aG (H:=A.up 12) aV);refine AnsH.use (Id C (H0:=H0) (F:=F') (x:=y) (k:=k) zK (t.mono sx) X (cC) (Q.mono sx) bL zO) ?_;rintro cw b6 ⟨b1,bl,keep,⟨n,rfl⟩,cd⟩;have b5:=b1.wf;have bv:((A.up 12).put (A.next+7) (.cells [u] af true)).get fb=some (.cells [q] eR true):=by exact zV D
     have bG:∀ n,q ≠ .own fb 0 n n 1 false:=fun n=>t.ne D (fun cs h=>by injection h with _ h2; exact absurd h2 zU) n;have ao:=keep fb _ bv bG;have cv:=b5 _ _ ao;refine zW (aD a2 a8 ao) ?_;refine ⟨zK,_,rfl,bl.put (fun n' h=>?_) (SubT.put_ty ao zU)⟩
     injection h with h1
     simp only [next_put,dg] at h1;omega
end
def Gl {d:Nat}:∀ {l:List Nat} {lo:Nat},lo<=d->l.Pairwise (· < ·)->(∀ a∈l,lo<a/\a<=d)->l.length+lo<=d
 | [],lo,h,_,_=>by simpa using h
 | a :: l,lo,h,hp,hb=>by
  have ha:=hb a (Al ..);have e:=YC.1 hp
  have:=Gl (d:=d) (lo:=a) ha.2 e.2 fun b c=>⟨e.1 b c,(hb b (tZ _ c)).2⟩
  simp only [Sb];omega
def ech_len {d:Nat} {F:List (List Int)} (h:Lin.Ech d F):F.length<=d:=by
 have h1:(F.map fun r=>Lin.rank (Lin.pv r) d).Pairwise (· < ·):=by
  rw [XM];refine h.sorted.imp_of_mem fun {r s} hr hs hb=>?_;exact (Lin.before_iff (h.pos hr).2.2 (h.pos hs).2.2).1 hb
 have h2:=Gl (d:=d) (lo:=0) (xq _) h1 fun a ha=>by
  rw [nC] at ha;obtain ⟨r,hr,rfl⟩:=ha
  have:=(h.pos hr).2.2
  unfold Lin.rank;split <;> omega
 simpa using h2
def jX (e:Nat):Nat->Nat
 | 0=>0
 | k+1=>e+(k+1)*(jX e k+1)
def JA (e k:Nat):jX e k<=jX e (k+1):=by
 show jX e k<=e+(k+1)*(jX e k+1);rw [Yn]; omega
def vu (e:Nat) {k m:Nat} (h:k<=m):jX e k<=jX e m:=by
 induction m with
 | zero =>
  have:k=0:=zO
  subst this; exact o0 _
 | succ m b =>
  by_cases a:k<=m
  ·exact B5 (b a) (JA e m)
  ·have:k=m+1:=zO
   subst this; exact o0 _
def insP_len {x:List Int} {p:Nat}:∀ F:List (List Int),(Lin.insP x p F).length=F.length+1
 | []=>rfl
 | r :: F=>by
  unfold Lin.insP;split
  ·simp [insP_len F]
  ·simp
def Q4 {d e f:Nat} {F:List (List Int)} {x:List Int} (a:∀ r∈F,∀ z∈r,Bt f z) (hx:∀ z∈x,Bt e z) :
  Lin.putF F x=F\/((Lin.putF F x).length=F.length+1/\∀ r∈Lin.putF F x,∀ z∈r,Bt (e+(F.length+1)*(f+1)) z):=by
 have hy:∀ z∈Lin.restF F x,Bt (e+F.length*(f+1)) z:=by
  rw [<- kn]; exact oR hx a _ (o0 _)
 have hs:∀ p,∀ z∈Lin.signed (Lin.restF F x) p,Bt (e+F.length*(f+1)) z:=fun p=>by
  unfold Lin.signed;split
  ·exact ID hy
  ·exact hy
 unfold Lin.putF;cases hp:Lin.pivot (Lin.restF F x) with
 | none=>exact .inl rfl
 | some p =>
  refine .inr ⟨by simp [insP_len],fun r hr=>?_⟩;have c:(F.length+1)*(f+1)=F.length*(f+1)+(f+1):=Yn _ _;rcases Lin.mem_insP.1 hr with rfl | hr
  ·exact fun z hz=>(hs p z hz).mono zO
  ·rw [nC] at hr;obtain ⟨u,b,rfl⟩:=hr;exact fun z hz=>(R7 (a u b) (hs p) z hz).mono zO
def oI (l:List (List Int)) (k:Nat):List (List Int):=(l.take k).foldl Lin.putF []
def zf {l:List (List Int)} {k:Nat} (h:k<l.length):oI l (k+1)=Lin.putF (oI l k) l[k]:=by
 unfold oI;rw [BU h,ZL]; rfl
def B8 (l:List (List Int)):oI l l.length=Lin.formF l:=by
 unfold oI Lin.formF;rw [KO]
def Jx {d:Nat} {l:List (List Int)} (hl:∀ r∈l,r.length=d) (k:Nat):Lin.Ech d (oI l k) :=
 (Lin.form_go (l.take k) [] (Lin.Ech.nil d) fun a ha=>hl a (YS ha)).1
def yp {d e:Nat} {l:List (List Int)} (hl:∀ r∈l,r.length=d) (hb:∀ r∈l,∀ z∈r,Bt e z):∀ k,k<=l.length->∀ r∈oI l k,∀ z∈r,Bt (jX e (oI l k).length) z
 | 0,_=>by intro r hr; cases hr
 | k+1,h=>by
  have a:=yp hl hb k zO;rw [zf zO];rcases Q4 (d:=d) a (hb _ (mQ (show k<l.length by omega))) with h1 | ⟨h1,h2⟩
  ·rw [h1]; exact a
  ·rw [h1]; exact h2
section
variable {tab:Nat->Option aA} {H:Heap} {s:AV}
def rk (C:Code tab) (M:Wf H) {l:List (List Int)} {d e:Nat} (hs:pb H s l) (I:l.length<1099511627776) (hd:d<=64) (o:∀ r∈l,r.length=d) (t:∀ r∈l,∀ z∈r,Bt e z) (hb:e+66*(jX e d+1)<=8796093022208) :
  Ans tab (.fn oo [s]) H fun v H'=>∃ fb q,v=.ptr fb 0/\H'.get fb=some (.cells [q] eR true)/\pb H' q (Lin.formF l)/\Kp H H':=by
 refine cT C.q127 zU fun T hl b=>?_;have x:fW (.agg [.nilSl])=some [.nilSl]:=rfl;refine zW (aO hl b hs.lenV x) ?_;refine aq H [] (fun j _ H'=>∃ q,H'.get (H.next+2)=some (.cells [q] eR true)/\Bl rowsE af H H' q (oI l j)) (a:=0) (N:=l.length) rfl (by refine zW (aE hl b) ?_; rfl) (zV (aE hl b)) (xq _) zO (by simp only [dz,hl]; rfl) rfl (fun j vs H' m ⟨q,h1,h2⟩=>⟨q,h1,h2.mono (Sub.bump H' m)⟩) zK ⟨.nilSl,by exact cC,Bl.nil⟩ ?_ ?_
 ·rintro j T1 h _ hj g y i c ⟨q,p,k⟩;have w1:=c.wf;have F:=c.le;have G:ad T1 11=s:=(i.at_ 11 zU).trans (zV (aE hl b));have t4:ad T1 4=.fn (.func gD) [.ptr (H.next+2) 0] []:=(i.at_ 4 zU).trans (zV (aE hl b));obtain ⟨w,hr,B⟩:=dH (hs.mono c.sub) hj;have A:=SlV.idx1 hs .i64 j hj;have n:=Jx o j;have J:=vu e (ech_len n);have L:=ech_len n;have u:=mQ hj;simp only [dz,hl] at g;refine zW (dj g G t4 y A B) ?_;refine AnsH.use (Po C (H0:=H) (f:=jX e (oI l j).length) zK zO (by exact p) (k.mono (Sub.bump h _)) (hr.mono (Sub.bump h _)) (o _ u) hd n zO (yp o t j zO) (t _ u) zO) ?_;rintro v H2 ⟨rfl,K,q',D,E⟩;refine zW g ?_;refine ⟨zK,q',D,?_⟩;rw [zf hj];exact E
 ·rintro T1 h g i c ⟨q,p,k⟩;have w1:=c.wf;have F:=c.le;have t3:ad T1 3=.ptr (H.next+2) 0:=(i.at_ 3 zU).trans (zV (aE hl b));simp only [dz,hl] at g;rw [B8] at k;refine zW (aE g t3) ?_;exact ⟨_,q,rfl,p,k.sl.mono (Sub.bump h _),zK⟩
def EL (C:Code tab) (o:Wf H) {l:List (List Int)} {d e:Nat} (hs:pb H s l) (f:l.length<=1024) (g:0<d) (hd:d<=64) (c:∀ r∈l,r.length=d) (b:∀ r∈l,∀ z∈r,Bt e z) (hb:e+66*(jX e d+1)<=8796093022208) :
  Ans tab (.fn mP [s]) H fun v H'=>∃ q,v=.tup [q,.int .i64 0]/\pb H' q (Lin.formF l)/\Kp H H':=by
 refine cT C.q108 zU fun T hl a=>?_;refine zW (aE hl a) ?_;refine AnsH.eq (kJ C (ty:=0) zF (hs.mono (zG H)) f ⟨g,hd,c,fun r hr z hz=>(b r hr z hz).sm zO⟩) fun H2 i=>?_;obtain ⟨k2,_,p⟩:=zT H zK i;refine zW (aE hl a) ?_;refine AnsH.use (rk C zF (hs.mono (zG H)) zO hd c b hb) ?_;rintro v n ⟨fb,q,rfl,h,k,j⟩;obtain ⟨m,_,_⟩:=zT H zK j;refine zW (aD hl a h) ?_;exact ⟨q,rfl,k,m⟩
def Gk (C:Code tab) (hw:Wf H) {a:AV} {x:List Int} {l:List (List Int)} {d e:Nat} (ha:RowV H a x) (hs:pb H s l) (K:l.length<=1024) (F:0<d) (hd:d<=64) (hx:x.length=d) (h:∀ r∈l,r.length=d) (m:∀ z∈x,Bt e z) (k:∀ r∈l,∀ z∈r,Bt e z) (hb:e+66*(jX e d+1)<=8796093022208) :
  Ans tab (.fn oy [a,s]) H fun v H'=>∃ q,v=.tup [q,.int .i64 0]/\RowV H' q (Lin.restF (Lin.formF l) x)/\Kp H H':=by
 have oa:=ha.one;refine bA C.q109 zU fun T hl b c=>?_;refine zW (aD hl b c) ?_;refine AnsH.eq (kJ C (ty:=0) zF (hs.mono (zG H)) K ⟨F,hd,h,fun r hr z hz=>(k r hr z hz).sm zO⟩) fun H2 N=>?_;obtain ⟨k2,_,w2⟩:=zT H zK N;refine zW (aD hl b c) ?_;refine AnsH.eq (kJ C (ty:=0) (d:=d) (ls:=[x]) zF (Tu (ha.mono k2.sub) (zG H2) (cC)) (by simp) ⟨F,hd,by simpa using hx,by simpa using fun z hz=>(m z hz).sm zO⟩) fun I O=>?_;have E:Kp H I:=Kp.trans k2 (Kp.trans zK O);have ad:=E.le;have w3:=E.wf;have g:=(Lin.form_ech h).1;have Q:=ech_len g;have L:=vu e Q;have ab:(Lin.restF (Lin.formF l) x).length=d:=by rw [<- kn]; exact pI hx g.len _ (o0 _)
 have t:∀ r∈Lin.formF l,∀ z∈r,Bt (jX e d) z:=fun r hr z hz=>by
  have:=yp h k l.length (o0 _)
  rw [B8] at this;exact (this r hr z hz).mono L
 have aa:(Lin.formF l).length*(jX e d+1)<=64*(jX e d+1):=B2 _ zO;have G:∀ z∈Lin.restF (Lin.formF l) x,Bt (e+64*(jX e d+1)) z:=fun z hz=>by
  rw [<- kn] at hz;exact (oR m t _ (o0 _) z hz).mono zO
 rcases YO l.length with h0 | h0
 ·have R:lenV s=some (.int .i64 0):=by rw [hs.lenV,h0]; rfl
  refine zW (aO hl b c R) ?_;refine AnsH.use (rk C zF (hs.mono (zG H)) zO hd h k hb) ?_;rintro v J ⟨fb,q,rfl,p,A,u⟩;obtain ⟨i,_,w5⟩:=zT H zK u;refine zW (aD hl b c) ?_;refine AnsH.use (yo C zF p A (ha.mono i.sub) hx hd zO (fun r hr=>⟨g.len r hr,(g.pos hr).1,t r hr⟩) m zO) ?_;rintro v6 n ⟨B,w⟩;have f:Kp H n:=Kp.trans i w;have X:=f.le;have w6:=f.wf;refine zW (aD hl b c) ?_;refine AnsH.use (AL C zF B zO fun z hz=>(G z hz).sm zO) ?_;rintro Z o ⟨D,y⟩;have j:Kp H o:=Kp.trans f y;have Y:=j.le;refine zW (aD hl b c) ?_;exact ⟨_,rfl,D,j⟩
 ·obtain ⟨w0,U,P⟩:=dH (hs.mono E.sub) h0;have M:cS 1 s (.int .i64 0)=some (aB s 0):=SlV.idx1 hs .i64 0 h0;have V:lenV w0=some (.int .i64 (d:Int)):=by rw [U.lenV,h _ (mQ h0)]
  have W:lenV a=some (.int .i64 (d:Int)):=by rw [ha.lenV,hx]
  have S:(0:Int)<(l.length:Int):=zO;refine zW (oK hl b c hs.lenV S h0 M P V W) ?_;refine AnsH.use (rk C zF (hs.mono (zG H)) zO hd h k hb) ?_;rintro v J ⟨fb,q,rfl,p,A,u⟩;obtain ⟨i,_,w5⟩:=zT H zK u;refine zW (aD hl b c) ?_;refine AnsH.use (yo C zF p A (ha.mono i.sub) hx hd zO (fun r hr=>⟨g.len r hr,(g.pos hr).1,t r hr⟩) m zO) ?_;rintro v6 n ⟨B,w⟩;have f:Kp H n:=Kp.trans i w;have X:=f.le;have w6:=f.wf;refine zW (aD hl b c) ?_;refine AnsH.use (AL C zF B zO fun z hz=>(G z hz).sm zO) ?_;rintro Z o ⟨D,y⟩;have j:Kp H o:=Kp.trans f y;have Y:=j.le;refine zW (aD hl b c) ?_;exact ⟨_,rfl,D,j⟩
end
def KU {e f:Nat} {x y:List Int} (hx:∀ z∈x,Bt e z) (hy:∀ z∈y,Bt f z):∀ j,j<=x.length->j<=y.length->(yw x y j).natAbs<=j*2^(e+f)
 | 0,_,_=>by simp [yw,Lin.dot]
 | j+1,h1,h2=>by
  rw [yv zO zO,Yn];have a:=KU hx hy j zO zO;have hm:=(hx _ (mQ (show j<x.length by omega))).mul (hy _ (mQ (show j<y.length by omega)));unfold Bt at hm
  have:=Zr (yw x y j) (x[j]*y[j])
  omega
def KV {e f:Nat} {x y:List Int} (hx:∀ z∈x,Bt e z) (hy:∀ z∈y,Bt f z) {j:Nat} (h1:j<=x.length) (h2:j<=y.length) (a:j<=64):Bt (e+f+7) (yw x y j):=by
 have h:=KU hx hy j h1 h2;have h3:j*2^(e+f)<=64*2^(e+f):=B2 _ a;have h4:0<2^(e+f):=Pm zU;unfold Bt;rw [Th];omega
def nf {e f:Nat} {x y:List Int} (hx:∀ z∈x,Bt e z) (hy:∀ z∈y,Bt f z) (b:x.length=y.length) (a:x.length<=64):Bt (e+f+7) (Lin.dot x y):=by
 rw [<- Hl b]; exact KV hx hy (o0 _) zO a
section
variable {tab:Nat->Option aA} {H:Heap} {s:AV}
def mB (C:Code tab) (g:Wf H) {a b:AV} {x y:List Int} {e f:Nat} (ha:RowV H a x) (hb:RowV H b y) (k:x.length=y.length) (c:x.length<=64) (hx:∀ z∈x,Bt e z) (hy:∀ z∈y,Bt f z) (d:e+f+7<=8796093022208) :
  Ans tab (.fn V3 [a,b]) H fun v H'=>∃ r,v=.tup [r,.int .i64 0]/\IntV H' r (Lin.dot x y)/\Kp H H' :=
 QL C g ha hb k c (fun z hz=>(hx z hz).len zO) (fun z hz=>(hy z hz).len zO) (fun i h h'=>((hx _ (mQ h)).mul (hy _ (mQ h'))).sm zO) fun j hj=>(KV hx hy hj zO zO).sm d
def wQ (C:Code tab) (k:Wf H) {a b:AV} {x y:List Int} {e f:Nat} (ha:RowV H a x) (hb:RowV H b y) (l:x.length=y.length) (i:x.length<=64) (hx:∀ z∈x,Bt e z) (hy:∀ z∈y,Bt f z) (j:e+f+7<=8796093022208) :
  Ans tab (.fn p8 [a,b]) H fun v H'=>IntV H' v (Lin.dot x y)/\Kp H H':=by
 refine bA C.q141 zU fun T hl d g=>?_;refine zW (aD hl d g) ?_;refine AnsH.use (mB C zF (ha.mono (zG H)) (hb.mono (zG H)) l i hx hy j) ?_;rintro v H2 ⟨r,rfl,⟨w,rfl,hr⟩,c⟩;obtain ⟨k2,_,p⟩:=zT H zK c;have o:=hr.one;have n:H.next+10<=H2.next:=c.le
 have d2:=c.get (b:=H.next) (e:=.cells [.bool false,.nilSl] aa true) (cC);have h:H2.get (H.next+7)=none:=c.free (show _<H.next+10 by omega) (by rw [au zO]; exact k.fresh (b:=H.next+7) zO);have m2:NoTy [ae] H2 H.next:=NoTy.ty d2 zU
 have m:NoTy [ae] H2 (H.next+7):=NoTy.none h;refine zW (aO hl d g d2) ?_;exact ⟨⟨w,rfl,SlV.monoT (E:=bU gg) zS hr⟩,zK⟩
def yy (C:Code tab) (d:Wf H) {a:AV} {z:Int} (ha:IntV H a z) (hz:dD z):Ans tab (.fn wy [a]) H fun v H'=>v=.int .i64 (gJ z)/\Kp H H':=by
 obtain ⟨p,rfl,hp⟩:=ha;have op:=hp.one;refine cT C.q142 zU fun T hl b=>?_;refine zW (aE hl b) ?_;refine AnsH.eq (pD C zF ⟨p,rfl,hp.mono (zG H)⟩ hz) fun H2 c=>?_;obtain ⟨k2,_,_⟩:=zT H zK c;refine zW (aE hl b) ?_;exact zK
def Cg (C:Code tab) (g:Wf H) {a:AV} {z:Int} (ha:IntV H a z) (hz:dD z):Ans tab (.fn pY [a]) H fun v H'=>IntV H' v (-z)/\Kp H H':=by
 obtain ⟨p,rfl,hp⟩:=ha;have op:=hp.one;refine cT C.q145 zU fun T hl d=>?_;refine zW (aE hl d) ?_;refine AnsH.use (Di C zF ⟨p,rfl,hp.mono (zG H)⟩ hz) ?_;rintro v H2 ⟨r,rfl,⟨w,rfl,hr⟩,c⟩;obtain ⟨k2,_,k⟩:=zT H zK c;have j:=hr.one;have i:H.next+10<=H2.next:=c.le
 have d2:=c.get (b:=H.next+1) (e:=.cells [.bool false,.nilSl] aa true) (cC);have f:H2.get (H.next+7)=none:=c.free (show _<H.next+10 by omega) (by rw [au zO,au zO]; exact g.fresh (b:=H.next+7) zO);have m2:NoTy [ae] H2 (H.next+1):=NoTy.ty d2 zU;have h:NoTy [ae] H2 (H.next+7):=NoTy.none f;refine zW (aD hl d d2) ?_;exact ⟨⟨w,rfl,SlV.monoT (E:=bU gg) zS hr⟩,zK⟩
def Hq (C:Code tab) (I:Wf H) {vm u a b:AV} {m n:Int} {x y:List Int} {e f g h:Nat} (hm:IntV H vm m) (hn:IntV H u n) (ha:RowV H a x) (hb:RowV H b y) (t:x.length=y.length) (p:x.length<=64) (k:Bt g m) (l:Bt h n) (hx:∀ z∈x,Bt e z) (hy:∀ z∈y,Bt f z) (G:g+e+h+f+1<=8796093022208) :
  Ans tab (.fn A5 [vm,a,u,b]) H fun v H'=>RowV H' v (Lin.prime (Lin.mix m x n y))/\Kp H H':=by
 obtain ⟨E,rfl,q⟩:=hm;obtain ⟨F,rfl,s⟩:=hn;have K:=q.one;have on:=s.one;refine Jw C.q146 zU fun T hl c d i j=>?_;refine zW (bB hl c d i j) ?_;refine AnsH.use (Ez C zF ⟨E,rfl,q.mono (zG H)⟩ ⟨F,rfl,s.mono (zG H)⟩ (ha.mono (zG H)) (hb.mono (zG H)) t p (k.len zO) (l.len zO) (fun z hz=>⟨(hx z hz).len zO,(k.mul (hx z hz)).sm zO⟩) (fun z hz=>⟨(hy z hz).len zO,(l.mul (hy z hz)).sm zO⟩)) ?_;rintro v H2 ⟨r,rfl,hr,w⟩;obtain ⟨k2,_,L⟩:=zT H zK w;refine zW (bB hl c d i j) ?_;refine AnsH.use (xG C zF (hr.mono (zG H2)) (by rw [Lin.mix_length rfl t.symm]; exact p) fun z hz=>(Jb k l hx hy z hz).sm zO) ?_;rintro v3 o ⟨r3,rfl,B,A⟩;have D:Kp H o:=Kp.trans k2 (Kp.trans zK A);have J:=D.le;refine zW (bB hl c d i j) ?_;exact ⟨B.mono (Sub.bump o _),zK⟩
abbrev CR (H0 H:Heap) (v:AV) (l:List Int):Prop:=Bl (bU (Fo .i64)) d9 H0 H v l
def LT (C:Code tab) (hw:Wf H) {a:AV} {x:List Int} {l:List (List Int)} {d e f:Nat} (ha:RowV H a x) (hs:pb H s l) (ab:l.length<=1024) (af:0<d) (hd:d<=64) (hx:x.length=d) (Q:∀ r∈l,r.length=d) (S:∀ z∈x,Bt e z) (L:∀ r∈l,∀ z∈r,Bt f z) (hb:e+f+7<=8796093022208) :
  Ans tab (.fn rC [a,s]) H fun v H'=>∃ q,v=.tup [q,.int .i64 0]/\CR H H' q (l.map fun r=>gJ (Lin.dot x r))/\Kp H H':=by
 have oa:=ha.one;refine Am C.q161 rfl rfl zU fun T hl g=>?_;have hl:T.length=55:=hl;have ax:c_sat_Signs.results=[(4,none),(5,none)]:=rfl;have J:ad T 0=a:=g 0 (by simp);have K:ad T 1=s:=g 1 (by simp);refine aI ?_;refine zW (aO hl J K @aw) ?_;refine dy (fun T' H'=>ad T' 5=.int .i64 0/\Kp H H') rfl ?_ ?_
 ·refine zW (aD hl J K) ?_;refine AnsH.eq (kJ C (ty:=0) zF (hs.mono (zG H)) ab ⟨af,hd,Q,fun r hr z hz=>(L r hr z hz).sm zO⟩) fun H2 O=>?_;obtain ⟨k2,_,_⟩:=zT H zK O;refine zW (aE hl @aZ) ?_;exact zK
 rintro T1 H1 F ⟨t5,k1⟩;have w1:=k1.wf;have t0:ad T1 0=a:=(F.at_ 0 zU).trans (zV (aE hl J));have t1:ad T1 1=s:=(F.at_ 1 zU).trans (zV (aE hl K));have t4:ad T1 4=.nilSl:=(F.at_ 4 zU).trans (zV hl);have B:T1.length=55:=F.len.trans (by simp only [dz]; exact hl);refine dy (fun T' H'=>ad T' 4=.nilSl/\ad T' 5=.int .i64 0/\Kp H H') rfl ?_ ?_
 ·refine zW (aD B t0 t1) ?_;refine AnsH.eq (pE C zF (ha.mono (zG H)) zO fun z hz=>(S z hz).sm zO) fun H2 O=>?_;obtain ⟨k2,_,_⟩:=zT H zK O;rcases YO l.length with h0 | h0
  ·have ap:lenV s=some (.int .i64 0):=by rw [hs.lenV,h0]; rfl
   refine zW (fo B t0 t1 ap t4 t5 @aZ) ?_;exact zK
  ·obtain ⟨w0,av,ao⟩:=dH (hs.mono k2.sub) h0;have aj:cS 1 s (.int .i64 0)=some (aB s 0):=SlV.idx1 hs .i64 0 h0;have l0:lenV w0=some (.int .i64 (d:Int)):=by rw [av.lenV,Q _ (mQ h0)]
   have la:lenV a=some (.int .i64 (d:Int)):=by rw [ha.lenV,hx]
   have au:(0:Int)<(l.length:Int):=zO;refine zW (Ih B t0 t1 hs.lenV au h0 aj ao l0 la t4 t5 @aZ) ?_;exact zK
 rintro T2 H2 R ⟨aH,aJ,k2⟩;have w2:=k2.wf;have X:ad T2 0=a:=(R.at_ 0 zU).trans t0;have aF:ad T2 1=s:=(R.at_ 1 zU).trans t1;have c:T2.length=55:=R.len.trans B;refine WC.wb ?_;refine zW (aO c X aF hs.lenV) ?_;refine aq H [4] (fun j vs H'=>∃ o,vs=[o]/\CR H H' o ((l.take j).map fun r=>gJ (Lin.dot x r))) (a:=0) (N:=l.length) rfl (by refine zW c ?_; rfl) (zV c) (xq _) zO (by simp only [dz,c]; rfl) rfl (fun j vs H' m ⟨o,h1,h2⟩=>⟨o,h1,h2.mono (Sub.bump H' m)⟩) zK ⟨.nilSl,by exact zV (aE c aH),Bl.nil⟩ ?_ ?_
 ·rintro j A i _ hj t ag G u ⟨o,y,D⟩;have w3:=u.wf;have aN:=u.le;simp only [uz,B3,Ae,and_true] at y;have aG:ad A 33=s:=(G.at_ 33 zU).trans (zV c);have aC:ad A 0=a:=(G.at_ 0 zU).trans (zV (aE c X));obtain ⟨w,hr,am⟩:=dH (hs.mono u.sub) hj;have ah:=SlV.idx1 hs .i64 j hj;have M:=mQ hj;have aM:=Q _ M;simp only [dz,c] at t;refine zW (dj t aG aC ag ah am) ?_;refine AnsH.use (mB C zF (ha.mono (zG H)) (hr.mono (zG i)) zO zO S (L _ M) hb) ?_;rintro v I ⟨r,rfl,⟨w4,rfl,U⟩,P⟩;obtain ⟨ay,_,_⟩:=zT i zK P;have aQ:=ay.wf;have n4:i.next+12<=I.next:=P.le
  have f4:I.get (i.next+9)=none:=P.free (show _<i.next+12 by omega) (w3.fresh (b:=i.next+9) zO);have ow:=U.one;have m9:NoTy [ae] I (i.next+9):=NoTy.none f4;refine zW (aE t y) ?_;refine AnsH.eq (pD C (x:=Lin.dot x l[j]) zF ⟨w4,rfl,SlV.monoT (E:=bU gg) zS U⟩ ((nf S (L _ M) zO zO).sm hb)) fun p al=>?_;obtain ⟨V,_,_⟩:=zT i zK al;have W:Kp H p:=u.trans V;have aP:=W.le;have ar:=D.mono V.sub;have aL:((l.take j).map fun r=>gJ (Lin.dot x r)).length=j:=by simp; omega
  obtain ⟨n,Y,Z,h2,k6,n6,-⟩:=Bl.push (ty2:=d9) (bytes:=8) (id:=p.next+3) (id2:=p.next+2) (k:=5) (cs:=[.int .i64 (gJ (Lin.dot x l[j]))]) (a:=gJ (Lin.dot x l[j])) ar (fun h=>by cases h) W ⟨_,rfl,rfl⟩ zO zO zO zO zO zO zO;have aa:dr ((p.up 5).put (p.next+2) (.cells [.int .i64 (gJ (Lin.dot x l[j]))] d9 true)) (p.next+3) 1 8 d9 o (.own (p.next+2) 0 1 1 1 true)=some (.own (p.next+3) 0 n n 1 false,Y):=Z;refine zW (aD t y aa) ?_;refine ⟨k6,_,rfl,?_⟩;rw [BU hj,Xz];exact h2
 ·rintro A i t G u ⟨o,y,D⟩;simp only [uz,B3,Ae,and_true] at y;have aK:ad A 5=.int .i64 0:=(G.at_ 5 zU).trans (zV (aE c aJ));simp only [dz,c] at t;rw [KO] at D;refine zW (aO t y aK ax) ?_;exact ⟨o,rfl,D,u⟩
end
section
variable {tab:Nat->Option aA} {base i k:Nat} {T0:Tm} {dst:Option Nat} {op:AOp} {us:List (Nat × Option Nat)} {adds:List Nat} {ds:List jT} {Vs:List AV} {Cs:List Heap} {Es:List (Option Ent)} {Q:DS->Prop}
def sJ {t:Nat} {w:Bool}:WD tab base T0 i (⟨dst,op,some (t,w),us,2,[(k,adds)]⟩ :: ds) ⟨Vs,Cs,Es⟩ Q =
  mY (ad (cw T0 Vs us) t) w (nj tab (Src.ev (cw T0 Vs us)) (dL base Es (Cs.getD k default) adds) (base+i) op fun v H'=>WD tab base T0 (i+1) ds ⟨Vs++[v],Cs++[H'],Es++[none]⟩ Q) (WD tab base T0 (i+1) ds ⟨Vs++[.tup []],Cs++[dL base Es (Cs.getD k default) adds],Es++[none]⟩ Q) () ():=by
 rw [Ej];have a:b7 (cw T0 Vs us) (some (t,w))=match ad (cw T0 Vs us) t with | .bool b=>some (b == w) | .tup []=>some false | _=>none:=by
  generalize cw T0 Vs us=T
  unfold ad;rw [iF];cases h:T[t]? with
  | none=>simp only [b7,h]; rfl
  | some v =>
   simp only [b7,h,Yc];cases v with
   | tup vs=>cases vs <;> rfl
   | _=>rfl
 conv=>lhs; unfold wd
 simp only [a,mY];cases ad (cw T0 Vs us) t with
 | bool b=>cases b <;> cases w <;> rfl
 | tup vs=>cases vs <;> rfl
 | _=>rfl
end
def zX {F P Q:Prop} (f:F) (q:Q) (h:F->Q->P:=by intro h q; simp -dsimp (maxSteps:=1000000) (disch:=(first | omega | assumption | exact ai _ | exact bo _ _ | exact bH | exact cY _ _ _ | exact b9 _ _ | exact bT _ _ _ _ _ _ | exact dm _ _ | exact cz _)) only [↓yM,yL,↓Uk,Uj,↓sJ,Nat.reduceLT,Nat.reduceEqDiff,Nat.reduceAdd,reduceIte,reduceCtorEq,Nat.reduceBEq,Int.reduceEq,Int.reduceLT,Int.reduceLE,Int.reduceAdd,Int.reduceSub,h]; exact q):P:=h f q
def Qc (a b:Nat):Nat:=(BitVec.ofNat 64 a &&& ~~~ BitVec.ofNat 64 b).toNat
def TV (a b:Nat):Qc a b<18446744073709551616:=(BitVec.ofNat 64 a &&& ~~~ BitVec.ofNat 64 b).isLt
def sW (a:Nat):BitVec.ofInt 64 (a:Int)=BitVec.ofNat 64 a:=by
 apply BitVec.eq_of_toNat_eq
 simp
def M7 {a b:Nat} (ha:a<18446744073709551616) (hb:b<18446744073709551616):bY .and .int (.int .u64 (a:Int)) (.int .u64 (b:Int))=some (.int .u64 ((a &&& b:Nat):Int)):=by
 have e:(BitVec.ofInt 64 (a:Int) &&& BitVec.ofInt 64 (b:Int)).toNat=a &&& b:=by
  rw [sW,sW,BitVec.toNat_and,BitVec.toNat_ofNat,BitVec.toNat_ofNat,Sl zO,Sl zO]
 have hlt:a &&& b<=a:=Nat.and_le_left;show some (AV.int .u64 (IntKind.u64.wrap ((BitVec.ofInt 64 (a:Int) &&& BitVec.ofInt 64 (b:Int)).toNat:Nat)))=_;rw [e,gH zO zO]
def FJ (a b:Nat):bY .andNot .int (.int .u64 (a:Int)) (.int .u64 (b:Int))=some (.int .u64 ((Qc a b:Nat):Int)):=by
 have hlt:=TV a b;show some (AV.int .u64 (IntKind.u64.wrap ((BitVec.ofInt 64 (a:Int) &&& ~~~ BitVec.ofInt 64 (b:Int)).toNat:Nat)))=_;rw [sW,sW];show some (AV.int .u64 (IntKind.u64.wrap ((Qc a b:Nat):Int)))=_;rw [gH zO zO]
def PY {a b:Nat}:Qc a b=0 ↔ ∀ j,j<64->a.testBit j=true->b.testBit j=true:=by
 unfold Qc;constructor
 ·intro h j hj ha;have h1:(BitVec.ofNat 64 a &&& ~~~ BitVec.ofNat 64 b).getLsbD j=false:=by
   rw [<- BitVec.testBit_toNat,h]; simp
  rw [BitVec.getLsbD_and,BitVec.getLsbD_not,BitVec.getLsbD_ofNat,BitVec.getLsbD_ofNat,decide_eq_true hj] at h1
  simpa [ha] using h1
 ·intro h;have h1:(BitVec.ofNat 64 a &&& ~~~ BitVec.ofNat 64 b)=0#64:=by
   apply BitVec.eq_of_getLsbD_eq
   intro j hj
   have:=h j hj
   rw [BitVec.getLsbD_and,BitVec.getLsbD_not,BitVec.getLsbD_ofNat,BitVec.getLsbD_ofNat,decide_eq_true hj];cases ha:a.testBit j with
   | false=>simp
   | true=>simp [this ha]
  rw [h1]; rfl
structure MaskUp (bs:List Bool) (k:Nat) (W:List Nat):Prop where
 len:W.length=bs.length / 64+1
 lt:∀ i,W.getD i 0<18446744073709551616
 bit:∀ i j,j<64->(W.getD i 0).testBit j=(decide (64*i+j<k) && bs.getD (64*i+j) false)
abbrev qD (bs:List Bool) (W:List Nat):Prop:=MaskUp bs bs.length W
def MaskUp.zero (bs:List Bool):MaskUp bs 0 (List.replicate (bs.length / 64+1) 0):=by
 have h0:∀ i,(List.replicate (bs.length / 64+1) 0).getD i 0=0:=fun i=>by
  rw [iF,XG]; split <;> rfl
 exact ⟨by simp,fun i=>by rw [h0]; decide,fun i j _=>by rw [h0]; simp⟩
def MaskUp.skip {bs:List Bool} {k:Nat} {W:List Nat} (h:MaskUp bs k W) (hb:bs.getD k false=false):MaskUp bs (k+1) W:=by
 refine ⟨h.len,h.lt,fun i j hj=>?_⟩;rw [h.bit i j hj];by_cases e:64*i+j=k
 ·rw [e,hb]; simp
 ·congr 2;simp only [eq_iff_iff];omega
def MaskUp.mark {bs:List Bool} {k:Nat} {W:List Nat} (h:MaskUp bs k W) (d:k<bs.length) (hb:bs.getD k false=true):MaskUp bs (k+1) (W.set (k / 64) (W.getD (k / 64) 0 ||| 2^(k % 64))):=by
 have hi:k / 64<W.length:=by rw [h.len]; have:=Nat.div_le_div_right (c:=64) (Ys d); omega
 have hp:(2:Nat)^(k % 64)<2^64:=ZP zU (XD _ zU);have hg:∀ i,(W.set (k / 64) (W.getD (k / 64) 0 ||| 2^(k % 64))).getD i 0=if i=k / 64 then W.getD (k / 64) 0 ||| 2^(k % 64) else W.getD i 0:=fun i=>by
  rw [iF,YX];by_cases e:k / 64=i
  ·subst e; rw [if_pos rfl,if_pos hi,if_pos rfl]; rfl
  ·rw [if_neg e,if_neg (fun e'=>e e'.symm),<- iF]
 refine ⟨by rw [dz]; exact h.len,fun i=>?_,fun i j hj=>?_⟩
 ·rw [hg];split
  ·have:=h.lt (k / 64)
   have h2:W.getD (k / 64) 0 ||| 2^(k % 64)<2^64:=Nat.or_lt_two_pow zO hp
   omega
  ·exact h.lt i
 ·rw [hg];by_cases b:i=k / 64
  ·rw [if_pos b,Nat.testBit_or,<- b,h.bit i j hj,Nat.testBit_two_pow];by_cases e:64*i+j=k
   ·have a:k % 64=j:=zO;rw [e,hb,a]; simp
   ·have a:¬ k % 64=j:=zO;rw [decide_eq_false a,Bool.or_false];congr 2;simp only [eq_iff_iff];omega
  ·rw [if_neg b,h.bit i j hj];have e:64*i+j≠k:=zO;congr 2;simp only [eq_iff_iff];omega
def Fs (bt a bb:List Bool):Bool:=(List.range bt.length).all fun k=>!(a.getD k false && bb.getD k false) || bt.getD k false
def GU {bt a bb:List Bool} {T A B:List Nat} (e:qD bt T) (ha:qD a A) (hb:qD bb B) (h1:a.length=bt.length) (h2:bb.length=bt.length) :
  Fs bt a bb=true ↔ ∀ i,i<T.length->Qc (A.getD i 0 &&& B.getD i 0) (T.getD i 0)=0:=by
 have key:∀ i,Qc (A.getD i 0 &&& B.getD i 0) (T.getD i 0)=0 ↔ ∀ j,j<64->64*i+j<bt.length->a.getD (64*i+j) false=true->bb.getD (64*i+j) false=true->bt.getD (64*i+j) false=true:=fun i=>by
  rw [PY];constructor
  ·intro h j hj hlt p q
   have:=h j hj (by rw [Nat.testBit_and,ha.bit i j hj,hb.bit i j hj,p,q,decide_eq_true zO,decide_eq_true zO]; rfl)
   rw [e.bit i j hj,Ky] at this;exact this.2
  ·intro h j hj b;rw [Nat.testBit_and,ha.bit i j hj,hb.bit i j hj] at b;simp only [Ky,decide_eq_true_eq] at b;rw [e.bit i j hj,Ky,decide_eq_true_eq];exact ⟨zO,h j hj zO b.1.2 b.2.2⟩
 unfold Fs;rw [GR];constructor
 ·intro h i _;rw [key];intro j _ hlt p q
  have:=h (64*i+j) (by simpa using hlt)
  rw [p,q] at this
  simpa using this
 ·intro h k d;have d:k<bt.length:=by simpa using d
  have hlt:k / 64<T.length:=by rw [e.len]; have:=Nat.div_le_div_right (c:=64) (Ys d); omega
  have hm:=(key (k / 64)).1 (h _ hlt) (k % 64) (XD _ zU);rw [XP] at hm;cases p:a.getD k false with
  | false=>simp
  | true =>
   cases q:bb.getD k false with
   | false=>simp
   | true=>simpa using hm d p q
section
variable {tab:Nat->Option aA} {H:Heap} {s:AV}
def PH (C:Code tab) (L:Wf H) {u va t:AV} {bt m bb:List Bool} {c A d:List Nat} (q:Lb H u c) (ha:Lb H va A) (hb:Lb H t d) (s:qD bt c) (o:qD m A) (mb:qD bb d) (h1:m.length=bt.length) (h2:bb.length=bt.length) (J:bt.length<1099511627776) :
  Ans tab (.fn uU [u,va,t]) H fun v H'=>v=.bool (Fs bt m bb)/\Kp H H':=by
 refine lC C.q162 zU fun T hl f g k=>?_;have hlt:=s.len;have B:=o.len;have D:=mb.len;rw [h1] at B;rw [h2] at D;have K:bt.length / 64<=bt.length:=Zf _ _;refine zW (bB hl f g k q.lenV) ?_;refine aq H [] (fun j _ _=>∀ i,i<j->Qc (A.getD i 0 &&& d.getD i 0) (c.getD i 0)=0) (a:=0) (N:=c.length) rfl (by refine zW (aO hl f g k) ?_; rfl) (zV (aO hl f g k)) (xq _) zO (by simp only [dz,hl]; rfl) rfl (fun _ _ _ _ h=>h) zK (fun i h=>by omega) ?_ ?_
 ·intro j T1 x _ hj b w n l p;have w1:=l.wf;have M:=l.le;have t9:ad T1 9=u:=(n.at_ 9 zU).trans (zV (aO hl f g k));have t1:ad T1 1=va:=(n.at_ 1 zU).trans (zV (aO hl f g k));have G:ad T1 2=t:=(n.at_ 2 zU).trans (zV (aO hl f g k));have I:=SlV.idx1 q .i64 j hj;have x1:=SlV.idx1 ha .i64 j zO;have x2:=SlV.idx1 hb .i64 j zO;have d0:=fM (q.mono l.sub) hj;have d1:=fM (ha.mono l.sub) (i:=j) zO;have d2:=fM (hb.mono l.sub) (i:=j) zO;have E:=o.lt j;have F:=mb.lt j;have y:=M7 E F;have z:=FJ (A.getD j 0 &&& d.getD j 0) (c.getD j 0);simp only [dz,hl] at b;refine zW (bB b t9 w I d0) ?_;refine aF ?_;refine zD (ia b t9 t1 G w x1 x2 d1 d2 y z) ?_;refine iteH.split (fun hz=>?_) fun hz=>?_
  ·have r:¬ Qc (A.getD j 0 &&& d.getD j 0) (c.getD j 0)=0:=zO;simp only [je,ko,jd,mo,Y0,YQ,tF,qC,List.getLastD_cons,List.getLastD_nil,Zg,Yh];refine zW b ?_;refine ⟨?_,zK⟩;cases hh:Fs bt m bb with
   | false=>rfl
   | true=>exact absurd ((GU s o mb h1 h2).1 hh j hj) r
  ·have r:Qc (A.getD j 0 &&& d.getD j 0) (c.getD j 0)=0:=zO;simp only [je,ko,jd,mo,Y0,YQ,tF,qC,List.getLastD_cons,List.getLastD_nil,Zg,Yh];refine zW b ?_;refine ⟨zK,fun i hi=>?_⟩;by_cases e:i=j
   ·subst e; exact r
   ·exact p i zO
 ·intro T1 x b n l p;simp only [dz,hl] at b;refine zW b ?_;exact ⟨by rw [(GU s o mb h1 h2).2 p],zK⟩
end
def R9 {k:Nat} (a:k<4611686018427387904):bY .quo .int (.int .i64 (k:Int)) (.int .i64 64)=some (.int .i64 ((k / 64:Nat):Int)):=OD (c:=64) zO a
def Uu (k:Nat):bY .rem .int (.int .i64 (k:Int)) (.int .i64 64)=some (.int .i64 ((k % 64:Nat):Int)):=OB (c:=64) zO
def zeros (r:List Int) (D:List (List Int)):List Bool:=D.map fun b=>decide (Lin.dot r b=0)
def xC (r:List Int) (D:List (List Int)):(zeros r D).length=D.length:=by simp [zeros]
def iK (x:Int):gJ x=0 ↔ x=0:=by unfold gJ; split <;> (try split) <;> omega
section
variable {tab:Nat->Option aA} {H:Heap} {s:AV}
def MW (C:Code tab) (hw:Wf H) {ub:Nat} {ql qr qd vr:AV} {r:List Int} {D:List (List Int)} {d e f:Nat} (K:H.get ub=some (.cells [ql,qr,qd] aT true)) (I:pb H qd D) (hr:RowV H vr r) (M:D.length<=1024) (Q:0<d) (hd:d<=64) (ah:r.length=d) (P:∀ x∈D,x.length=d) (ag:∀ z∈r,Bt e z) (O:∀ x∈D,∀ z∈x,Bt f z) (hb:e+f+7<=8796093022208) :
  Ans tab (.fn fg [.ptr ub 0,vr]) H fun v H'=>∃ W,Lb H' v W/\qD (zeros r D) W/\Kp H H':=by
 refine bA C.q143 zU fun T hl i l=>?_;have au:=hw _ _ K;have Y:=R9 (k:=D.length) zO;have ap:D.length / 64<=D.length:=Zf _ _;have L:IntKind.i64.wrap (((D.length / 64:Nat):Int)+1)=((D.length / 64+1:Nat):Int):=by rw [wrap_i64] <;> omega
 have V:∀ H':Heap,Ja H' (H.next+8) ae 1 8 [.int .u64 0] (.int .i64 ((D.length / 64+1:Nat):Int)) (.int .i64 ((D.length / 64+1:Nat):Int))=some (.own (H.next+8) 0 (D.length / 64+1) (D.length / 64+1) 1 true,H'.put (H.next+8) (.cells ((List.replicate (D.length / 64+1) [AV.int .u64 0]).flatten) ae true)):=fun H'=>iS _ _ _ _ _ _ _ _ _ zO zO rfl;refine zW (fX hl i l K I.lenV Y L V) ?_;refine AnsH.use (LT C zF (hr.mono (zG H)) (I.mono (zG H)) M Q hd ah P ag O hb) ?_;rintro v H2 ⟨q,rfl,aa,B⟩;obtain ⟨k2,_,w2⟩:=zT H zK B;have b0:=B.get (b:=H.next+8) (e:=.cells (aN (List.replicate (D.length / 64+1) 0)) ae true) (cC);have J:=aa.sl;have s:=xC r D;refine zW (bB hl i l J.lenV @List.length_map.{0,0}) ?_;have ab:SlV (bU (Fo .i64)) d9 H2 q (D.map fun b=>gJ (Lin.dot r b)):=J;refine aq H [] (fun j _ H'=>∃ W,H'.get (H.next+8)=some (.cells (aN W) ae true)/\MaskUp (zeros r D) j W/\SlV (bU (Fo .i64)) d9 H' q (D.map fun b=>gJ (Lin.dot r b))) (a:=0) (N:=D.length) rfl (by refine zW (aD hl i l) ?_; rfl) (zV (aD hl i l)) (xq _) zO (by simp only [dz,hl]; rfl) rfl (fun j vs H' m ⟨W,h1,h2,h3⟩=>⟨W,h1,h2,h3.mono (Sub.bump H' m)⟩) zK ⟨_,by exact b0,by rw [<- s]; exact MaskUp.zero _,ab.mono (Sub.bump H2 _)⟩ ?_ ?_
 ·rintro j T1 t _ hj n A w o ⟨W,hW,g,p⟩;have w1:=o.wf;have am:=o.le;have ar:=w1 _ _ hW;have ao:ad T1 27=q:=(w.at_ 27 zU).trans (zV (aD hl i l));have t5:ad T1 5=.own (H.next+8) 0 (D.length / 64+1) (D.length / 64+1) 1 true:=(w.at_ 5 zU).trans (zV (aD hl i l));have al:(D.map fun b=>gJ (Lin.dot r b))[j]? = some (gJ (Lin.dot r D[j])):=by simp [hj]
  obtain ⟨c,hc,F⟩:=SlV.at1 p al;have hc:c=.int .i64 (gJ (Lin.dot r D[j])):=hc;rw [hc] at F;have R:=SlV.idx1 p .i64 j (by simp; exact hj);have y:(zeros r D).getD j false=decide (Lin.dot r D[j]=0):=by simp [zeros,hj]
  have u:=g.len;rw [s] at u;have S:j / 64<D.length / 64+1:=by have:=Nat.div_le_div_right (c:=64) (Ys hj); omega
  have U:j / 64<W.length:=zO;have Z:=R9 (k:=j) zO;have af:=Uu j;have G:j % 64<64:=XD _ zU;have aj:=HP (r:=j % 64) G (k:=.i64);have hp:(2:Nat)^(j % 64)<2^64:=ZP zU G;have X:=xv (g.lt (j / 64)) (b:=2^(j % 64)) zO;simp only [dz,hl] at n;refine zW (bB n ao A R F) ?_;refine iteH.split (fun h=>?_) fun h=>?_
  ·have hz:=(iK _).1 h;refine aF ?_;refine zD (oK n t5 A Z af aj X hW S U) ?_;have m8:NoTy [d9] t (H.next+8):=NoTy.ty hW zU;refine ⟨zK,_,rfl,g.mark (by rw [s]; exact hj) (by rw [y,decide_eq_true hz]),SlV.monoT (E:=bU (Fo .i64)) zS p⟩
  ·have hz:¬ Lin.dot r D[j]=0:=fun e=>h ((iK _).2 e);refine zW n ?_;exact ⟨zK,W,hW,g.skip (by rw [y,decide_eq_false hz]),p.mono (Sub.bump t _)⟩
 ·rintro T1 t n w o ⟨W,hW,g,p⟩;have w1:=o.wf;have am:=o.le;have t5:ad T1 5=.own (H.next+8) 0 (D.length / 64+1) (D.length / 64+1) 1 true:=(w.at_ 5 zU).trans (zV (aD hl i l));simp only [dz,hl] at n;have u:=g.len;rw [s] at u;refine zW (aE n t5) ?_;rw [<- s] at g;exact ⟨W,(ww (H0:=H) hW zO u).sl.mono (Sub.bump t _),g,zK⟩
abbrev TZ (H:Heap) (v:AV) (Ws:List (List Nat)):Prop:=AD (tT (bU gg) ae) sG H v Ws
def BE (zs:List (List Bool)) (i k:Nat):Bool:=(List.range zs.length).all fun t=>t == i || t == k || !Fs (zs.getD t []) (zs.getD i []) (zs.getD k [])
def MV (C:Code tab) (hw:Wf H) {vm:AV} {Ws:List (List Nat)} {zs:List (List Bool)} {n i k:Nat} (hm:TZ H vm Ws) (ae:Ws.length=zs.length) (J:∀ t (h:t<zs.length) (h':t<Ws.length),qD zs[t] Ws[t]) (hn:∀ z∈zs,z.length=n) (aa:n<1099511627776) (ab:zs.length<1099511627776) (hi:i<zs.length) (B:k<zs.length) :
  Ans tab (.fn nE [vm,.int .i64 (i:Int),.int .i64 (k:Int)]) H fun v H'=>v=.bool (BE zs i k)/\Kp H H':=by
 refine lC C.q144 zU fun T hl d f g=>?_;refine zW (bB hl d f g hm.lenV) ?_;refine aq H [] (fun j _ _=>∀ t,t<j->(t == i || t == k || !Fs (zs.getD t []) (zs.getD i []) (zs.getD k []))=true) (a:=0) (N:=Ws.length) rfl (by refine zW (aO hl d f g) ?_; rfl) (zV (aO hl d f g)) (xq _) zO (by simp only [dz,hl]; rfl) rfl (fun _ _ _ _ h=>h) zK (fun i h=>by omega) ?_ ?_
 ·rintro j T1 c _ hj b l r q o;have w1:=q.wf;have af:=q.le;have t9:ad T1 9=vm:=(r.at_ 9 zU).trans (zV (aO hl d f g));have t0:ad T1 0=vm:=(r.at_ 0 zU).trans (zV (aO hl d f g));have t1:ad T1 1=.int .i64 (i:Int):=(r.at_ 1 zU).trans (zV (aO hl d f g));have s:ad T1 2=.int .i64 (k:Int):=(r.at_ 2 zU).trans (zV (aO hl d f g));have G:=hm.mono q.sub;have y:i<Ws.length:=zO;have D:k<Ws.length:=zO;have u:j<zs.length:=zO;obtain ⟨Y,L,V⟩:=SlV.at1 G (eA hj);obtain ⟨X,K,E⟩:=SlV.at1 G (eA y);obtain ⟨Z,M,F⟩:=SlV.at1 G (eA D);have L:Lb c Y Ws[j]:=L;have K:Lb c X Ws[i]:=K;have M:Lb c Z Ws[k]:=M;have xj:=SlV.idx1 hm .i64 j hj;have O:=SlV.idx1 hm .i64 i y;have P:=SlV.idx1 hm .i64 k D;have R:zs.getD j []=zs[j]:=by simp [u]
  have Q:zs.getD i []=zs[i]:=by simp [hi]
  have S:zs.getD k []=zs[k]:=by simp [B]
  simp only [dz,hl] at b;refine zW (bB b t9 l xj V) ?_;refine aF ?_;by_cases m:j=i
  ·subst m;refine zD (fo b t0 t1 s l @sJ @ap) ?_;refine ⟨zK,fun t x=>?_⟩;by_cases e:t=j
   ·subst e; simp
   ·exact o t zO
  ·have w:¬ (j:Int)=(i:Int):=zO;by_cases p:j=k
   ·subst p;refine zD (jU b t0 t1 s l @sJ @ap m w) ?_;refine ⟨zK,fun t x=>?_⟩;by_cases e:t=j
    ·subst e; simp
    ·exact o t zO
   ·have A:¬ (j:Int)=(k:Int):=zO;refine zD (Ny b t0 t1 s l @sJ @ap m w p A O P E F) ?_;have lj:=hn _ (mQ u);have li:=hn _ (mQ hi);have lk:=hn _ (mQ B);refine AnsH.eq (PH C zF (L.mono (zG c)) (K.mono (zG c)) (M.mono (zG c)) (J j u hj) (J i hi y) (J k B D) zO zO zO) fun H2 U=>?_;obtain ⟨k2,_,_⟩:=zT c zK U;have W:Kp H H2:=q.trans k2;have ag:=W.le;cases hh:Fs zs[j] zs[i] zs[k] with
    | true =>
     refine zD (Ny b t0 t1 s l @sJ @ap m w p A O P E F) ?_;refine ⟨?_,zK⟩;cases I:BE zs i k with
     | false=>rfl
     | true =>
      unfold BE at I;rw [GR] at I
      have:=I j (by simpa using u)
      rw [R,Q,S,hh] at this;simp [m,p] at this
    | false =>
     refine zD (Ny b t0 t1 s l @sJ @ap m w p A O P E F) ?_;refine ⟨zK,fun t x=>?_⟩;by_cases e:t=j
     ·subst e; rw [R,Q,S,hh]; simp
     ·exact o t zO
 ·rintro T1 c b r q o;simp only [dz,hl] at b;refine zW b ?_;refine ⟨?_,zK⟩
  have:BE zs i k=true:=by
   unfold BE;rw [GR];intro t x;exact o t (by simp at x; omega)
  rw [this]
end
end Go.Proofs.YteaefaohjlmjdaaGreat.Ev
