/- A part. -/
import Derived.Test.YteaefaohjlmjdaaGreatA0
import Derived.Test.YteaefaohjlmjdaaGreatEvHeap
import Derived.Scope
import Derived.Maps.RangeRun
import Derived.Sort.Row
import Derived.Sort.Grow
import Derived.Sort.Statements
import Derived.Deep.Draws
import Derived.Laws.Externs
import Derived.Lib.Bytealg
import Derived.CallsIn
set_option linter.all false
namespace Go.Proofs.YteaefaohjlmjdaaGreat.Ev
open Go
def JC {α β:Type} {f:α->Option β}:∀ (xs:List α) (ys:List β),xs.mapM f=some ys->ys.length=xs.length/\∀ (i:Nat) (x:α),xs[i]? = some x->∃ y,ys[i]? = some y/\f x=some y
 | [],ys,h=>by simp at h; subst h; exact ⟨rfl,fun i x h=>by simp at h⟩
 | x :: xs,ys,h=>by
  simp only [WK,Xp,U8,U3] at h;obtain ⟨y,hy,ys',hys,h⟩:=h;cases h;obtain ⟨h1,h2⟩:=JC xs ys' hys;refine ⟨by simp [h1],fun i x' hx=>?_⟩;cases i with
  | zero=>simp at hx; subst hx; exact ⟨y,rfl,hy⟩
  | succ i=>simpa using h2 i x' (by simpa using hx)
theorem getD_of {α:Type} {l:List α} {i:Nat} {x d:α} (h:l[i]? = some x):l.getD i d=x:=by rw [U5,h]; rfl
def TN (l:List DI) (i:Nat):jx :=
 let d:=l.getD i default
 { dst:=d.dst,op:=d.op,guard:=d.guard,uses:=((d.op.slots++(match d.guard with | some (t,_)=>[t] | none=>[])).eraseDups).map fun t=>(t,JI l i d.preds t),cls:=d.cls,looks:=JE l i:jx }
def IK {P:Program} {ops:Array Oper} {os:List Oper} {pr:List (List Nat)} {l:List DI} {ds:List jx} (hos:∀ (i:Nat) (o:Oper),os[i]? = some o->ops[i]? = some o)
  (hl:os.zipIdx.mapM (fun (o,i)=>TP P ops pr o i)=some l) (hds:(List.range l.length).map (TN l)=ds) (hok:IL os l ds=true):uG P ops l ds/\l.length=os.length:=by
 obtain ⟨h1,h2⟩:=JC _ _ hl;have hlen:l.length=os.length:=by simpa using h1
 simp only [IL,VG] at hok;obtain ⟨⟨⟨ok1,ok2⟩,ok3⟩,ok4⟩:=hok;have hdlen:ds.length=l.length:=by rw [<- hds]; simp
 have hosl:∀ i,i<l.length->∃ o,os[i]? = some o:=fun i hi=>⟨os[i]'(hlen ▸ hi),U7 _⟩
 have hop:∀ i,i<l.length->∃ o,ops[i]? = some o/\TP P ops pr o i=some (l.getD i default):=by
  intro i hi;have hx:os.zipIdx[i]? = some (os[i]'(hlen ▸ hi),i):=by simp [hlen ▸ hi]
  obtain ⟨y,hy,hf⟩:=h2 i _ hx;exact ⟨_,hos i _ (U7 (hlen ▸ hi)),by rw [getD_of hy]; exact hf⟩
 have hoget:∀ i o,i<l.length->ops[i]? = some o->os.getD i default=o:=by
  intro i o hi ho;obtain ⟨o',ho'⟩:=hosl i hi
  have:=hos i o' ho'
  rw [ho] at this; cases this;exact getD_of ho'
 have hsz:l.length<=ops.size:=by
  rcases Xd l.length with h | h
  ·omega
  ·obtain ⟨o,ho⟩:=hosl (l.length-1) zO
   have:=(Wc.1 (hos _ _ ho)).1
   omega
 simp only [Jp,Vy,Wm,VG,VO,WT,beq_iff_eq,decide_eq_true_eq,WY] at ok1;simp only [Jq,Vy,Wm,VG,WT,V8,bne_iff_ne,ne_eq,WY,Option.isNone_iff_eq_none] at ok2;simp only [NT,Vy,Wm] at ok3;simp only [Jr,Vy,Wm,VG] at ok4;refine ⟨⟨hsz,hdlen,fun i hi=>?_,fun i hi=>?_,fun i hi=>?_,fun i o hi ho j hj=>?_,fun i o hi ho p hp=>?_,fun i j hij hj h1 h2=>?_,fun i j hij hj h1 h2=>?_,fun i hi t j hu=>?_,fun i hi t hu j' hj' hd=>?_,fun i hi k adds hm a ha=>?_,fun i hi hc k hk=>?_,fun i hi hc=>?_⟩,hlen⟩
 ·obtain ⟨o,ho,hd⟩:=hop i hi;simp only [TP,Vf] at hd;obtain ⟨g,hg,hd⟩:=hd;exact ⟨o,ho,by unfold eI; rw [<- hd],by rw [<- hd]; exact hg,by rw [<- hd]⟩
 ·obtain ⟨x,hx,he⟩:∃ x,ds[i]? = some x/\x.dst=eI l i/\x.op=(l.getD i default).op/\x.guard=(l.getD i default).guard/\x.cls=ft l i:=by
   rw [<- hds,V5,XW hi];exact ⟨_,rfl,rfl,rfl,rfl,rfl⟩
  rw [getD_of hx];exact he
 ·obtain ⟨o,ho,hd⟩:=hop i hi;simp only [TP,Vf] at hd;obtain ⟨g,hg,hd⟩:=hd;unfold ft;rw [<- hd];simp only [Rk];split
  ·exact .inl rfl
  ·split
   ·exact .inr (.inl rfl)
   ·exact .inr (.inr rfl)
 ·have he:=hoget i o hi ho;exact (ok1 i hi).1 j (by rw [he]; exact hj)
 ·have he:=hoget i o hi ho;obtain ⟨j,hj,hh⟩:=(ok1 i hi).2 p hp;rw [he] at hj;exact ⟨j,hj,hh⟩
 ·rcases (ok2 j hj i hij).1 with (h | h) | h
  ·exact absurd h h1
  ·exact absurd h2 h
  ·exact h
 ·rcases (ok2 j hj i hij).2 with h | h
  ·rw [show (l.getD i default).cls=2 from h1,show (l.getD j default).cls=2 from h2] at h; simp at h
  ·exact h
 ·have:=ok3 i hi (t,some j) hu
  simp only [NU,VG,Vy,Wm,WT,beq_iff_eq,decide_eq_true_eq,WY,bne_iff_ne,ne_eq] at this;obtain ⟨⟨⟨g1,g2⟩,g3⟩,g4⟩:=this;refine ⟨g1,g2,g3,fun j' hj' hd=>?_⟩;rcases g4 j' hj' with ((h | h) | h) | h
  ·exact absurd hd h
  ·exact .inl h
  ·exact .inr (.inl h)
  ·exact .inr (.inr h)
 ·have:=ok3 i hi (t,none) hu
  simp only [NU,Vy,Wm,WT,beq_iff_eq,WY,bne_iff_ne,ne_eq] at this;rcases this j' hj' with (h | h) | h
  ·exact absurd hd h
  ·exact .inl h
  ·exact .inr h
 ·have:=(ok4 i hi).1 (k,adds) hm
  simp only [NW,Vy,VG,beq_iff_eq,decide_eq_true_eq,WY,V8,] at this;obtain ⟨⟨⟨g1,g2⟩,g3⟩,g4⟩:=this a ha;exact ⟨g1,g2,by simpa using g3,g4⟩
 ·have:=(ok4 i hi).2
  rw [if_pos (show (l.getD i default).cls=0 from hc)] at this;simp only [NV,Vy,Wm,WT,VO,VG,beq_iff_eq,decide_eq_true_eq,WY] at this;rcases this k zO with ⟨q,hq,h | h⟩ | ⟨p,hp,rfl⟩
  ·exact .inl ⟨q,hq,h.1,h.2⟩
  ·exact .inr (.inl ⟨q,hq,h.1,h.2⟩)
  ·exact .inr (.inr ⟨p.2,hp⟩)
 ·have:=(ok4 i hi).2
  rw [if_neg (show ¬ (l.getD i default).cls=0 by have:(l.getD i default).cls=2:=hc; omega),if_neg (show ¬ (l.getD i default).cls=1 by have:(l.getD i default).cls=2:=hc; omega)] at this;unfold Rc at this;split at this
  ·rename_i p hp;simp only [VG,Vy,Wm,beq_iff_eq,decide_eq_true_eq] at this;obtain ⟨⟨g1,g2⟩,g3⟩:=this;refine ⟨p.1,p.2,hp,g1,g2,fun a ha=>?_⟩
   have:=g3 a ha
   have h1:(a∈dC l (p.1+1)) ↔ (dC l (p.1+1)).contains a=true:=by simp
   rw [h1,this]
   simp
  ·cases this
def Gb {P:Program} {ops:Array Oper} {ds:List jx} {late:List Nat} (h:Ka P ops=some (ds,late)):∃ l,uG P ops l ds/\l.length=ops.size/\late=xB l:=by
 simp only [Ka] at h;split at h
 ·cases h
 rename_i l hl;split at h
 rotate_left
 ·cases h
 rename_i hok;simp only [VL,Prod.mk.injEq] at h;obtain ⟨hds,hlate⟩:=h;rw [hds] at hok;obtain ⟨G,hlen⟩:=IK (ops:=ops) (os:=ops.toList) (fun i o h=>by simpa using h) hl hds hok;exact ⟨l,G,by simpa using hlen,hlate.symm⟩
def uE {l:List DI} {ds:List jx} (hlen:ds.length=l.length) (hc:∀ i,i<l.length->(ds.getD i default).cls=ft l i) :
  ∀ q,q<=l.length->((ds.take q).filter fun d=>d.cls == 2).length=((List.range q).filter fun i=>(l.getD i default).cls == 2).length
 | 0,_=>rfl
 | q+1,h=>by
  rw [Vi zO,ZI,Wo,Wo,Vr,Vr,uE hlen hc q zO]
  have:=hc q zO
  rw [U5,U7 zO,WJ] at this;congr 1;simp only [Xg,Yc];rw [this,show (l.getD q default).cls=ft l q from rfl];split <;> rfl
section
variable {P:Program} {ops:Array Oper} {l:List DI} {ds:List jx} {T0:Tm} {s:DS} {base:Nat} {F:Nat->Prop} {μ0:Mu} {H0:Heap} {w0:World} {df:List Deferred}
def OE {cal:oA} (hcal:nG P cal) {fence:Fence} {rd:Bool} (hF:FenceOK fence rd) {n:Nat} {Q:Exit->Act->World->Prop} (G:uG P ops l ds) (hlen:l.length=ops.size)
  (hop:∀ i,i<l.length->TV cal base T0 s i (ds.getD i default)) (hsame:∀ i,i<l.length->kj base T0 s i (ds.getD i default)=true)
  (hQ:∀ S k μ a w,(∀ j,j<l.length->S j=true)->Inv P l T0 s base F μ0 H0 w0 df S k μ a w->Q .normal a w) :
  ∀ (fuel:Nat) (listed:Array Bool) (k:Nat) (μ:Mu) (a:Act) (w:World),listed.size=l.length->Mw (fun j=>listed.getD j false) l.length=fuel ->
   Inv P l T0 s base F μ0 H0 w0 df (fun j=>listed.getD j false) k μ a w->wpAnyIn fence n P .any ops Q fuel listed a w:=by
 intro fuel
 induction fuel with
 | zero =>
  intro listed k μ a w hsz hcnt J;have hall:=Gp _ hcnt;refine ⟨?_,hQ _ k μ a w hall J⟩
  apply List.eq_nil_iff_forall_not_mem.2
  intro j hj;have h0:=(mem_ready.1 hj).1;have hlt:j<listed.size:=by
   rcases Y4 j listed.size with h | h
   ·exact h
   ·simp [X8 h] at h0
  have:=hall j (hsz ▸ hlt)
  simp [hlt] at h0 this;rw [h0] at this; cases this
 | succ fuel ih =>
  intro listed k μ a w hsz hcnt J;refine ⟨fun hr=>?_,fun i hi=>?_⟩
  ·refine hQ _ k μ a w ?_ J;intro j
   induction j using Nat.strongRecOn with
   | _ j hj =>
    intro hlt;cases hS:listed.getD j false with
    | true=>rfl
    | false =>
     exfalso
     obtain ⟨o,ho,_⟩:=G.op j hlt
     have:j∈Region.ready .any ops listed:=by
      refine mem_ready.2 ⟨?_,o,ho,fun e he hb=>?_⟩
      ·have:j<listed.size:=zO
       simp [this] at hS ⊢; exact hS
      ·have hm:e.on∈lH o:=by
        unfold lH;exact Va.2 ⟨e,Vp.2 ⟨by simpa using he,hb⟩,rfl⟩
       have hlt':=G.back j o hlt ho _ hm;exact hj e.on hlt' zO
     rw [hr] at this; cases this
  ·obtain ⟨h0,o,ho,hall⟩:=mem_ready.1 hi;have hlt:i<listed.size:=by
    rcases Y4 i listed.size with h | h
    ·exact h
    ·simp [X8 h] at h0
   have hS:listed.getD i false=false:=by simp [hlt] at h0 ⊢; exact h0
   have hset:(fun j=>(listed.setIfInBounds i true).getD j false)=add (fun j=>listed.getD j false) i:=by
    funext j
    by_cases e:j=i
    ·subst e; simp [add,hlt]
    ·rw [getD_set_ne false (Ne.symm e)]; simp [add,e]
   refine LW hcal hF J G (hop i (hsz ▸ hlt)) (KX (hsame i (hsz ▸ hlt)) k) (hsz ▸ hlt) hS (fun p hp=>?_) fun a' w' μ' k' J'=>?_
   ·obtain ⟨j,hj,hh⟩:=G.pre i o (hsz ▸ hlt) ho p hp;unfold lH at hj;obtain ⟨e,he,rfl⟩:=Va.1 hj;rw [Vp] at he;have hSj:=hall e (by simpa using he.1) he.2;rcases hh with rfl | hh
    ·exact hSj
    ·refine J.cl e.on ?_ hSj p hh
     have:=G.back i o (hsz ▸ hlt) ho e.on (by unfold lH; exact Va.2 ⟨e,Vp.2 he,rfl⟩)
     omega
   ·refine ih _ k' μ' a' w' (by simp [hsz]) ?_ (hset ▸ J');rw [hset]
    have:=J7 (S:=fun j=>listed.getD j false) hS l.length (hsz ▸ hlt)
    omega
def HR.of_heap {μ:Mu} {H:Heap} {w w':World} (h:HR P μ F H w) (hw:w'.heap=w.heap):HR P μ F H w' :=
 ⟨fun b L hb=>hw ▸ h.dom b L hb,fun c hc=>hw ▸ h.fb c hc,fun b e hb=>let ⟨L,hL,hE⟩:=h.ent b e hb; ⟨L,hL,hE.mono (fun _ _ h=>h) (fun _ h=>h) (fun c _=>by rw [hw]) (by rw [hw]) (fun hr=>hE.notF hr)⟩,h.inj,fun g cs hg=>(h.gl g cs hg).mono (fun _ _ h=>h) (fun _ h=>h) fun c _=>by rw [hw]⟩
def IJ {cal:oA} (hcal:nG P cal) (hm:P.follows .mixedOrders=true) {fence:Fence} {rd:Bool} (hF:FenceOK fence rd) {n id:Nat} {late:List Nat} {Q:Exit->Act->World->Prop} {T T':Tm} {H H':Heap} {μ:Mu} {a:Act} {w:World}
  (hc:Ka P ops=some (ds,late)) (hrun:Gc cal ds late T H=some (T',H')) (hT:LR μ F w T a.tmps.toList) (hH:HR P μ F H w)
  (hQ:∀ a' w' μ',a'.defers=a.defers->LR μ' F w' T' a'.tmps.toList->HR P μ' F H' w'->Stp sU P μ F H w μ' F H' w'->Q .normal a' w') :
  (Code.region id ops true).wpIn fence n P Q a w:=by
 obtain ⟨l,G,hlen,rfl⟩:=Gb hc;unfold Gc at hrun;split at hrun
 ·cases hrun
 rename_i s hs;split at hrun
 rotate_left
 ·cases hrun
 rename_i hsame;cases hrun;have hcls:∀ d∈ds,d.cls=0\/d.cls=1\/d.cls=2:=by
  intro d hd;obtain ⟨i,hi,rfl⟩:=Wg hd;have hi':i<l.length:=by rw [<- G.dlen]; exact hi
  have h1:=G.cl i hi';rw [<- (G.dso i hi').2.2.2,getD_of (U7 hi)] at h1;exact h1
 obtain ⟨k1,k2,k3,k4,k5⟩:=LX ds 0 _ _ hcls hs;have hcl:∀ i,i<l.length->(ds.getD i default).cls=ft l i:=fun i hi=>(G.dso i hi).2.2.2;have hdi:∀ i,i<l.length->ds[i]? = some (ds.getD i default):=by
  intro i hi
  have:i<ds.length:=by rw [G.dlen]; exact hi
  rw [U7 this];simp [U5,U7 this]
 have hVl:s.Vs.length=l.length:=by rw [k2,G.dlen]; simp
 have hop:∀ i,i<l.length->TV cal H.next T s i (ds.getD i default):=by
  intro i hi;obtain ⟨s1,s2,e1,e2,e3,e4,e5⟩:=k5 i _ (hdi i hi);rw [VQ] at e1;refine Sk e1 e2 (hcls _ (Vo (hdi i hi))) (by simpa using e3) (by simpa using e4) (fun u hu j hj=>?_) (fun h2 k adds hl=>?_)
  ·obtain ⟨t,u⟩:=u;have hj:u=some j:=hj;subst hj;exact (G.useS i hi t j hu).2.2.1
  ·have hc2:ft l i=2:=(hcl i hi) ▸ h2;obtain ⟨kk,adds',hl',g1,g2,_⟩:=G.act i hi hc2;rw [hl] at hl'; cases hl';refine ⟨?_,fun a ha=>(G.look i hi k adds (by rw [hl]; exact Vh ..) a ha).2.2.2⟩;rw [e5,uE G.dlen hcl i zO];obtain ⟨q1,q2⟩:=O9 hi hc2
   have:=GR q1 g1 (q2.trans g2.symm)
   rw [this]
   simp; omega
 have hC0:s.Cs.getD 0 default = { H with next:=H.next+ds.length }:=by rw [kn k1.2.1 (by simp)]; rfl
 have hCl:s.Cs.length=(aG l).length+1:=by
  have:=uE G.dlen hcl l.length (Vb _)
  rw [VF (by rw [G.dlen]; exact Vb _)] at this;rw [k4,this]; simp [aG]; omega
 obtain ⟨w1,hw1⟩:∃ w1,w1 = { w with drawn:=w.drawn+1 }:=⟨_,rfl⟩
 have hH1:HR P μ F H w1:=hH.of_heap (by rw [hw1]);have hB1:HR P μ F (s.Cs.getD 0 default) w1:=by rw [hC0]; exact hH1.bump _
 have hst1:Stp sU P μ F H w μ F H w1:=by
  subst hw1;exact ⟨fun _ _ h=>h,fun _ h=>h,Vb _,fun _ _ _=>rfl,fun b L hb hL=>.inr ⟨b,L,hb,hL,rfl⟩,Vb _,fun _ _ _ h=>h,fun b L h=>.inl ⟨b,L,h,rfl⟩,fun b e h _ _=>⟨e,h⟩,fun b e L h hL=>.inr ⟨b,e,L,h,hL,rfl⟩,Tp.draw,rfl,rfl⟩
 have hz:Hh l s H.next (fun _=>false) 0=s.Cs.getD 0 default:=by
  unfold Hh
  have:Ec l (fun _=>false) 0=[]:=by simp [Ec]
  rw [this]; rfl
 have hrep:∀ j,(Array.replicate ops.size false).getD j false=false:=by
  intro j;rcases Y4 j ops.size with h | h
  ·simp [h]
  ·simp [X8 (show (Array.replicate ops.size false).size<=j by simpa using h)]
 have J0:Inv P l T s H.next F μ (s.Cs.getD 0 default) w1 a.defers (fun j=>(Array.replicate ops.size false).getD j false) 0 μ a w1:=by
  have hf:(fun j=>(Array.replicate ops.size false).getD j false)=fun _=>false:=funext hrep;rw [hf];refine ⟨fun j _ h=>(by cases h),Vj _,fun q _=>(by simp),?_,by rw [hz]; exact hB1,fun j hj _ _=>?_,?_,fun j hj _=>jU hH (VH _ _),by rw [hz]; exact Stp.refl _ _ _ _ _ _,rfl⟩
  ·rw [Pb]; exact LR.mono (w:=w) (w':=w1) (fun _ _ h=>h) (fun _ h=>h) (fun _ _=>by rw [hw1]) hT
  ·rw [hC0];cases hg:H.get (H.next+j) with
   | none=>exact hg
   | some e =>
    obtain ⟨L,hL,_⟩:=hH.ent _ e hg;rw [jU hH (VH _ _)] at hL; cases hL
  ·rw [hC0,G.dlen]; exact Vb _
 refine wpIn_region_any hm ?_;rw [<- hw1];refine OE hcal hF G hlen hop (fun i hi=>?_) (fun S k μ' a' w' hall J=>?_) ops.size _ 0 μ a w1 (by simp [hlen]) ?_ J0
 ·have:=Fj ds 0 hsame i _ (hdi i hi)
  rwa [VQ] at this
 ·have hk:k=(aG l).length:=by
   rcases Y4 k (aG l).length with h | h
   ·have:=(J.act k h).1 (hall _ (rX h).1); omega
   ·have:=J.kle; omega
  subst hk;have hTS:TS l T s S=gn T ds s.Vs:=by
   rw [K6 G.dlen hVl (fun i hi=>(G.dso i hi).1)];unfold TS
   apply WV
   intro t _;exact zH _ hall
  have hlst:Ec l S (aG l).length=xB l:=by
   rw [<- Qx];unfold Ec
   apply YA
   intro x hx;rw [hall x (by simpa using hx)]
  have hlast:s.Cs.getLastD default=s.Cs.getD (aG l).length default:=by
   rw [List.getLastD_eq_getLast?,List.getLast?_eq_getElem?,hCl,U5]; rfl
  have hHh:Hh l s H.next S (aG l).length=du H.next s.Es (s.Cs.getLastD default) (xB l):=by
   unfold Hh; rw [hlst,hlast]
  have hhr:=J.hr;have hst:=J.st;rw [hHh] at hhr hst;refine hQ a' w' μ' J.df (hTS ▸ J.tm) hhr (hst1.trans ?_);rw [hC0] at hst;exact ⟨hst.mu,hst.fr,hst.size,hst.keep,hst.rw,Vn (VH _ _) hst.next,fun b hb _ hn=>hst.new b (Vq hb (VH _ _)) zO hn,hst.rng,fun b e hb hl _=>hst.old b e hb (Vq hl (VH _ _)) zO,hst.alv,hst.tape,hst.os,hst.out⟩
 ·rw [J6 _ (fun j _=>hrep j),hlen]
end
section
variable {μ μ':Mu} {F:Nat->Prop} {w w':World}
def VR.back (hμ:∀ b L,μ b=some L->μ' b=some L) {c:AV} {v0:Value} (h0:VR μ F w c v0):∀ {v:Value},VR μ' F w' c v->VR μ F w' c v:=by
 induction h0 with
 | undef v0=>intro v h; exact .undef v
 | bool b=>intro v h; cases h; exact .bool b
 | int k n=>intro v h; cases h; exact .int k n
 | str s=>intro v h; cases h; exact .str s
 | nilPtr=>intro v h; cases h; exact .nilPtr
 | nilSl=>intro v h; cases h; exact .nilSl
 | nilFn=>intro v h; cases h; exact .nilFn
 | nilIf=>intro v h; cases h; exact .nilIf
 | nilMap=>intro v h; cases h; exact .nilMap
 | agg cs vs hl hv ih =>
  intro v h;cases h with
  | agg _ us hl' hv' =>
   refine .agg cs us hl' fun i c u hc hu=>?_;obtain ⟨x,hx⟩:∃ x,vs[i]? = some x:=⟨vs[i]'(by have:=(Vm.1 hc).1; omega),Wl _⟩
   exact ih i c x hc hx (hv' i c u hc hu)
 | tup cs vs hl hv ih =>
  intro v h;cases h with
  | tup _ us hl' hv' =>
   refine .tup cs us hl' fun i c u hc hu=>?_;obtain ⟨x,hx⟩:∃ x,vs[i]? = some x:=⟨vs[i]'(by have:=(Vm.1 hc).1; omega),Wl _⟩
   exact ih i c x hc hx (hv' i c u hc hu)
 | sl0 a cap =>
  intro v h;cases h with
  | sl0 a cap=>exact .sl0 a cap
  | sl _ _ cap blk off arr ty fr g1 g2 g3 g4 g5=>exact .sl0 _ _
 | sl cells n cap blk off arr ty fr hf hb hn ho hv ih =>
  intro v h;cases h with
  | sl0 a cap=>exact .sl0 a cap
  | sl _ _ cap' blk' off' arr' ty' fr' g1 g2 g3 g4 g5 =>
   refine .sl cells n cap' blk' off' arr' ty' fr' g1 g2 g3 g4 fun i c u hc hu=>?_;obtain ⟨x,hx⟩:∃ x,arr[off+i]? = some x:=⟨arr[off+i]'(by have:=(Vm.1 hc).1; omega),Wl _⟩
   exact ih i c x hc hx (g5 i c u hc hu)
 | dp cells o blk off arr ty fr hf hb ho hv ih =>
  intro v h;cases h with
  | dp _ _ blk' off' arr' ty' fr' g1 g2 g4 g5 =>
   refine .dp cells o blk' off' arr' ty' fr' g1 g2 g4 fun i c u hc hu=>?_;obtain ⟨x,hx⟩:∃ x,arr[off+i]? = some x:=⟨arr[off+i]'(by have:=(Vm.1 hc).1; omega),Wl _⟩
   exact ih i c x hc hx (g5 i c u hc hu)
 | own b off n c sz ex L cap h1 h2 h3 h4 h5 h6 =>
  intro v h;cases h with
  | own _ _ _ _ _ _ L' cap' g1 g2 g3 g4 g5 g6 =>
   have:=hμ _ _ h1
   rw [g1] at this;cases this;exact .own b off n c sz ex L cap' h1 g2 g3 g4 g5 g6
 | ptr b off L h1 =>
  intro v h;cases h with
  | ptr _ _ L' g1 =>
   have:=hμ _ _ h1
   rw [g1] at this;cases this;exact .ptr b off L h1
 | fn f as bs us vs h1 h2 h3 h4 ih1 ih2 =>
  intro v h;cases h with
  | fn _ _ _ us' vs' g1 g2 g3 g4 =>
   refine .fn f as bs us' vs' g1 (fun i c u hc hu=>?_) g3 fun i c u hc hu=>?_
   ·obtain ⟨x,hx⟩:∃ x,us[i]? = some x:=⟨us[i]'(by have:=(Vm.1 hc).1; omega),Wl _⟩
    exact ih1 i c x hc hx (g2 i c u hc hu)
   ·obtain ⟨x,hx⟩:∃ x,vs[i]? = some x:=⟨vs[i]'(by have:=(Vm.1 hc).1; omega),Wl _⟩
    exact ih2 i c x hc hx (g4 i c u hc hu)
 | ifc t x v0 hx ih =>
  intro v h;cases h with
  | ifc _ _ u hu=>exact .ifc t x u (ih hu)
 | map b L h1 =>
  intro v h;cases h with
  | map _ L' g1 =>
   have:=hμ _ _ h1
   rw [g1] at this;cases this;exact .map b L h1
 | loopv b L h1 =>
  intro v h;cases h with
  | loopv _ L' g1 =>
   have:=hμ _ _ h1
   rw [g1] at this;cases this;exact .loopv b L h1
def LR.back (hμ:∀ b L,μ b=some L->μ' b=some L) {cs:List AV} {vs0 vs:List Value} (h0:LR μ F w cs vs0) (h:LR μ' F w' cs vs):LR μ F w' cs vs:=by
 refine ⟨h.1,fun i c v hc hv=>?_⟩;obtain ⟨x,hx⟩:∃ x,vs0[i]? = some x:=⟨vs0[i]'(by have:=(Vm.1 hc).1; have:=h0.1; omega),U7 _⟩
 exact (h0.2 i c x hc hx).back hμ (h.2 i c v hc hv)
end
def LQ:Ex->Exit
 | .nrm=>.normal
 | .exit i=>.exit i
 | .goto l=>.goto l
 | .ret=>.ret
def DM (B:Nat × List Deferred) (μ:Mu) (F:Nat->Prop) (w:World) (ds:List Deferred):Prop :=
 ∃ Ds:List Nat,ds=Ds.map (fun D=>{ target:=.collected D,args:=#[] })++B.2/\Ds.Nodup /\
  ∀ D∈Ds,B.1<=D/\D<w.heap.size/\w.heap[D]? = some (.deferred (some []))/\¬ F D/\∀ b L,μ b=some L->L.blk≠D
section
variable {P:Program} {μ:Mu} {F:Nat->Prop} {H:Heap} {w:World} {T:Tm} {a:Act} {B:Nat × List Deferred}
def DM.nil {B:Nat × List Deferred}:DM B μ F w B.2:=⟨[],rfl,List.nodup_nil,fun D h=>by cases h⟩
def DM.stp {I:Nat->Prop} {μ':Mu} {H':Heap} {w':World} {ds:List Deferred} (h:DM B μ F w ds) (hS:Stp I P μ F H w μ' F H' w'):DM B μ' F w' ds:=by
 obtain ⟨Ds,h1,h2,h3⟩:=h;refine ⟨Ds,h1,h2,fun D hD=>?_⟩;obtain ⟨g1,g2,g3,g4,g5⟩:=h3 D hD;refine ⟨g1,Vq g2 hS.size,?_,g4,fun b L hb=>?_⟩
 ·rw [hS.keep D g2 fun b L _ hL=>g5 b L hL]; exact g3
 ·rcases hS.rng b L hb with ⟨b0,L0,h0,e⟩ | hge
  ·rw [<- e]; exact g5 b0 L0 h0
  ·omega
structure Mx (P:Program) (B:Nat × List Deferred) (μ:Mu) (F:Nat->Prop) (H:Heap) (w:World) (T:Tm) (a:Act):Prop where
 hT:LR μ F w T a.tmps.toList
 hH:HR P μ F H w
 hD:DM B μ F w a.defers
def kW (P:Program) (rd:Bool) (c:Code) (T:Tm) (H:Heap) (x:Ex) (T':Tm) (H':Heap):Prop :=
 ∀ (fence:Fence) (n:Nat) (B:Nat × List Deferred) (μ:Mu) (F:Nat->Prop) (w:World) (a:Act) (Q:Exit->Act->World->Prop),FenceOK fence rd->B.1<=w.heap.size->Mx P B μ F H w T a ->
  (∀ a' w' μ',Mx P B μ' F H' w' T' a'->Stp sU P μ F H w μ' F H' w'->Q (LQ x) a' w')->c.wpIn fence n P Q a w
def DM.back {μ':Mu} {ds:List Deferred} (hμ:∀ b L,μ b=some L->μ' b=some L) (h:DM B μ' F w ds):DM B μ F w ds:=by
 obtain ⟨Ds,h1,h2,h3⟩:=h;exact ⟨Ds,h1,h2,fun D hD=>⟨(h3 D hD).1,(h3 D hD).2.1,(h3 D hD).2.2.1,(h3 D hD).2.2.2.1,fun b L hb=>(h3 D hD).2.2.2.2 b L (hμ b L hb)⟩⟩
def DM.keep {w':World} {ds:List Deferred} (h:DM B μ F w ds) (hs:w.heap.size<=w'.heap.size) (hw:∀ (D:Nat),w.heap[D]? = some (.deferred (some []))->w'.heap[D]? = w.heap[D]?):DM B μ F w' ds:=by
 obtain ⟨Ds,h1,h2,h3⟩:=h;refine ⟨Ds,h1,h2,fun D hD=>?_⟩;obtain ⟨g1,g2,g3,g4,g5⟩:=h3 D hD;exact ⟨g1,Vq g2 hs,(hw D g3).trans g3,g4,g5⟩
def DK {H:Heap} (hH:HR P μ F H w) {b:Nat} {e:Ent} (h:H.ro.get b=some e):∃ e0,H.get b=some e0/\e0.ro=some e:=by
 rw [Heap.get_ro] at h;split at h
 ·cases hg:H.get b with
  | none=>rw [hg] at h; cases h
  | some e0=>rw [hg] at h; exact ⟨e0,rfl,h⟩
 ·rename_i hlt;obtain ⟨L,hL,_⟩:=hH.ent b e h
  have:=(hH.dom b L hL).1
  omega
def Tj {H:Heap} (hH:HR P μ F H w) {b:Nat}:¬ H.ro.rwAt b:=by
 rintro ⟨e,h,hr⟩;obtain ⟨e0,-,h0⟩:=DK hH h;cases e0 <;> simp only [Ent.ro] at h0 <;> first | (cases h0; done) | (simp only [VL] at h0; subst h0; cases hr)
def Tk {H:Heap} (hH:HR P μ F H w):HR P μ F H.ro w:=by
 refine ⟨hH.dom,hH.fb,fun b e h=>?_,fun b b' e e' L L' h h' hL hL' hb=>?_,hH.gl⟩
 ·obtain ⟨e0,h0,he⟩:=DK hH h;obtain ⟨L,hL,hE⟩:=hH.ent b e0 h0;refine ⟨L,hL,?_⟩;cases e0 <;> simp only [Ent.ro] at he <;> first | (cases he; done) | (simp only [VL] at he; subst he)
  ·obtain ⟨arr,fr,h1,h2,h3,h4,h5,h6,h7⟩:=hE;exact ⟨arr,fr,h1,h2,h3,h4,h5,fun h=>(by cases h),fun _=>trivial⟩
  ·exact hE.2
  ·exact hE
 ·obtain ⟨e0,h0,-⟩:=DK hH h;obtain ⟨e1,h1,-⟩:=DK hH h';exact hH.inj b b' e0 e1 L L' h0 h1 hL hL' hb
def Qc {I:Nat->Prop} {H H2 H':Heap} {μ':Mu} {w':World} (hH:HR P μ F H w) (h2:∀ b,H2.get b=H.ro.get b) (hS:Stp I P μ F H2 w μ' F H' w'):∀ c,c<w.heap.size->w'.heap[c]? = w.heap[c]? :=
 fun c hc=>hS.keep c hc fun b L ⟨e,he,hr⟩ _=>absurd ⟨e,h2 b ▸ he,hr⟩ (Tj hH)
def AS {cal:oA} {m:Nat} {rd:Bool} {c:Code} {ac:ACode} (hc:∀ T H x T' H',aK cal m rd ac T H=some (x,T',H')->kW P rd c T H x T' H') :
  ∀ (k:Nat) (T:Tm) (H:Heap) (x:Ex) (T':Tm) (H':Heap),AT (aK cal m rd ac) k T H=some (x,T',H') ->
  ∀ (fence:Fence) (n:Nat) (B:Nat × List Deferred) (μ:Mu) (F:Nat->Prop) (w:World) (a:Act) (Q:Exit->Act->World->Prop),FenceOK fence rd->B.1<=w.heap.size->Mx P B μ F H w T a ->
  (∀ a' w' μ',Mx P B μ' F H' w' T' a'->Stp sU P μ F H w μ' F H' w'->Q (LQ x) a' w')->x ≠ .nrm/\Code.roundsIn fence n P c Q k a w
 | 0,T,H,x,T',H',h=>by cases h
 | k+1,T,H,x,T',H',h=>by
  intro fence n B μ F w a Q hF hB hS hQ;simp only [AT] at h;split at h
  ·rename_i T1 H1 h1;refine ⟨?_,?_⟩
   ·
    have key:∀ (k:Nat) (T:Tm) (H:Heap) (x:Ex) (T':Tm) (H':Heap),AT (aK cal m rd ac) k T H=some (x,T',H')->x ≠ .nrm:=by
     intro k
     induction k with
     | zero=>intro T H x T' H' h; cases h
     | succ k ih =>
      intro T H x T' H' h;simp only [AT] at h;split at h
      ·exact ih _ _ _ _ _ h
      ·rename_i hne;intro e;subst e;exact hne _ _ h
    exact key _ _ _ _ _ _ h
   ·rw [roundsIn_succ];refine hc T H _ _ _ h1 fence n B μ F w a _ hF hB hS fun a' w' μ' hS' hst=>?_;exact (AS hc k T1 H1 x T' H' h fence n B μ' F w' a' Q hF (Vn hB hst.size) hS' fun a2 w2 μ2 hS2 hst2=>hQ a2 w2 μ2 hS2 (hst.trans hst2)).2
  ·rename_i hne;have hx:x ≠ .nrm:=fun e=>by subst e; exact hne _ _ h
   refine ⟨hx,?_⟩;rw [roundsIn_succ];refine hc T H _ _ _ h fence n B μ F w a _ hF hB hS fun a' w' μ' hS' hst=>?_
   have:=hQ a' w' μ' hS' hst
   cases x <;> first | exact this | exact absurd rfl hx
def FA (hH:HR P μ F H w) (o:Obj):HR P μ F H (w.alloc o)/\Stp sU P μ F H w μ F H (w.alloc o):=by
 have hw:∀ c,c<w.heap.size->(w.alloc o).heap[c]? = w.heap[c]?:=fun c hc=>pS _ _ hc;have hsz:(w.alloc o).heap.size=w.heap.size+1:=by simp
 refine ⟨⟨fun b L hb=>?_,fun c hc=>?_,fun b e hb=>?_,hH.inj,fun g cs hg=>(hH.gl g cs hg).mono (fun _ _ h=>h) (fun _ h=>h) fun c hc=>hw c (hH.fb c hc)⟩,⟨fun _ _ h=>h,fun _ h=>h,zO,fun c hc _=>hw c hc,fun b L hb hL=>.inr ⟨b,L,hb,hL,rfl⟩,Vb _,fun _ _ _ h=>h,fun b L h=>.inl ⟨b,L,h,rfl⟩,fun b e h _ _=>⟨e,h⟩,fun b e L h hL=>.inr ⟨b,e,L,h,hL,rfl⟩,Tp.same rfl rfl,rfl,rfl⟩⟩
 ·have:=hH.dom b L hb; exact ⟨this.1,zO⟩
 ·have:=hH.fb c hc; omega
 ·obtain ⟨L,hL,hE⟩:=hH.ent b e hb;exact ⟨L,hL,hE.mono (fun _ _ h=>h) (fun _ h=>h) (fun c hc=>hw c (hH.fb c hc)) (hw _ (hH.dom b L hL).2) (fun hr=>hE.notF hr)⟩
def xK (c1 c2:Code):bw P (.seq c1 c2)=(do some (.seq (<- bw P c1) (<- bw P c2))):=by rw [bw]
def AQ {c:Code} {ac:ACode} (h:bw P c=some ac):(ac=.ret->c=.ret)/\(∀ id,ac=.exit id->c=.exit id)/\(∀ l,ac=.goto l->c=.goto l):=by
 have no:∀ {ac:ACode},ac ≠ .ret->(∀ id,ac ≠ .exit id)->(∀ l,ac ≠ .goto l)->(ac=.ret->c=.ret)/\(∀ id,ac=.exit id->c=.exit id)/\(∀ l,ac=.goto l->c=.goto l) :=
  fun h1 h2 h3=>⟨fun h=>absurd h h1,fun id h=>absurd h (h2 id),fun l h=>absurd h (h3 l)⟩
 cases c with
 | ret=>cases h; exact ⟨fun _=>rfl,fun id h=>(by cases h),fun l h=>(by cases h)⟩
 | exit id=>cases h; exact ⟨fun h=>(by cases h),fun id h=>(by cases h; rfl),fun l h=>(by cases h)⟩
 | goto l=>cases h; exact ⟨fun h=>(by cases h),fun id h=>(by cases h),fun l h=>(by cases h; rfl)⟩
 | skip=>cases h; exact no (fun h=>by cases h) (fun id h=>by cases h) (fun l h=>by cases h)
 | label l=>cases h; exact no (fun h=>by cases h) (fun id h=>by cases h) (fun l h=>by cases h)
 | refuse w=>cases h; exact no (fun h=>by cases h) (fun id h=>by cases h) (fun l h=>by cases h)
 | region i ops d =>
  simp only [bw] at h;split at h
  ·split at h
   ·cases h; exact no (fun h=>by cases h) (fun id h=>by cases h) (fun l h=>by cases h)
   ·cases h; exact no (fun h=>by cases h) (fun id h=>by cases h) (fun l h=>by cases h)
  ·simp only [Vf] at h;obtain ⟨_,_,h⟩:=h;subst h; exact no (fun h=>by cases h) (fun id h=>by cases h) (fun l h=>by cases h)
 | seq c1 c2 =>
  have he:=xK (P:=P) c1 c2
  ·rw [he] at h;simp only [U8,U3] at h;obtain ⟨_,_,_,_,h⟩:=h;cases h; exact no (fun h=>by cases h) (fun id h=>by cases h) (fun l h=>by cases h)
 | cond c a b =>
  simp only [bw,U8,U3] at h;obtain ⟨_,_,_,_,_,_,h⟩:=h;cases h; exact no (fun h=>by cases h) (fun id h=>by cases h) (fun l h=>by cases h)
 | block i a =>
  simp only [bw,U8,U3] at h;obtain ⟨_,_,h⟩:=h;cases h; exact no (fun h=>by cases h) (fun id h=>by cases h) (fun l h=>by cases h)
 | loop a =>
  simp only [bw,U8,U3] at h;obtain ⟨_,_,h⟩:=h;cases h; exact no (fun h=>by cases h) (fun id h=>by cases h) (fun l h=>by cases h)
 | scope a =>
  simp only [bw,U8,U3] at h;obtain ⟨_,_,h⟩:=h;cases h;unfold DH;split
  ·split
   ·exact no (fun h=>by cases h) (fun id h=>by cases h) (fun l h=>by cases h)
   ·exact no (fun h=>by cases h) (fun id h=>by cases h) (fun l h=>by cases h)
  ·exact no (fun h=>by cases h) (fun id h=>by cases h) (fun l h=>by cases h)
 | rangeFunc f ps a b =>
  simp only [bw,U8,U3] at h;obtain ⟨_,_,_,_,_,_,h⟩:=h;cases h; exact no (fun h=>by cases h) (fun id h=>by cases h) (fun l h=>by cases h)
theorem Qd {c:Code} (h:bw P c=some .ret):c=.ret:=(AQ h).1 rfl
theorem Oz {c:Code} {id:Nat} (h:bw P c=some (.exit id)):c=.exit id:=(AQ h).2.1 id rfl
theorem Ou {c:Code} {id:Nat} (h:bw P c=some (.goto id)):c=.goto id:=(AQ h).2.2 id rfl
def qk {cal:oA} (hcal:nG P cal) {fence:Fence} (hF:FenceOK fence false) {n:Nat} {g:Operand} {ps:Array Tmp} {asg body:Code} {s:Src} {a1 a2:ACode} (hs:bT g=some s) (h1:bw P asg=some a1) (h2:bw P body=some a2)
  {fi:Nat} {args:List AV} {v:AV} {H2:Heap} (ht:iA (s.ev T) [.loopv H.next]=some (.fn fi args))
  (hrun:cal (.ent fi args) (({ H with next:=H.next+1 }:Heap).put H.next (.loop T ps.toList a1 a2 .ready none))=some (v,H2)) (hB:B.1<=w.heap.size) (hS:Mx P B μ F H w T a) {Q:Exit->Act->World->Prop}
  (hend:∀ T' ps' b1 b2 st pe,H2.get H.next=some (.loop T' ps' b1 b2 st pe)->st ≠ .busy/\∀ (r:Option Code),(match pe,r with | none,none=>True | some c,some c'=>bw P c'=some c | _,_=>False) ->
   ∀ a' w' μ',Mx P B μ' F (H2.kill H.next) w' T a'->Stp sU P μ F H w μ' F (H2.kill H.next) w'->(match r with | none=>Q .normal a' w' | some c=>c.wpIn fence n P Q a' w'))
  (hex:∃ T' ps' b1 b2 st pe,H2.get H.next=some (.loop T' ps' b1 b2 st pe)):(Code.rangeFunc g ps asg body).wpIn fence n P Q a w:=by
 refine wpIn_rangeFunc fun fn _=>?_;have hro:fence.round=none:=by
  rcases hF with ⟨_,rfl⟩ | ⟨h,_⟩; · rfl
  ·cases h
 obtain ⟨hA1,hA2⟩:=FA hS.hH (.deferred (some []));obtain ⟨rec,hrec⟩:∃ rec:Loop,rec = { state:=.ready,pending:=none,fn,tmps:=a.tmps,params:=ps,assign:=asg,body,defers:=w.heap.size }:=⟨_,rfl⟩
 have hszA:(w.alloc (.deferred (some []))).heap.size=w.heap.size+1:=by simp
 have hid:μ H.next=none:=jU hS.hH (Vb _)
 obtain ⟨hN1,hN2⟩:=oN (I:=fun b=>b=H.next) (hA1.bump 1) hid (Yo _) (.loop rec) (.loop T ps.toList a1 a2 .ready none) 0 0 (fun w' hw hn hnF=>by
  refine ⟨hnF,rec,hn,by rw [hrec],?_,by rw [hrec],by rw [hrec]; exact h1,by rw [hrec]; exact h2,by rw [hrec]; trivial⟩;rw [hrec];exact ((hA2.lr hS.hH hS.hT).mono (iR hid) (fun _ h=>h) hw)) rfl (w.alloc (.deferred (some []))) rfl (Tp.same rfl rfl) rfl rfl
 rw [hszA] at hN1 hN2;have hN3:Stp sU P μ F H w (μ.upd H.next ⟨w.heap.size+1,0,0⟩) F (({ H with next:=H.next+1 }:Heap).put H.next (.loop T ps.toList a1 a2 .ready none)) ((w.alloc (.deferred (some []))).alloc (.loop rec)) :=
  hA2.trans ⟨hN2.mu,hN2.fr,hN2.size,hN2.keep,hN2.rw,Vn (Nat.le_succ _) hN2.next,fun b hb _ hn=>hN2.new b (Nat.lt_succ_of_lt hb) (fun e=>by have e:b=H.next:=e; omega) hn,hN2.rng,fun b e hb hl _=>hN2.old b e hb (Nat.lt_succ_of_lt hl) (fun e=>by have e:b=H.next:=e; omega),hN2.alv,hN2.tape,hN2.os,hN2.out⟩
 have hDM:DM B (μ.upd H.next ⟨w.heap.size+1,0,0⟩) F ((w.alloc (.deferred (some []))).alloc (.loop rec)) ([{ target:=.collected w.heap.size,args:=#[] }]++a.defers):=by
  obtain ⟨Ds,e1,e2,e3⟩:=hS.hD.stp hN3;obtain ⟨Ds0,f1,f2,f3⟩:=hS.hD;have hlt:∀ D∈Ds,D<w.heap.size:=by
   intro D hD;have hm:({ target:=.collected D,args:=#[] }:Deferred)∈Ds0.map (fun D=>({ target:=.collected D,args:=#[] }:Deferred)):=by
    rw [<- List.append_cancel_right (e1.symm.trans f1)];exact Va.2 ⟨D,hD,rfl⟩
   obtain ⟨D0,hD0,he⟩:=Va.1 hm
   have:D0=D:=by injection he with he _; injection he
   subst this;exact (f3 D0 hD0).2.1
  refine ⟨w.heap.size :: Ds,by simp [e1],XC.2 ⟨fun h=>Nat.lt_irrefl _ (hlt _ h),e2⟩,fun D hD=>?_⟩;rcases VA.1 hD with rfl | hD
  ·refine ⟨hB,by rw [World.size_alloc,World.size_alloc]; omega,?_,fun h=>by have:=hS.hH.fb _ h; omega,fun b L hb=>?_⟩
   ·rw [pS _ _ (by simp)]; exact World.alloc_heap_new w _
   ·by_cases e:b=H.next
    ·subst e; simp at hb; subst hb; simp
    ·rw [cr _ e] at hb; have:=(hS.hH.dom b L hb).2; omega
  ·exact e3 D hD
 have hv:=aO hS.hT hs;have hv':=hN3.vr hS.hH hv;have hloop:LR (μ.upd H.next ⟨w.heap.size+1,0,0⟩) F ((w.alloc (.deferred (some []))).alloc (.loop rec)) [.loopv H.next] [.func (.yield (w.heap.size+1)) #[] #[]]:=LR.cons (.loopv _ _ (upd_same _ _)) LR.nil
 generalize hfv:s.ev T=fv at ht hv'
 cases fv <;> simp only [iA] at ht <;> first | (cases ht; done) | skip
 rename_i ff first cap
 cases ff <;> simp only at ht <;> first | (cases ht; done) | skip
 cases ht
 generalize hgv:a.eval g=gv at hv'
 cases hv' with
 | fn _ _ _ us vs' k1 k2 k3 k4 =>
 have hl:=((LR.of_agg k1 k2).append hloop).append (LR.of_agg k3 k4);obtain ⟨hent,hruns⟩:=hcal _ _ _ _ hrun _ F _ _ fence false (n-1) hF hN1 hl (fun b args e=>by cases e);have hent:=hent _ _ rfl;simp only [mV,hent,Runs] at hruns;refine ⟨w.heap.size+1,[{ target:=.collected w.heap.size,args:=#[] }],(w.alloc (.deferred (some []))).alloc (.loop rec),{ target:=.fn (.func fi) vs',args:=us ++ #[.func (.yield (w.heap.size+1)) #[] #[]] },(w.alloc (.deferred (some []))).alloc (.loop rec),
  _,_,_,?_,?_,fun f' _=>hF.fn f',?_,hF.depth n,hruns.mono fun e w3 ⟨u,he,μ3,hdone⟩=>?_⟩
 ·rw [hro,hrec]; exact run_enterLoop_outer _ _ _ _ _
 ·have e:(#[Operand.const (Value.func (.yield (w.heap.size+1)) #[] #[])]).map a.eval = #[Value.func (.yield (w.heap.size+1)) #[] #[]]:=by simp only [List.map_toArray,Ve,Vk]; rfl
  simp only [resolve,hgv,Deferred.ofValue,e,Sem.run_pure]
 ·have e:(us ++ #[Value.func (.yield (w.heap.size+1)) #[] #[]]++vs')=(us.toList++[Value.func (.yield (w.heap.size+1)) #[] #[]]++vs'.toList).toArray:=by apply Z7; simp
  simp only [invoke,e];exact hent
 ·subst he;obtain ⟨T',ps',b1,b2,st,pe,hget⟩:=hex;obtain ⟨hbusy,hfin⟩:=hend T' ps' b1 b2 st pe hget;obtain ⟨L,hL,hE⟩:=hdone.heap.ent _ _ hget;have hL':=hdone.stp.mu _ _ (upd_same (μ:=μ) H.next ⟨w.heap.size+1,0,0⟩);rw [hL'] at hL; cases hL;obtain ⟨hnF,r,g1,g2,g3,g4,g5,g6,g7⟩:=hE;simp only at g1;have hlt:=(Wc.1 g1).1;obtain ⟨q1,q2⟩:=iH (I:=sU) (e:=.loop T' ps' b1 b2 .exhausted pe) hdone.heap hget rfl hL' (w3.putObj (w.heap.size+1) (.loop { r with state:=.exhausted })) (fun c hc=>World.putObj_heap_other hc) (by simp [World.putObj]) (Tp.same rfl rfl) rfl rfl
   (fun hw=>⟨hnF,_,World.putObj_heap_same hlt,rfl,g3.mono (fun _ _ h=>h) (fun _ h=>h) hw,g4,g5,g6,g7⟩) rfl
  obtain ⟨q3,q4⟩:=uu (I:=sU) q1 H.next
  have hgg:∀ x,((H2.put H.next (.loop T' ps' b1 b2 .exhausted pe)).kill H.next).get x=(H2.kill H.next).get x:=by
   intro x; simp only [Heap.get_kill,Heap.get_put]; split <;> rfl
  have q5:=q3.congr (H2:=H2.kill H.next) rfl hgg;have q6:Stp sU P μ F H w μ3 F (H2.kill H.next) (w3.putObj (w.heap.size+1) (.loop { r with state:=.exhausted })) :=
   (hN3.trans (hdone.stp.trans (q2.trans q4))).congr rfl fun x e he=>⟨e,by rw [hgg]; exact he,rfl⟩
  refine ⟨r.pending,_,run_endLoop g1 (by rw [g2]; exact hbusy),?_⟩;have hSt:Mx P B μ3 F (H2.kill H.next) (w3.putObj (w.heap.size+1) (.loop { r with state:=.exhausted })) T { a with defers:=[{ target:=.collected w.heap.size,args:=#[] }]++a.defers } :=
   ⟨q6.lr hS.hH hS.hT,q5,(hDM.stp hdone.stp).stp (q2.trans q4)⟩
  exact hfin r.pending g7 _ _ μ3 hSt q6
def cA {P:Program} {b:Frame} {a:Act} {k:List Item} {cs:List Frame} {w:World} {c:Code}:step P (lone (b.atR a (.code (.scope c) :: k)) cs w)=.next (lone (b.atR a (.code c :: .inScope c :: k)) cs w) :=
 step_lone_go (by simp [stepG,stepG.exec,Frame.atR])
def nI {P:Program} {b:Frame} {a:Act} {k:List Item} {cs:List Frame} {w:World} {c:Code}:step P (lone (b.atR a (.inScope c :: k)) cs w)=.next (lone (b.atR a k) cs w) :=
 step_lone_go (by simp [stepG,stepG.exec,Frame.atR])
def He {P:Program} {F:Fence} {n:Nat} {a:Act} {w:World} {Q:Exit->Act->World->Prop} {c:Code} (h:c.wpIn F n P (Exit.noGoto Q) a w):(Code.scope c).wpIn F n P Q a w:=by
 intro b k cs hro hb hr;have h0:(lone (b.atR a (.code (.scope c) :: k)) cs w).fenced P F:=fenced_calm hb hr rfl;obtain ⟨e,a₁,w₁,hq,harr⟩:=h b (.inScope c :: k) cs hro hb hr;cases e with
 | normal=>exact ⟨.normal,a₁,w₁,hq,.head h0 cA (StepsIn.trans harr (.one (fenced_calm hb hr rfl) nI))⟩
 | exit id' =>
  have hx:exitTo id' (.inScope c :: k)=exitTo id' k:=by simp [exitTo]
  exact ⟨.exit id',a₁,w₁,hq,fun k' hk=>.head h0 cA (harr.1 k' (by rw [hx]; exact hk)),
   fun hr' hk=>let ⟨k₁,h1,h2⟩:=harr.2 hr' (by rw [hx]; exact hk); ⟨k₁,h1,.head h0 cA h2⟩⟩
 | goto l=>exact hq.elim
 | ret=>exact ⟨_,a₁,w₁,hq,.of_steps (.one h0 cA) harr⟩
 | panic ch=>exact ⟨_,a₁,w₁,hq,.of_steps (.one h0 cA) harr⟩
 | outgrown=>exact ⟨_,a₁,w₁,hq,.of_steps (.one h0 cA) harr⟩
def zR {cal:oA} {m:Nat} {rd:Bool} {T:Tm} {H:Heap}:aK cal m rd Je T H=none:=by
 unfold Je;simp only [aK];split <;> rfl
def On (l:Nat) (J:Act->World->Prop) (Q:Exit->Act->World->Prop):Exit->Act->World->Prop
 | .goto l',a,w=>l'=l/\J a w
 | e,a,w=>Q e a w
def EO (F:Fence) (n:Nat) (P:Program) (c rest:Code) (Q:Exit->Act->World->Prop) (a:Act) (w:World):Prop :=
 ∀ (b:Frame) (k:List Item) (cs:List Frame),b.roundOf=F.round->F.fn b.fn->F.room (cs.length+1+n) ->
  ∃ e a' w',Q e a' w'/\ArrivesIn (Machine.fenced P F) P (lone (b.atR a (.code rest :: .inScope c :: k)) cs w) b k cs e a' w'
def KZ {P:Program} {F:Fence} {n:Nat} {a:Act} {w:World} {Q:Exit->Act->World->Prop} {c rest:Code} {l:Nat} (hf:findLabel c l=some rest) (h:rest.wpIn F n P (On l (EO F n P c rest Q) Q) a w):EO F n P c rest Q a w:=by
 intro b k cs hro hb hr;have hg:gotoIn l (.inScope c :: k)=some (.code rest :: .inScope c :: k):=by simp [gotoIn,hf]
 obtain ⟨e,a₁,w₁,hq,harr⟩:=h b (.inScope c :: k) cs hro hb hr;cases e with
 | normal=>exact ⟨.normal,a₁,w₁,hq,StepsIn.trans harr (.one (fenced_calm hb hr rfl) nI)⟩
 | exit id' =>
  have hx:exitTo id' (.inScope c :: k)=exitTo id' k:=by simp [exitTo]
  exact ⟨.exit id',a₁,w₁,hq,fun k' hk=>harr.1 k' (by rw [hx]; exact hk),fun hr' hk=>harr.2 hr' (by rw [hx]; exact hk)⟩
 | goto l' =>
  obtain ⟨rfl,hJ⟩:=hq;obtain ⟨e₂,a₂,w₂,hq₂,harr₂⟩:=hJ b k cs hro hb hr;exact ⟨e₂,a₂,w₂,hq₂,.of_steps (harr.1 _ hg) harr₂⟩
 | ret=>exact ⟨_,a₁,w₁,hq,harr⟩
 | panic ch=>exact ⟨_,a₁,w₁,hq,harr⟩
 | outgrown=>exact ⟨_,a₁,w₁,hq,harr⟩
def ET {P:Program} {F:Fence} {n:Nat} {a:Act} {w:World} {Q:Exit->Act->World->Prop} {c rest:Code} {l:Nat} (hf:findLabel c l=some rest) (h:c.wpIn F n P (On l (EO F n P c rest Q) Q) a w):(Code.scope c).wpIn F n P Q a w:=by
 intro b k cs hro hb hr;have hg:gotoIn l (.inScope c :: k)=some (.code rest :: .inScope c :: k):=by simp [gotoIn,hf]
 have h0:(lone (b.atR a (.code (.scope c) :: k)) cs w).fenced P F:=fenced_calm hb hr rfl;obtain ⟨e,a₁,w₁,hq,harr⟩:=h b (.inScope c :: k) cs hro hb hr;cases e with
 | normal=>exact ⟨.normal,a₁,w₁,hq,.head h0 cA (StepsIn.trans harr (.one (fenced_calm hb hr rfl) nI))⟩
 | exit id' =>
  have hx:exitTo id' (.inScope c :: k)=exitTo id' k:=by simp [exitTo]
  exact ⟨.exit id',a₁,w₁,hq,fun k' hk=>.head h0 cA (harr.1 k' (by rw [hx]; exact hk)),
   fun hr' hk=>let ⟨k₁,h1,h2⟩:=harr.2 hr' (by rw [hx]; exact hk); ⟨k₁,h1,.head h0 cA h2⟩⟩
 | goto l' =>
  obtain ⟨rfl,hJ⟩:=hq;obtain ⟨e₂,a₂,w₂,hq₂,harr₂⟩:=hJ b k cs hro hb hr;exact ⟨e₂,a₂,w₂,hq₂,.of_steps (.head h0 cA (harr.1 _ hg)) harr₂⟩
 | ret=>exact ⟨_,a₁,w₁,hq,.of_steps (.one h0 cA) harr⟩
 | panic ch=>exact ⟨_,a₁,w₁,hq,.of_steps (.one h0 cA) harr⟩
 | outgrown=>exact ⟨_,a₁,w₁,hq,.of_steps (.one h0 cA) harr⟩
def yl {cal:oA} {m:Nat} {rd:Bool} {c rest:Code} {ar:ACode} {l:Nat} (hf:findLabel c l=some rest) (hc:∀ T H x T' H',aK cal m rd ar T H=some (x,T',H')->kW P rd rest T H x T' H') :
  ∀ (k:Nat) (T:Tm) (H:Heap) (x:Ex) (T':Tm) (H':Heap),JM l (aK cal m rd ar) k T H=some (x,T',H') ->
  ∀ (fence:Fence) (n:Nat) (B:Nat × List Deferred) (μ:Mu) (F:Nat->Prop) (w:World) (a:Act) (Q:Exit->Act->World->Prop),FenceOK fence rd->B.1<=w.heap.size->Mx P B μ F H w T a ->
  (∀ a' w' μ',Mx P B μ' F H' w' T' a'->Stp sU P μ F H w μ' F H' w'->Q (LQ x) a' w')->EO fence n P c rest Q a w
 | 0,T,H,x,T',H',h=>by cases h
 | k+1,T,H,x,T',H',h=>by
  intro fence n B μ F w a Q hF hB hS hQ;simp only [JM] at h;refine KZ hf ?_;split at h
  ·rename_i l' T1 H1 h1;split at h
   ·rename_i e;subst e;refine hc T H _ _ _ h1 fence n B μ F w a _ hF hB hS fun a' w' μ' hS' hst=>⟨rfl,?_⟩
    exact yl hf hc k T1 H1 x T' H' h fence n B μ' F w' a' Q hF (Vn hB hst.size) hS' fun a2 w2 μ2 hS2 hst2=>hQ a2 w2 μ2 hS2 (hst.trans hst2)
   ·cases h
  ·rename_i hne;refine hc T H _ _ _ h fence n B μ F w a _ hF hB hS fun a' w' μ' hS' hst=>?_
   have:=hQ a' w' μ' hS' hst
   cases x with
   | goto l'=>exact absurd h (hne _ _ _)
   | _=>exact this
def KR {cal:oA} {m:Nat} {rd:Bool} {c1 c2:Code} {a1 a2:ACode} (h1:∀ T H x T' H',aK cal m rd a1 T H=some (x,T',H')->kW P rd c1 T H x T' H') (h2:∀ T H x T' H',aK cal m rd a2 T H=some (x,T',H')->kW P rd c2 T H x T' H')
  (T:Tm) (H:Heap) (x:Ex) (T':Tm) (H':Heap) (h:aK cal m rd (.seq a1 a2) T H=some (x,T',H')):kW P rd (.seq c1 c2) T H x T' H':=by
 intro fence n B μ F w a Q hF hB hS hQ;simp only [aK] at h;refine wpIn_seq ?_;split at h
 ·rename_i T1 H1 hrun;refine h1 T H _ _ _ hrun fence n B μ F w a _ hF hB hS fun a' w' μ' hS' hst=>?_;exact h2 T1 H1 _ _ _ h fence n B μ' F w' a' Q hF (Vn hB hst.size) hS' fun a2 w2 μ2 hS2 hst2=>hQ a2 w2 μ2 hS2 (hst.trans hst2)
 ·rename_i hne;refine h1 T H _ _ _ h fence n B μ F w a _ hF hB hS fun a' w' μ' hS' hst=>?_
  have:=hQ a' w' μ' hS' hst
  cases x <;> first | exact this | exact absurd h (hne _ _)
def Lz {c:Code} {ac:ACode} (h:bw P c=some ac):(∃ c1 c2,c=.seq c1 c2)\/(∃ l,c=.label l)\/∀ l,bO ac l=none:=by
 cases c with
 | seq c1 c2=>exact .inl ⟨c1,c2,rfl⟩
 | label l=>exact .inr (.inl ⟨l,rfl⟩)
 | ret=>cases h; exact .inr (.inr fun l=>rfl)
 | exit id=>cases h; exact .inr (.inr fun l=>rfl)
 | goto l=>cases h; exact .inr (.inr fun l=>rfl)
 | skip=>cases h; exact .inr (.inr fun l=>rfl)
 | refuse w=>cases h; exact .inr (.inr fun l=>rfl)
 | region i ops d =>
  right; right
  simp only [bw] at h;split at h
  ·split at h
   ·cases h; exact fun l=>rfl
   ·cases h; exact fun l=>rfl
  ·simp only [Vf] at h;obtain ⟨_,_,h⟩:=h;subst h; exact fun l=>rfl
 | cond c a b =>
  simp only [bw,U8,U3] at h;obtain ⟨_,_,_,_,_,_,h⟩:=h;cases h; exact .inr (.inr fun l=>rfl)
 | block i a =>
  simp only [bw,U8,U3] at h;obtain ⟨_,_,h⟩:=h;cases h; exact .inr (.inr fun l=>rfl)
 | loop a =>
  simp only [bw,U8,U3] at h;obtain ⟨_,_,h⟩:=h;cases h; exact .inr (.inr fun l=>rfl)
 | rangeFunc f ps a b =>
  simp only [bw,U8,U3] at h;obtain ⟨_,_,_,_,_,_,h⟩:=h;cases h; exact .inr (.inr fun l=>rfl)
 | scope a =>
  right; right
  simp only [bw,U8,U3] at h;obtain ⟨a',_,h⟩:=h;cases h;unfold DH;split
  ·rename_i l0 hl0;split
   ·intro l;cases a' <;> first | rfl | (simp [Ek] at hl0; done)
   ·exact fun l=>rfl
  ·exact fun l=>rfl
def FR {cal:oA} {m:Nat} {rd:Bool} {N:Nat} (ih:∀ c':Code,SizeOf.sizeOf c'<N->∀ (ac:ACode),bw P c'=some ac->∀ (T:Tm) (H:Heap) (x:Ex) (T':Tm) (H':Heap),aK cal m rd ac T H=some (x,T',H')->kW P rd c' T H x T' H') (l:Nat) :
  ∀ (b:Code),SizeOf.sizeOf b<N->∀ (ab:ACode),bw P b=some ab->(bO ab l=none->findLabel b l=none)/\∀ ar,bO ab l=some ar->∃ rest,findLabel b l=some rest/\∀ T H x T' H',aK cal m rd ar T H=some (x,T',H')->kW P rd rest T H x T' H':=by
 intro b;have other:∀ ab:ACode,(∀ l,bO ab l=none)->findLabel b l=none->(bO ab l=none->findLabel b l=none)/\∀ ar,bO ab l=some ar->∃ rest,findLabel b l=some rest/\∀ T H x T' H',aK cal m rd ar T H=some (x,T',H')->kW P rd rest T H x T' H' :=
  fun ab h1 h2=>⟨fun _=>h2,fun ar h=>by rw [h1] at h; cases h⟩
 induction b with
 | label l' =>
  intro hN ab hc;cases hc;simp only [bO,findLabel];refine ⟨fun h=>?_,fun ar h=>?_⟩
  ·split at h
   ·cases h
   ·rename_i e; rw [if_neg e]
  ·split at h
   ·rename_i e;cases h;rw [if_pos e];exact ⟨_,rfl,fun T H x T' H' h fence n B μ F w a Q hF hB hS hQ=>by cases h; exact wpIn_skip (hQ a w μ hS (Stp.refl _ _ _ _ _ _))⟩
   ·cases h
 | seq c1 c2 ih1 ih2 =>
  intro hN ab hc;have plain:∀ a1 a2,bw P c1=some a1->bw P c2=some a2->(bO (.seq a1 a2) l=none->findLabel (.seq c1 c2) l=none)/\∀ ar,bO (.seq a1 a2) l=some ar->∃ rest,findLabel (.seq c1 c2) l=some rest/\∀ T H x T' H',aK cal m rd ar T H=some (x,T',H')->kW P rd rest T H x T' H':=by
   intro a1 a2 h1 h2;have i1:=ih1 (fun ab h1 h2=>⟨fun _=>h2,fun ar h=>by rw [h1] at h; cases h⟩) (by simp at hN; omega) a1 h1;have i2:=ih2 (fun ab h1 h2=>⟨fun _=>h2,fun ar h=>by rw [h1] at h; cases h⟩) (by simp at hN; omega) a2 h2;cases hf:bO a1 l with
   | none =>
    have e1:bO (.seq a1 a2) l=bO a2 l:=by simp only [bO,hf]
    have e2:findLabel (.seq c1 c2) l=findLabel c2 l:=by simp only [findLabel,i1.1 hf]
    rw [e1,e2];exact i2
   | some r =>
    obtain ⟨rest,hr,hok⟩:=i1.2 r hf;have e1:bO (.seq a1 a2) l=some (.seq r a2):=by simp only [bO,hf]
    have e2:findLabel (.seq c1 c2) l=some (.seq rest c2):=by simp only [findLabel,hr]
    rw [e1,e2];refine ⟨fun h=>(by cases h),fun ar h=>?_⟩;cases h;exact ⟨_,rfl,KR hok (ih c2 (by simp at hN; omega) a2 h2)⟩
  have he:=xK (P:=P) c1 c2
  ·rw [he] at hc;simp only [U8,U3] at hc;obtain ⟨a1,h1,a2,h2,hc⟩:=hc;cases hc;exact plain a1 a2 h1 h2
 | _ =>
  intro hN ab hc;rcases Lz hc with ⟨_,_,h⟩ | ⟨_,h⟩ | h
  ·cases h
  ·cases h
  ·exact other ab h rfl
def rG {cal:oA} (hcal:nG P cal) (hmix:P.follows .mixedOrders=true) {m:Nat} {rd:Bool}:∀ (c:Code) (ac:ACode),bw P c=some ac->∀ (T:Tm) (H:Heap) (x:Ex) (T':Tm) (H':Heap),aK cal m rd ac T H=some (x,T',H')->kW P rd c T H x T' H':=by
 intro c
 induction hk:SizeOf.sizeOf c using Nat.strongRecOn generalizing c with
 | _ k ih =>
 have ih:∀ c':Code,SizeOf.sizeOf c'<SizeOf.sizeOf c->∀ (ac:ACode),bw P c'=some ac->∀ (T:Tm) (H:Heap) (x:Ex) (T':Tm) (H':Heap),aK cal m rd ac T H=some (x,T',H')->kW P rd c' T H x T' H':=fun c' h=>ih (SizeOf.sizeOf c') (hk ▸ h) c' rfl;cases c with
 | skip =>
  intro ac hc T H x T' H' h fence n B μ F w a Q hF hB hS hQ;cases hc; cases h;exact wpIn_skip (hQ a w μ hS (Stp.refl _ _ _ _ _ _))
 | label l =>
  intro ac hc T H x T' H' h fence n B μ F w a Q hF hB hS hQ;cases hc;simp only [aK] at h;cases h;exact wpIn_label (hQ a w μ hS (Stp.refl _ _ _ _ _ _))
 | exit id =>
  intro ac hc T H x T' H' h fence n B μ F w a Q hF hB hS hQ;cases hc; cases h;exact wpIn_exit (hQ a w μ hS (Stp.refl _ _ _ _ _ _))
 | goto l =>
  intro ac hc T H x T' H' h fence n B μ F w a Q hF hB hS hQ;cases hc; cases h;exact wpIn_goto (hQ a w μ hS (Stp.refl _ _ _ _ _ _))
 | ret =>
  intro ac hc T H x T' H' h fence n B μ F w a Q hF hB hS hQ;cases hc; cases h;exact wpIn_ret (hQ a w μ hS (Stp.refl _ _ _ _ _ _))
 | refuse why =>
  intro ac hc T H x T' H' h;cases hc;rw [zR] at h; cases h
 | scope b =>
  have ihN:=ih;have ih:=ih b (by simp);intro ac hc T H x T' H' h fence n B μ F w a Q hF hB hS hQ;simp only [bw,U8,U3] at hc;obtain ⟨ab,hb,hc⟩:=hc;have straight:aK cal m rd (.scope ab) T H=some (x,T',H')->(Code.scope b).wpIn fence n P Q a w:=by
   intro h;simp only [aK] at h;refine He ?_;split at h
   ·cases h
   ·rename_i hne;refine ih ab hb T H _ _ _ h fence n B μ F w a _ hF hB hS fun a' w' μ' hS' hst=>?_
    have:=hQ a' w' μ' hS' hst
    cases x with
    | goto l=>exact absurd h (hne _ _ _)
    | _=>exact this
  cases hc;unfold DH at h;split at h
  ·rename_i l hl;split at h
   ·rename_i ar har;obtain ⟨rest,hf,hok⟩:=(FR ihN l b (by simp) ab hb).2 ar har;simp only [aK] at h;refine ET hf ?_;split at h
    ·rename_i l' T1 H1 h1;split at h
     ·rename_i e;subst e;refine ih ab hb T H _ _ _ h1 fence n B μ F w a _ hF hB hS fun a' w' μ' hS' hst=>⟨rfl,?_⟩
      exact yl hf hok m T1 H1 x T' H' h fence n B μ' F w' a' Q hF (Vn hB hst.size) hS' fun a2 w2 μ2 hS2 hst2=>hQ a2 w2 μ2 hS2 (hst.trans hst2)
     ·cases h
    ·rename_i hne;refine ih ab hb T H _ _ _ h fence n B μ F w a _ hF hB hS fun a' w' μ' hS' hst=>?_
     have:=hQ a' w' μ' hS' hst
     cases x with
     | goto l=>exact absurd h (hne _ _ _)
     | _=>exact this
   ·exact straight h
  ·exact straight h
 | region id ops draw =>
  intro ac hc T H x T' H' h fence n B μ F w a Q hF hB hS hQ;simp only [bw] at hc;cases draw with
  | true =>
   simp only [if_true] at hc;split at hc
   ·rename_i p hrs;obtain ⟨ds,late⟩:=p;cases hc;simp only [aK] at h;split at h
    ·rename_i T1 H1 hrun;cases h;refine IJ hcal hmix hF hrs hrun hS.hT hS.hH fun a' w' μ' hd hT' hH' hst=>?_;exact hQ a' w' μ' ⟨hT',hH',hd ▸ hS.hD.stp hst⟩ hst
    ·cases h
   ·cases hc;rw [zR] at h; cases h
  | false =>
   simp only [V3,if_false,Vf] at hc;obtain ⟨rs,hrs,rfl⟩:=hc;simp only [aK] at h;split at h
   ·rename_i T1 H1 hrun;cases h;refine DN hcal hF hrs hrun hS.hT hS.hH fun a' w' μ' hd hT' hH' hst=>?_;exact hQ a' w' μ' ⟨hT',hH',hd ▸ hS.hD.stp hst⟩ hst
   ·cases h
 | seq c1 c2 =>
  have ih1:=ih c1 zS;have ih2:=ih c2 zS;intro ac hc T H x T' H' h;have plain:∀ a1 a2,bw P c1=some a1->bw P c2=some a2->aK cal m rd (.seq a1 a2) T H=some (x,T',H')->kW P rd (.seq c1 c2) T H x T' H':=by
   intro a1 a2 h1 h2 h fence n B μ F w a Q hF hB hS hQ;simp only [aK] at h;refine wpIn_seq ?_;split at h
   ·rename_i T1 H1 hrun;refine ih1 a1 h1 T H _ _ _ hrun fence n B μ F w a _ hF hB hS fun a' w' μ' hS' hst=>?_;exact ih2 a2 h2 T1 H1 _ _ _ h fence n B μ' F w' a' Q hF (Vn hB hst.size) hS' fun a2 w2 μ2 hS2 hst2=>hQ a2 w2 μ2 hS2 (hst.trans hst2)
   ·rename_i hne;refine ih1 a1 h1 T H _ _ _ h fence n B μ F w a _ hF hB hS fun a' w' μ' hS' hst=>?_
    have:=hQ a' w' μ' hS' hst
    cases x <;> first | exact this | exact absurd h (hne _ _)
  have he:=xK (P:=P) c1 c2
  ·rw [he] at hc;simp only [U8,U3] at hc;obtain ⟨a1,h1,a2,h2,hc⟩:=hc;cases hc;exact plain a1 a2 h1 h2 h
 | cond c c1 c2 =>
  have ih1:=ih c1 zS;have ih2:=ih c2 zS;intro ac hc T H x T' H' h fence n B μ F w a Q hF hB hS hQ;simp only [bw,U8,U3] at hc;obtain ⟨s,hs,a1,h1,a2,h2,hc⟩:=hc;cases hc;simp only [aK] at h;have hv:=aO hS.hT hs;split at h
  ·rename_i e;rw [e] at hv
   generalize hcv:a.eval c=cv at hv
   cases hv;exact wpIn_cond_true hcv (ih1 a1 h1 T H _ _ _ h fence n B μ F w a Q hF hB hS hQ)
  ·rename_i e;rw [e] at hv
   generalize hcv:a.eval c=cv at hv
   cases hv;exact wpIn_cond_false hcv (ih2 a2 h2 T H _ _ _ h fence n B μ F w a Q hF hB hS hQ)
  ·cases h
 | block id b =>
  have ih:=ih b zS;intro ac hc T H x T' H' h fence n B μ F w a Q hF hB hS hQ;simp only [bw,U8,U3] at hc;obtain ⟨ab,hb,hc⟩:=hc;cases hc;simp only [aK] at h;refine wpIn_block ?_;split at h
  ·rename_i id' T1 H1 hrun;split at h
   ·rename_i e;cases h;refine ih ab hb T H _ _ _ hrun fence n B μ F w a _ hF hB hS fun a' w' μ' hS' hst=>?_
    have:=hQ a' w' μ' hS' hst
    simp only [LQ,Exit.inBlock,e,if_true];exact this
   ·rename_i e;cases h;refine ih ab hb T H _ _ _ hrun fence n B μ F w a _ hF hB hS fun a' w' μ' hS' hst=>?_
    have:=hQ a' w' μ' hS' hst
    simp only [LQ,Exit.inBlock,e,if_false];exact this
  ·rename_i hne;refine ih ab hb T H _ _ _ h fence n B μ F w a _ hF hB hS fun a' w' μ' hS' hst=>?_
   have:=hQ a' w' μ' hS' hst
   cases x <;> first | exact this | exact absurd h (hne _ _ _)
 | loop b =>
  have ih:=ih b (by simp);intro ac hc T H x T' H' h fence n B μ F w a Q hF hB hS hQ;simp only [bw,U8,U3] at hc;obtain ⟨ab,hb,hc⟩:=hc;cases hc;simp only [aK] at h;exact wpIn_loop_rounds m (AS (ih ab hb) m T H x T' H' h fence n B μ F w a Q hF hB hS hQ).2
 | rangeFunc g ps asg body =>
  intro ac hc T H x T' H' h fence n B μ F w a Q hF hB hS hQ;simp only [bw,U8,U3] at hc;obtain ⟨s,hs,a1,h1,a2,h2,hc⟩:=hc;cases hc;simp only [aK] at h;split at h
  ·cases h
  rename_i hrd;have hrd:rd=false:=by simpa using hrd
  subst hrd;split at h
  ·rename_i fi args ht;split at h
   ·rename_i v H2 hrun;split at h
    ·rename_i T0 ps0 b1 b2 hget;cases h;refine qk hcal hF hs h1 h2 ht hrun hB hS (fun T' ps' c1 c2 st pe hg=>?_) ⟨_,_,_,_,_,_,hget⟩;rw [hget] at hg; cases hg;refine ⟨by simp,fun r hr a' w' μ' hS' hst=>?_⟩;cases r with
     | none=>exact hQ a' w' μ' hS' hst
     | some c=>exact hr.elim
    ·rename_i T0 ps0 b1 b2 pc hget;have fin:∀ (x':Ex) (cc:Code),x'=x->T'=T->H'=H2.kill H.next->(∀ c',bw P c'=some pc->c'=cc)->(∀ (a':Act) (w':World),Q (LQ x') a' w'->cc.wpIn fence n P Q a' w')->(Code.rangeFunc g ps asg body).wpIn fence n P Q a w:=by
      intro x' cc e1 e2 e3 hinv hwp;subst e1; subst e2; subst e3;refine qk hcal hF hs h1 h2 ht hrun hB hS (fun T' ps' c1 c2 st pe hg=>?_) ⟨_,_,_,_,_,_,hget⟩;rw [hget] at hg; cases hg;refine ⟨by simp,fun r hr a' w' μ' hS' hst=>?_⟩;cases r with
      | none=>exact hr.elim
      | some c =>
       have:=hinv c hr
       subst this;exact hwp _ _ (hQ a' w' μ' hS' hst)
     split at h
     ·cases h; exact fin .ret .ret rfl rfl rfl (fun c' hc'=>Qd hc') (fun a' w' q=>wpIn_ret q)
     ·cases h; exact fin (.exit _) (.exit _) rfl rfl rfl (fun c' hc'=>Oz hc') (fun a' w' q=>wpIn_exit q)
     ·cases h; exact fin (.goto _) (.goto _) rfl rfl rfl (fun c' hc'=>Ou hc') (fun a' w' q=>wpIn_goto q)
     ·cases h
    ·cases h
   ·cases h
  ·cases h
end
def I4 (_:Program) (_:Mq):Prop:=True
end Go.Proofs.YteaefaohjlmjdaaGreat.Ev
namespace Go.Proofs.YteaefaohjlmjdaaGreat.Ev
open Go
open Go.Sort
def TW {α:Type} (enc:α->Value):Prop:=∀ x,(enc x).oneCell'=true
def Qw {α:Type} (cf:α->α->Int) (x y:α):Bool:=decide (cf x y<0)
def mj {α:Type} [Inhabited α] (enc:α->Value) (w:World) (blk off m:Nat) (dk:Array α) (os:Array Obj):World:=grow (putRow enc (Sort.ahead w m) blk off dk) os
def Rr {α:Type} [Inhabited α] (P:Program) (g:Nat) (cb:Array Value) (enc:α->Value) (cf:α->α->Int) (blk off size:Nat) (w:World):Prop :=
 ∀ (m:Nat) (os:Array Obj) (dk:Array α),dk.size=size->∀ x y:α,
  Calls P g (#[enc x,enc y]++cb) (mj enc w blk off m dk os) fun e w'=>e=.returned (.int .i64 (cf x y))/\∃ q os',w'=grow ((mj enc w blk off m dk os).drewN q) os'
def I3 (P:Program) (S:Nat) (gs:List Nat):Prop :=
 (∃ fn,P.funcs[S]? = some fn ∧ fn.body.isSome=true ∧ fn.name ≠ "runtime.NumGoroutine") ∧ Pe ∧
 (∀ g∈gs,∀ args w,(callFunc g args).run P w=.ok (.enter g args) w) /\
 (∀ (p:Option Addr) (cap:Nat) (fv:Value) (w:World),Calls P S #[.slice p 0 cap,fv] w fun e w'=>e=.returned (.tuple #[])/\w'=w) /\
 ∀ (k:Nat) (enc:Fin (k+1)->Value) (cf:Fin (k+1)->Fin (k+1)->Int) (g:Nat) (cb:Array Value) (blk cap:Nat) (w:World),g∈gs->TW enc->SWO (Qw cf)->(∀ x y,Qw cf x y=false->Qw cf y x=false->x=y) ->
  Rr P g cb enc cf blk 0 (k+1) w->Holds enc w blk 0 (List.finRange (k+1)).toArray->blk<w.heap.size->k+1<4611686018427387904 ->
  Calls P S #[.slice (some ⟨blk,0,none⟩) (k+1:Nat) cap,.func (.func g) #[] cb] w fun e w'=>e=.returned (.tuple #[])/\∃ m os,w'=mj enc w blk 0 m ((List.finRange (k+1)).mergeSort fun x y=>!(Qw cf) y x).toArray os
def Hf {W w':World} (hs:W.heap.size<=w'.heap.size) (hk:∀ c,c<W.heap.size->w'.heap[c]? = W.heap[c]?) (ht:w'.tape=W.tape) (hd:W.drawn<=w'.drawn) (ho:w'.os=W.os) (hp:w'.output=W.output) :
  w'=grow (W.drewN (w'.drawn-W.drawn)) (w'.heap.extract W.heap.size w'.heap.size):=by
 obtain ⟨h1,t1,d1,o1,p1⟩:=w';obtain ⟨h,t,d,o,p⟩:=W;simp only at *;subst ht; subst ho; subst hp;unfold grow World.drewN;have e1:h1=h++h1.extract h.size h1.size:=by
  apply Za
  intro i;by_cases hi:i<h.size
  ·rw [Wp hi]; exact hk i hi
  ·rw [Array.getElem?_append_right zO,ZC];by_cases hj:i<h1.size
   ·rw [if_pos zO]; congr 1; omega
   ·rw [if_neg zO];exact X8 zO
 have e2:d1=d+(d1-d):=zO;show (⟨h1,t1,d1,o1,p1⟩:World)=⟨h++h1.extract h.size h1.size,t1,d+(d1-d),o1,p1⟩;rw [<- e1,<- e2]
section
variable {P:Program} {μ:Mu} {F:Nat->Prop} {H:Heap} {w:World}
def Iw (hH:HR P μ F H w) (os:Array Obj):HR P μ F H (grow w os)/\Stp sU P μ F H w μ F H (grow w os):=by
 have hw:∀ c,c<w.heap.size->(grow w os).heap[c]? = w.heap[c]?:=fun c hc=>by
  show (w.heap++os)[c]? = _;rw [Wp hc]
 have hsz:w.heap.size<=(grow w os).heap.size:=by
  show _<=(w.heap++os).size
  simp
 refine ⟨⟨fun b L hb=>?_,fun c hc=>?_,fun b e hb=>?_,hH.inj,fun g cs hg=>(hH.gl g cs hg).mono (fun _ _ h=>h) (fun _ h=>h) fun c hc=>hw c (hH.fb c hc)⟩,⟨fun _ _ h=>h,fun _ h=>h,hsz,fun c hc _=>hw c hc,fun b L hb hL=>.inr ⟨b,L,hb,hL,rfl⟩,Vb _,fun _ _ _ h=>h,fun b L h=>.inl ⟨b,L,h,rfl⟩,fun b e h _ _=>⟨e,h⟩,fun b e L h hL=>.inr ⟨b,e,L,h,hL,rfl⟩,Tp.same rfl rfl,rfl,rfl⟩⟩
 ·have:=hH.dom b L hb; exact ⟨this.1,zO⟩
 ·have:=hH.fb c hc; omega
 ·obtain ⟨L,hL,hE⟩:=hH.ent b e hb;exact ⟨L,hL,hE.mono (fun _ _ h=>h) (fun _ h=>h) (fun c hc=>hw c (hH.fb c hc)) (hw _ (hH.dom b L hL).2) (fun hr=>hE.notF hr)⟩
def rJ {f:Nat} {fn:Func} {vs:Array Value} {Fe:Fence} {rd:Bool} {n:Nat} {R:Value → World → Prop} (hf:P.funcs[f]? = some fn) (hb:fn.body.isSome=true) (hn:fn.name ≠ "runtime.NumGoroutine") (hF:FenceOK Fe rd)
  (h:Calls P f vs w fun e w'=>∃ u,e=.returned u/\R u w'):Runs Fe n P ((callFunc f vs).run P w) R:=by
 have hr:(callFunc f vs).run P w=.ok (.enter f vs) w:=by
  obtain ⟨c,hc⟩:=Yr.1 hb;simp [callFunc,hf,hn,hc]
 rw [hr];unfold Runs;simp only;have key:CallsIn Fence.wide n P f vs w fun e w'=>∃ u,e=.returned u/\R u w':=callsIn_wide.2 h;rcases hF with ⟨_,rfl⟩ | ⟨_,l,rfl⟩
 ·exact key
 ·exact key
def Al {α:Type} [Inhabited α] (enc:α->Value) (w:World) (blk off m:Nat) (dk:Array α) (os:Array Obj):(∀ c,c<w.heap.size->c≠blk->(mj enc w blk off m dk os).heap[c]? = w.heap[c]?)/\w.heap.size<=(mj enc w blk off m dk os).heap.size:=by
 have e:(mj enc w blk off m dk os).heap=w.heap.modify blk (onCells (putCells enc off dk))++os:=rfl;rw [e];refine ⟨fun c hc hne=>?_,by simp⟩;rw [Wp (by simpa using hc),Xa,if_neg (Ne.symm hne)]
def CS {cal:oA} {g:Nat} {caps:List AV} {D:Heap} {x:AV}:∀ {l:List AV} {cs:List Int},rH cal g caps D x l=some cs->cs.length=l.length/\∀ (j:Nat) (y:AV),l[j]? = some y->∃ D',cal (.fn g ([x,y]++caps)) D=some (.int .i64 (cs.getD j 0),D')
 | [],cs,h=>by
  simp only [rH,VL] at h;subst h;exact ⟨rfl,fun j y h=>by simp at h⟩
 | y :: l,cs,h=>by
  simp only [rH] at h;split at h
  ·rename_i c D' cs' h1 h2;cases h;obtain ⟨k1,k2⟩:=CS h2;refine ⟨by simp [k1],fun j z hz=>?_⟩;cases j with
   | zero=>simp at hz; subst hz; exact ⟨D',h1⟩
   | succ j=>exact k2 j z (by simpa using hz)
  ·cases h
def Bg {cal:oA} {g:Nat} {caps:List AV} {D:Heap} {all:List AV}:∀ {l:List AV} {M:List (List Int)},sP cal g caps D all l=some M->∀ (i:Nat) (x:AV),l[i]? = some x->rH cal g caps D x all=some (M.getD i [])
 | [],M,h,i,x,hx=>by simp at hx
 | x :: l,M,h,i,z,hz=>by
  simp only [sP] at h;split at h
  ·rename_i r rs h1 h2;cases h;cases i with
   | zero=>simp at hz; subst hz; exact h1
   | succ i=>exact Bg h2 i z (by simpa using hz)
  ·cases h
def Fg {cal:oA} (hcal:nG P cal) {S ty:Nat} {gs:List Nat} (hS:I3 P S gs) {args:List AV} {v:AV} {H':Heap} (h:Co cal ty gs H args=some (v,H')) {vs:List Value} {fence:Fence} {rd:Bool} (hF:FenceOK fence rd) (hH:HR P μ F H w) (hl:LR μ F w args vs) (n:Nat) :
  Runs fence n P ((callFunc S vs.toArray).run P w) fun u w'=>∃ μ',ij sU P μ F H w v H' u w' μ':=by
 obtain ⟨⟨fn,hf,hb,hn⟩,hnk,hgs,hnone,hsort⟩:=hS;have htwo:∀ {a b:AV},LR μ F w [a,b] vs->∃ x y,vs=[x,y]/\VR μ F w a x/\VR μ F w b y:=fun {a b} h=>by
  have h1:=h.1
  match vs,h1 with
  | [x,y],_=>exact ⟨x,y,rfl,h.head,h.tail.head⟩
 unfold Co at h;split at h
 ·cases h;obtain ⟨x,y,rfl,hx,hy⟩:=htwo hl;cases hx;refine rJ hf hb hn hF ((hnone none 0 y w).mono ?_);rintro e w' ⟨rfl,rfl⟩;exact ⟨_,rfl,μ,.tup [] #[] rfl (fun i c v h=>by simp at h),hH,Stp.refl _ _ _ _ _ _⟩
 ·rename_i b off len c sz ex g caps;split at h
  ·rename_i hz;cases h;subst hz;obtain ⟨x,y,rfl,hx,hy⟩:=htwo hl;cases hx with
   | own _ _ _ _ _ _ L cap o1 o2 o3 o4 o5 o6 =>
   refine rJ hf hb hn hF ((hnone _ cap y w).mono ?_);rintro e w' ⟨rfl,rfl⟩;exact ⟨_,rfl,μ,.tup [] #[] rfl (fun i c v h=>by simp at h),hH,Stp.refl _ _ _ _ _ _⟩
  split at h
  ·rename_i cs ty' hgb;split at h
   ·rename_i hc;obtain ⟨rfl,rfl,rfl,hlen,h0,hbig,hg,hones⟩:=hc;split at h
    ·rename_i M hM;split at h
     ·rename_i hord;cases h;obtain ⟨x,y,rfl,hx,hy⟩:=htwo hl;obtain ⟨L,hL,hE⟩:=hH.ent b _ hgb;cases hx with
      | own _ _ _ _ _ _ L' cap o1 o2 o3 o4 o5 o6 =>
      rw [hL] at o1; cases o1;cases hy with
      | fn _ _ _ us ub q1 q2 q3 q4 =>
      obtain rfl:us = #[]:=XX (by simpa using q1.symm);obtain ⟨arr,fr,a1,a2,a3,a4,a5,a6,-⟩:=hE;obtain ⟨hnF,rfl⟩:=a6 rfl;have hblk:=(hH.dom b L hL).2;obtain ⟨k,rfl⟩:∃ k,len=k+1:=⟨len-1,zO⟩
      obtain ⟨enc,henc⟩:∃ enc:Fin (k+1)->Value,enc=fun i=>arr[i.val]!:=⟨_,rfl⟩
      have hea:∀ i:Fin (k+1),arr[i.val]? = some (enc i):=fun i=>by
       have hi:i.val<arr.size:=by have:=i.isLt; omega
       rw [henc,Wl hi];simp [hi]
      have hca:∀ i:Fin (k+1),cs[i.val]? = some (cs.getD i.val .undef):=fun i=>by
       have hi:i.val<cs.length:=by have:=i.isLt; omega
       rw [U7 hi];simp [hi]
      have hva:∀ i:Fin (k+1),VR μ F w (cs.getD i.val .undef) (enc i):=fun i=>a5 _ _ _ (hca i) (hea i);obtain ⟨cf,hcf⟩:∃ cf:Fin (k+1)->Fin (k+1)->Int,cf=fun i j=>(M.getD i.val []).getD j.val 0:=⟨_,rfl⟩
      have hlt:∀ i j,Qw cf i j=Mv M i.val j.val:=fun i j=>by rw [hcf]; rfl
      obtain ⟨w1,w2,w3⟩:=hord;have hT:∀ x y,Qw cf x y=false->Qw cf y x=false->x=y:=fun x y e1 e2=>by
       rw [hlt] at e1 e2;rcases w2 _ x.isLt _ y.isLt with e | e
       ·exact Fin.ext e
       ·rw [e1,e2] at e; cases e
      have hswo:SWO (Qw cf):=by
       refine ⟨fun x=>by rw [hlt]; exact w1 _ x.isLt,fun x y z e1 e2=>?_,fun x y z e1 e2=>?_⟩
       ·rw [hlt] at *; exact w3 _ x.isLt _ y.isLt _ z.isLt e1 e2
       ·rw [hlt] at *;cases hxz:Mv M x.val z.val with
        | false=>rfl
        | true =>
         rcases w2 _ x.isLt _ y.isLt with e | e
         ·rw [<- e,hxz] at e2; cases e2
         ·rw [e1] at e;have e3:Mv M y.val x.val=true:=by simpa using e.symm
          rw [w3 _ y.isLt _ x.isLt _ z.isLt e3 hxz] at e2; cases e2
      have hone:TW enc:=fun i=>by
       refine (hva i).oneCell ?_;rw [Vy] at hones;exact hones _ (Vo (hca i))
      have hcmp:Rr P g ub enc cf L.blk 0 (k+1) w:=by
       intro m os dk hdk x y;obtain ⟨W,hW⟩:∃ W,W=mj enc w L.blk 0 m dk os:=⟨_,rfl⟩
       rw [<- hW];obtain ⟨hWo,hWs⟩:=Al enc w L.blk 0 m dk os;rw [<- hW] at hWo hWs;have hFw:∀ c,F c->W.heap[c]? = w.heap[c]?:=fun c hc=>hWo c (hH.fb c hc) fun e=>hnF (e ▸ hc);have hK:HR P μ F (H.kill b) W:=by
        have hg':∀ b' e',(H.kill b).get b'=some e'->b'≠b/\H.get b'=some e':=fun b' e' h=>by
         rw [Heap.get_kill] at h;split at h
         ·cases h
         ·exact ⟨by assumption,h⟩
        refine ⟨fun b' L' h'=>⟨(hH.dom b' L' h').1,Vq (hH.dom b' L' h').2 hWs⟩,fun c hc=>Vq (hH.fb c hc) hWs,fun b' e' h'=>?_,fun b1 b2 e1 e2 L1 L2 h1 h2=>hH.inj b1 b2 e1 e2 L1 L2 (hg' _ _ h1).2 (hg' _ _ h2).2,fun g cs hg=>(hH.gl g cs hg).mono (fun _ _ h=>h) (fun _ h=>h) hFw⟩;obtain ⟨hne,h'⟩:=hg' b' e' h';obtain ⟨L',hL',hE'⟩:=hH.ent b' e' h';exact ⟨L',hL',hE'.mono (fun _ _ h=>h) (fun _ h=>h) hFw (hWo _ (hH.dom b' L' hL').2 fun e=>hne (hH.inj b' b e' _ L' L h' hgb hL' hL e)) (fun hr=>hE'.notF hr)⟩
       have hD:=Tk hK;have hrow:=Bg hM x.val _ (hca x);obtain ⟨D',hrun⟩:=(CS hrow).2 y.val _ (hca y);have hargs:LR μ F W ([cs.getD x.val .undef,cs.getD y.val .undef]++caps) ([enc x,enc y]++ub.toList):=by
        refine LR.cons ((hva x).mono (fun _ _ h=>h) (fun _ h=>h) hFw) (LR.cons ((hva y).mono (fun _ _ h=>h) (fun _ h=>h) hFw) ⟨by simpa using q3,fun i c v hc hv=>?_⟩);exact (q4 i c v hc (by simpa using hv)).mono (fun _ _ h=>h) (fun _ h=>h) hFw
       have run:=(hcal _ _ _ _ hrun μ F W _ Fence.wide false 0 (.inl ⟨rfl,rfl⟩) hD hargs (fun b args h=>by cases h)).2;have harr:([enc x,enc y]++ub.toList).toArray = #[enc x,enc y]++ub:=by
        apply Z7
        simp
       simp only [mV,harr,hgs g hg,Runs] at run;refine (callsIn_wide.1 run).mono ?_;rintro e w'' ⟨u,rfl,μ',hd⟩;obtain ⟨dv,dh,ds⟩:=hd;cases dv;refine ⟨by rw [hcf],w''.drawn-W.drawn,w''.heap.extract W.heap.size w''.heap.size,?_⟩;exact Hf ds.size (Qc hK (fun b=>rfl) ds) ds.tape.1 (ds.tape.2 hnk) ds.os ds.out
      have hholds:Holds enc w L.blk 0 (List.finRange (k+1)).toArray:=by
       intro j hj;have hj:j<k+1:=by simpa using hj
       have e1:(List.finRange (k+1)).toArray[j]! = ⟨j,hj⟩:=by
        simp [hj]
       rw [e1,VQ,pX a1];exact ⟨hea ⟨j,hj⟩,by simp [World.frozen?,a1]⟩
      have hcon:=hsort k enc cf g ub L.blk cap w hg hone hswo hT hcmp hholds hblk hbig;refine rJ hf hb hn hF (hcon.mono ?_);rintro e w' ⟨rfl,m,os,rfl⟩;have hix:((List.finRange (k+1)).mergeSort fun x y=>!(Qw cf) y x)=kH M (k+1):=by
       unfold kH;congr 1
       funext x y
       rw [hlt]
      rw [hix];obtain ⟨ord,hord⟩:∃ ord,ord=kH M (k+1):=⟨_,rfl⟩
      have hol:ord.length=k+1:=by rw [hord]; unfold kH; rw [YI,ZN]
      rw [<- hord];obtain ⟨p1,p2⟩:=iH (I:=sU) (e:=.cells (ord.map fun i=>cs.getD i.val .undef) ty' true) hH hgb rfl hL (putRow enc (Sort.ahead w m) L.blk 0 ord.toArray) (fun c hc=>by
        show (w.heap.modify L.blk _)[c]? = _;rw [Xa,if_neg (Ne.symm hc)]) (by show (w.heap.modify L.blk _).size=_; simp) ⟨rfl,fun _=>VH _ _⟩ rfl rfl
       (fun hFw=>by
        refine ⟨putCells enc 0 ord.toArray arr,(0,0),?_,by simp [putCells,a2],a3,by simp [putCells,hol]; omega,fun i c v hc hv=>?_,fun _=>⟨hnF,rfl⟩,fun h=>by cases h⟩
        ·show (w.heap.modify L.blk _)[L.blk]? = _;rw [Xa,if_pos rfl,a1]; rfl
        ·rw [V5,Vf] at hc;obtain ⟨p,hp,rfl⟩:=hc;obtain ⟨hi,hpe⟩:=Vm.1 hp;have hv':v=enc p:=by
          simp only [putCells,Array.getElem?_mapIdx,Vf] at hv;obtain ⟨z,hz,rfl⟩:=hv;rw [if_pos ⟨Vj _,by simpa using hi⟩];congr 1;simp [hi,hpe]
         rw [hv'];exact (hva p).mono (fun _ _ h=>h) (fun _ h=>h) hFw) rfl
      obtain ⟨r1,r2⟩:=Iw p1 os;exact ⟨_,rfl,μ,.tup [] #[] rfl (fun i c v h=>by simp at h),r1,p2.trans r2⟩
     ·cases h
    ·cases h
   ·cases h
  ·cases h
 ·cases h
end
section
variable {P:Program} {μ:Mu} {F:Nat->Prop} {H:Heap} {w:World} {T:Tm} {a:Act} {B:Nat}
def HG {tmps:Array Value} {r:ResultVar} {ar:Nat × Option (Option Nat)} {v:AV} (hT:LR μ F w T tmps.toList) (hH:HR P μ F H w) (hr:GF P r=some ar) (h:oJ T H ar=some v) :
  ∃ u,((match r with | .tmp t=>pure (tmps.getD t undef) | .cell a t=>do loadVar t (<- asAddr (tmps.getD a undef)):Sem Value)).run P w=.ok u w/\VR μ F w v u:=by
 have hg:=fun t=>JR (a:=⟨tmps,[]⟩) hT t;cases r with
 | tmp t=>cases hr; cases h; exact ⟨_,rfl,hg t⟩
 | cell a t =>
  simp only [GF,U8,U3] at hr;obtain ⟨k,hk,hr⟩:=hr;cases hr;simp only [oJ] at h;have hx:=hg a;split at h
  ·rename_i b o e;rw [e] at hx;obtain ⟨L,hL,hp⟩:=DR hx;split at h
   ·rename_i cs ty rw hb;obtain ⟨arr,fr,h1,h2,h3,h4,h5,h6,h7⟩:=fM hH hb hL;obtain ⟨u,hu,hr⟩:=Eg (o:=o) (off:=0) h1 zO (by simpa using h5) hk h;rw [VQ] at hu;simp only at hp;refine ⟨u,?_,hr⟩;simp only [Sem.run_bind,hp,asAddr,Sem.run_pure,Result.andThen_ok,hu]
   ·cases h
  ·cases h
def tl {tmps:Array Value} (hT:LR μ F w T tmps.toList) (hH:HR P μ F H w):∀ (rs:List ResultVar) (ars:List (Nat × Option (Option Nat))) (vs:List AV),rs.mapM (GF P)=some ars->ars.mapM (oJ T H)=some vs ->
  ∃ us:List Value,(rs.mapM fun | .tmp t=>pure (tmps.getD t undef) | .cell a t=>do loadVar t (<- asAddr (tmps.getD a undef)):Sem (List Value)).run P w=.ok us w/\LR μ F w vs us
 | [],ars,vs,h,h'=>by simp at h; subst h; simp at h'; subst h'; exact ⟨[],by simp,LR.nil⟩
 | r :: rs,ars,vs,h,h'=>by
  simp only [WK,Xp,U8,U3] at h;obtain ⟨x,hx,xs,hxs,h⟩:=h;cases h;simp only [WK,Xp,U8,U3] at h';obtain ⟨y,hy,ys,hys,h'⟩:=h';cases h';obtain ⟨u,hu,hr⟩:=HG hT hH hx hy;obtain ⟨us,hus,hrs⟩:=tl hT hH rs xs ys hxs hys;refine ⟨u :: us,?_,LR.cons hr hrs⟩;simp only [WK,Sem.run_bind,hu,Result.andThen_ok,hus,Sem.run_pure]
def BZ {fn:Func} {tmps:Array Value} {ars:List (Nat × Option (Option Nat))} {v:AV} (hT:LR μ F w T tmps.toList) (hH:HR P μ F H w) (hars:fn.results.toList.mapM (GF P)=some ars) (h:cg T H ars=some v) :
  ∃ u,(results fn tmps).run P w=.ok u w/\VR μ F w v u:=by
 simp only [cg,U8,U3] at h;obtain ⟨vs,hvs,h⟩:=h;obtain ⟨us,hus,hr⟩:=tl hT hH _ _ _ hars hvs;have hm:(fn.results.mapM fun | .tmp t=>pure (tmps.getD t undef) | .cell a t=>do loadVar t (<- asAddr (tmps.getD a undef)):Sem (Array Value)).run P w=.ok us.toArray w:=by
  rw [Zm];simp only [Sem.run_map,hus,Result.andThen_ok]
 have hres:(results fn tmps).run P w=.ok (if h:us.toArray.size=1 then us.toArray[0] else .tuple us.toArray) w:=by
  unfold results;simp only [Sem.run_bind];exact (congrArg (fun r:Result (Array Value)=>r.andThen fun a w'=>Sem.run P (pure (if h:a.size=1 then a[0] else Value.tuple a)) w') hm)
 refine ⟨_,hres,?_⟩;split at h
 ·cases h
  match us,hr with
  | [u],hr=>exact hr.head
  | [],hr=>have:=hr.1; simp at this
  | _ :: _ :: _,hr=>have:=hr.1; simp at this
 ·rename_i hne;cases h;have hl:=hr.1;have h1:us.toArray.size≠1:=by
   intro e;simp at e
   match vs,hl with
   | [v],_=>exact hne v rfl
   | [],hl=>simp at hl; omega
   | _ :: _ :: _,hl=>simp at hl; omega
  rw [dif_neg h1];exact .tup _ _ (by simpa using hl) fun i c u hc hu=>hr.2 i c u hc (by simpa using hu)
def Le (hH:HR P μ F H w) {D:Nat} {o:Obj} (hF:¬ F D) (hn:∀ b L,μ b=some L->L.blk≠D):HR P μ F H (w.putObj D o):=by
 have hw:∀ c,c≠D->(w.putObj D o).heap[c]? = w.heap[c]?:=fun c hc=>World.putObj_heap_other hc;have hsz:(w.putObj D o).heap.size=w.heap.size:=by simp [World.putObj]
 refine ⟨fun b L hb=>?_,fun c hc=>?_,fun b e hb=>?_,hH.inj,fun g cs hg=>(hH.gl g cs hg).mono (fun _ _ h=>h) (fun _ h=>h) fun c hc=>hw c fun e=>hF (e ▸ hc)⟩
 ·rw [hsz]; exact hH.dom b L hb
 ·rw [hsz]; exact hH.fb c hc
 ·obtain ⟨L,hL,hE⟩:=hH.ent b e hb;exact ⟨L,hL,hE.mono (fun _ _ h=>h) (fun _ h=>h) (fun c hc=>hw c fun e=>hF (e ▸ hc)) (hw _ (hn b L hL)) (fun hr=>hE.notF hr)⟩
def vB {fn:Func} {tmps:Array Value} {ars:List (Nat × Option (Option Nat))} {v:AV} {μ0:Mu} {H0:Heap} {w0:World} (n:Nat) (hars:fn.results.toList.mapM (GF P)=some ars) (hv:cg T H ars=some v) :
  ∀ (Ds:List Nat) (w:World),Ds.Nodup->(∀ D∈Ds,w0.heap.size<=D/\D<w.heap.size/\w.heap[D]? = some (.deferred (some []))/\¬ F D/\∀ b L,μ b=some L->L.blk≠D) ->
   LR μ F w T tmps.toList->HR P μ F H w->Stp sU P μ0 F H0 w0 μ F H w ->
   LeavesInM Fence.wide n P fn tmps (fun e w'=>∃ u,e=.returned u/\∃ μ',ij sU P μ0 F H0 w0 v H u w' μ') (Ds.map fun D=>{ target:=.collected D,args:=#[] }) .returning w
 | [],w,_,_,hT,hH,hS=>by
  obtain ⟨u,hu,hr⟩:=BZ hT hH hars hv;exact ⟨u,hu,u,rfl,μ,hr,hH,hS⟩
 | D :: Ds,w,hnd,hD,hT,hH,hS=>by
  obtain ⟨g1,g2,g3,g4,g5⟩:=hD D (Vh ..);have hnd:=XC.1 hnd;have hw:∀ c,c≠D->(w.putObj D (.deferred none)).heap[c]? = w.heap[c]?:=fun c hc=>World.putObj_heap_other hc;have hsz:(w.putObj D (.deferred none)).heap.size=w.heap.size:=by simp [World.putObj]
  refine ⟨fun e=>(by cases e),.inl ⟨D,_,rfl,run_takeDeferred g3,?_⟩⟩;refine vB n hars hv Ds _ hnd.2 (fun D' hD'=>?_) (hT.mono (fun _ _ h=>h) (fun _ h=>h) fun c hc=>hw c fun e=>g4 (e ▸ hc)) (Le hH g4 g5) ?_
  ·obtain ⟨k1,k2,k3,k4,k5⟩:=hD D' (Vd _ hD');exact ⟨k1,by rw [hsz]; exact k2,by rw [hw D' fun e=>hnd.1 (e ▸ hD')]; exact k3,k4,k5⟩
  ·exact ⟨hS.mu,hS.fr,by rw [hsz]; exact hS.size,fun c hc hn=>by rw [hw c zO]; exact hS.keep c hc hn,hS.rw,hS.next,hS.new,hS.rng,hS.old,hS.alv,hS.tape.trans (Tp.same rfl rfl),hS.os,hS.out⟩
def DL {μ:Mu} {F:Nat->Prop} {w:World} (n:Nat):LR μ F w (List.replicate n .undef) (List.replicate n undef):=by
 induction n with
 | zero=>exact LR.nil
 | succ n ih=>exact LR.cons (.undef _) ih
def qL {cal:oA} (hcal:nG P cal) (hmix:P.follows .mixedOrders=true) {m:Nat} {f:Nat} {fn:Func} {afn:aA} {args:List AV} {v:AV} {H':Heap} (hf:P.funcs[f]? = some fn) (hb:fn.body.isSome=true) (hb2:∀ c,fn.body=some c->bw P c=some afn.body)
  (hars:fn.results.toList.mapM (GF P)=some afn.results) (hnt:afn.ntmps=fn.ntmps)
  (h:Ai cal m afn args H=some (v,H')) {vs:List Value} (hvs:LR μ F w args vs) (hH:HR P μ F H w) (n:Nat) {fence:Fence} {rd:Bool} (hF:FenceOK fence rd) :
  CallsIn fence n P f vs.toArray w fun e w'=>∃ u,e=.returned u/\∃ μ',ij sU P μ F H w v H' u w' μ':=by
 have key:CallsIn Fence.wide n P f vs.toArray w fun e w'=>∃ u,e=.returned u/\∃ μ',ij sU P μ F H w v H' u w' μ':=by
  obtain ⟨c,hc⟩:=Yr.1 hb;unfold Ai at h;split at h
  ·have hstart:Mx P (w.heap.size,[]) μ F H w (args++List.replicate (afn.ntmps-args.length) .undef) { tmps:=vs.toArray++Array.replicate (fn.ntmps-vs.toArray.size) undef,defers:=[] }:=by
    refine ⟨?_,hH,DM.nil⟩;have hl:=hvs.1;simp only [ZX,Array.toList_replicate,XB];rw [<- hl,hnt];exact hvs.append (DL _)
   refine callsIn_of_wp_marks hf hc trivial ?_;have fin:∀ (x:Ex) (T1:Tm) (H1:Heap),(x=.nrm\/x=.ret)->aK cal m false afn.body (args++List.replicate (afn.ntmps-args.length) .undef) H=some (x,T1,H1)->(cg T1 H1 afn.results).map (fun v=>(v,H1))=some (v,H') ->
     c.wpIn Fence.wide n P (bodyPostM Fence.wide n P fn fun e w'=>∃ u,e=.returned u/\∃ μ',ij sU P μ F H w v H' u w' μ') { tmps:=vs.toArray++Array.replicate (fn.ntmps-vs.toArray.size) undef,defers:=[] } w:=by
    intro x T1 H1 hx hrun hres;simp only [Vf] at hres;obtain ⟨v',hv',hres⟩:=hres;cases hres;refine rG hcal hmix c afn.body (hb2 c hc) _ _ _ _ _ hrun Fence.wide n (w.heap.size,[]) μ F w _ _ (.inl ⟨rfl,rfl⟩) (Vb _) hstart fun a' w' μ' hS' hst=>?_;obtain ⟨Ds,e1,e2,e3⟩:=hS'.hD;have e1:a'.defers=Ds.map (fun D=>({ target:=.collected D,args:=#[] }:Deferred)):=e1.trans (Wy _)
    have:=vB (tmps:=a'.tmps) (fn:=fn) n hars hv' Ds w' e2 e3 hS'.hT hS'.hH hst
    rw [<- e1] at this;rcases hx with rfl | rfl <;> exact this
   split at h
   ·rename_i T1 H1 hrun; exact fin .nrm T1 H1 (.inl rfl) hrun h
   ·rename_i T1 H1 hrun; exact fin .ret T1 H1 (.inr rfl) hrun h
   ·cases h
  ·cases h
 rcases hF with ⟨_,rfl⟩ | ⟨_,l,rfl⟩
 ·exact key
 ·exact key
def Ph (P:Program) (f:Nat) (e:Ext):Prop:=∀ H args v H',vK H e args=some (v,H')->∀ (μ:Mu) (F:Nat->Prop) (w:World) (vs:List Value) (fence:Fence) (rd:Bool) (n:Nat),FenceOK fence rd->HR P μ F H w->LR μ F w args vs ->
 Runs fence n P ((callFunc f vs.toArray).run P w) fun u w'=>∃ μ',ij sU P μ F H w v H' u w' μ'
def ExtOK (P:Program) (f:Nat):Ext->Prop
 | .sortF _ gs=>I3 P f gs
 | e=>Ph P f e
def ExtOK.old {P:Program} {f:Nat} {e:Ext} (h:ExtOK P f e) (hn:∀ ty gs,e ≠ .sortF ty gs):Ph P f e:=by
 cases e <;> first | exact h | exact absurd rfl (hn _ _)
def Kh (P:Program) (tab:Nat->Option aA):Prop:=∀ f afn,tab f=some afn->(∀ e,afn.ext=some e->ExtOK P f e)/\((∀ e,afn.ext=some e->e.code=true)->∃ fn,P.funcs[f]? = some fn/\SM P fn=some afn)
def EG {fn:Func} {afn:aA} (h:SM P fn=some afn) (he:afn.ext=none):fn.body.isSome=true ∧ (∀ c,fn.body=some c → bw P c=some afn.body) ∧ fn.results.toList.mapM (GF P)=some afn.results ∧ afn.ntmps=fn.ntmps ∧ fn.name ≠ "runtime.NumGoroutine":=by
 unfold SM at h;split at h
 ·cases h; cases he
 split at h
 ·cases h; cases he
 split at h
 ·simp only [U8,U3] at h;obtain ⟨t,ht,d,hd,h⟩:=h;split at h
  ·simp only [U3] at h;obtain ⟨n,hn,b,hb,h⟩:=h;cases h; cases he
  ·cases h
 ·simp only [U8,U3] at h;obtain ⟨b,hb,h⟩:=h;split at h
  ·cases h
  ·rename_i hnm;simp only [U3] at h;obtain ⟨rs,hrs,c,hc,h⟩:=h;cases h;exact ⟨by simp [hb],fun c' hc'=>by rw [hb] at hc'; cases hc'; exact hc,hrs,rfl,hnm⟩
def Fv {μ:Mu} {F:Nat->Prop} {w:World}:∀ (ps:List Nat) (args:List AV) (vs:List Value) (T:Tm) (tm:Array Value),LR μ F w args vs->LR μ F w T tm.toList ->
  LR μ F w (oL T (ps.zip args)) ((ps.zip vs).foldl (fun (t:Array Value) (p:Nat × Value)=>t.setIfInBounds p.1 p.2) tm).toList
 | [],args,vs,T,tm,_,h=>by simpa [oL] using h
 | p :: ps,[],[],T,tm,_,h=>by simpa [oL] using h
 | p :: ps,[],_ :: _,T,tm,h,_=>by have:=h.1; simp at this
 | p :: ps,_ :: _,[],T,tm,h,_=>by have:=h.1; simp at this
 | p :: ps,a :: args,v :: vs,T,tm,hl,h=>by
  simp only [List.zip_cons_cons,oL,WQ];exact Fv ps args vs _ _ hl.tail (by rw [Yh]; exact h.set p hl.head)
def sM {f:Nat} {fn:Func} (hf:P.funcs[f]? = some fn) (hb:fn.body.isSome=true) (hn:fn.name ≠ "runtime.NumGoroutine") (args:Array Value) (w:World):(callFunc f args).run P w=.ok (.enter f args) w:=by
 obtain ⟨c,hc⟩:=Yr.1 hb;simp [callFunc,hf,hn,hc]
structure Shut (Ds:List Nat) (w w':World):Prop where
 other:∀ c,c ∉ Ds->w'.heap[c]? = w.heap[c]?
 size:w'.heap.size=w.heap.size
 tape:Tp w w'
 os:w'.os=w.os
 out:w'.output=w.output
def Shut.nil (w:World):Shut [] w w:=⟨fun _ _=>rfl,rfl,Tp.same rfl rfl,rfl,rfl⟩
def Shut.cons {D:Nat} {Ds:List Nat} {w w':World} (h:Shut Ds (w.putObj D (.deferred none)) w'):Shut (D :: Ds) w w' :=
 ⟨fun c hc=>(h.other c fun hm=>hc (Vd _ hm)).trans (World.putObj_heap_other fun e=>hc (e ▸ Vh ..)),h.size.trans (by simp [World.putObj]),(Tp.same rfl rfl).trans h.tape,h.os,h.out⟩
def Shut.hr {Ds:List Nat} {w w':World} (h:Shut Ds w w') (hH:HR P μ F H w) (hD:∀ D∈Ds,¬ F D/\∀ b L,μ b=some L->L.blk≠D):HR P μ F H w':=by
 have hF:∀ c,F c->w'.heap[c]? = w.heap[c]?:=fun c hc=>h.other c fun hm=>(hD c hm).1 hc;refine ⟨fun b L hb=>?_,fun c hc=>?_,fun b e hb=>?_,hH.inj,fun g cs hg=>(hH.gl g cs hg).mono (fun _ _ h=>h) (fun _ h=>h) hF⟩
 ·rw [h.size]; exact hH.dom b L hb
 ·rw [h.size]; exact hH.fb c hc
 ·obtain ⟨L,hL,hE⟩:=hH.ent b e hb;exact ⟨L,hL,hE.mono (fun _ _ h=>h) (fun _ h=>h) hF (h.other _ fun hm=>(hD _ hm).2 b L hL rfl) (fun hr=>hE.notF hr)⟩
def Shut.lr {Ds:List Nat} {w w':World} {as:List AV} {vs:List Value} (h:Shut Ds w w') (hl:LR μ F w as vs) (hD:∀ D∈Ds,¬ F D):LR μ F w' as vs :=
 hl.mono (fun _ _ h=>h) (fun _ h=>h) fun c hc=>h.other c fun hm=>hD c hm hc
def Shut.stp {Ds:List Nat} {w0 w w':World} {μ0:Mu} {H0:Heap} (h:Shut Ds w w') (hS:Stp sU P μ0 F H0 w0 μ F H w) (hD:∀ D∈Ds,w0.heap.size<=D):Stp sU P μ0 F H0 w0 μ F H w' :=
 ⟨hS.mu,hS.fr,by rw [h.size]; exact hS.size,fun c hc hn=>(h.other c fun hm=>by have:=hD c hm; omega).trans (hS.keep c hc hn),hS.rw,hS.next,hS.new,hS.rng,hS.old,hS.alv,hS.tape.trans h.tape,h.os.trans hS.os,h.out.trans hS.out⟩
def Fl {tab:Nat->Option aA} {m:Nat} (hmix:P.follows .mixedOrders=true) (htab:Kh P tab) {cal:oA} {pc:Mq} (hpc:I4 P pc) (ih:nG P cal):nG P (jA tab pc cal m):=by
 intro t H v H' h μ F w vs fence rd k hF hH hl hround;cases t with
 | fn f args =>
  simp only [jA] at h;split at h
  ·cases h
  ·rename_i afn hafn;obtain ⟨t1,t2⟩:=htab f afn hafn;refine ⟨fun f args e=>(by cases e),?_⟩;split at h
   ·rename_i ty gs he;exact Fg ih (t1 _ he) h hF hH hl k
   ·rename_i e hn he;exact (t1 e he).old hn H args v H' h μ F w vs fence rd k hF hH hl
   ·rename_i he;obtain ⟨fn,hfn,hcf⟩:=t2 fun e h=>by rw [he] at h; cases h
    obtain ⟨k1,k2,k3,k4,k5⟩:=EG hcf he;simp only [mV,sM hfn k1 k5,Runs];exact qL ih hmix hfn k1 k2 k3 k4 h hl hH k hF
 | ent f args =>
  simp only [jA] at h;split at h
  ·cases h
  ·rename_i afn hafn;obtain ⟨t1,t2⟩:=htab f afn hafn;split at h
   ·cases h
   ·rename_i he;obtain ⟨fn,hfn,hcf⟩:=t2 fun e h=>by rw [he] at h; cases h
    obtain ⟨k1,k2,k3,k4,k5⟩:=EG hcf he;refine ⟨fun f' args' e=>by cases e; exact sM hfn k1 k5 _ _,?_⟩;simp only [mV,sM hfn k1 k5,Runs];exact qL ih hmix hfn k1 k2 k3 k4 h hl hH k hF
 | round b args =>
  refine ⟨fun f args e=>(by cases e),?_⟩;obtain ⟨L,hL⟩:=hround b args rfl;simp only [jA] at h;split at h
  ·rename_i T0 ps asg body hb;split at h
   ·rename_i hlen;obtain ⟨L',hL',hE⟩:=hH.ent b _ hb;rw [hL] at hL'; cases hL';obtain ⟨hnF,r,g1,g2,g3,g4,g5,g6,g7⟩:=hE;have hpend:r.pending=none:=by
     cases hp:r.pending with
     | none=>rfl
     | some c=>rw [hp] at g7; exact g7.elim
    have hargs:vs.toArray.size=r.params.size:=by
     have h1:=hl.1;simp only [Task.args] at h1;have h2:r.params.size=ps.length:=by rw [<- g4]; simp
     simp; omega
    simp only [mV,hL,run_yield g1 hargs,Runs];split at h
    ·rename_i T1 H1 hasg;split at h
     ·rename_i T00 ps00 asg00 body00 hb1;split at h
      ·rename_i x T2 H2 hbody;split at h
       ·rename_i T3 ps3 asg3 body3 hb2;have key:RoundIn Fence.wide k P L.blk r.fn ((r.params.zip vs.toArray).foldl (fun tmps (t,a)=>tmps.setIfInBounds t a) r.tmps) r.assign r.body w fun e w'=>∃ u,e=.returned u/\∃ μ',ij sU P μ F H w v H' u w' μ':=by
         have hfold:((r.params.zip vs.toArray).foldl (fun tmps (t,a)=>tmps.setIfInBounds t a) r.tmps)=(ps.zip vs).foldl (fun (t:Array Value) (p:Nat × Value)=>t.setIfInBounds p.1 p.2) r.tmps:=by
          rw [<- Z6,Array.toList_zip,g4]
         rw [hfold];refine roundIn_of_wpIn trivial ?_;have hst0:Mx P (w.heap.size,[]) μ F H w (oL T0 (ps.zip args)) { tmps:=(ps.zip vs).foldl (fun (t:Array Value) (p:Nat × Value)=>t.setIfInBounds p.1 p.2) r.tmps,defers:=[] } :=
          ⟨Fv ps args vs T0 r.tmps hl g3,hH,DM.nil⟩
         refine rG ih hmix r.assign asg g5 _ _ _ _ _ hasg (Fence.wide.inRound L.blk) k (w.heap.size,[]) μ F w _ _ (.inr ⟨rfl,_,rfl⟩) (Vb _) hst0 fun a1 w1 μ1 hS1 hst1=>?_;obtain ⟨L1,hL1,hE1⟩:=hS1.hH.ent b _ hb1;rw [hst1.mu _ _ hL] at hL1; cases hL1;obtain ⟨hnF1,r1,q1,q2,q3,q4,q5,q6,q7⟩:=hE1;have hlt1:=(Wc.1 q1).1;refine ⟨_,run_beginRound q1 q2,?_⟩;obtain ⟨hP1,hP2⟩:=iH (I:=sU) (e:=.loop T00 ps00 asg00 body00 .busy none) hS1.hH hb1 rfl (hst1.mu _ _ hL) (w1.putObj L.blk (.loop { r1 with state:=.busy })) (fun c hc=>World.putObj_heap_other hc) (by simp [World.putObj]) (Tp.same rfl rfl) rfl rfl
          (fun hw=>⟨hnF1,_,World.putObj_heap_same hlt1,rfl,q3.mono (fun _ _ h=>h) (fun _ h=>h) hw,q4,q5,q6,q7⟩) rfl
         have hS1':Mx P (w.heap.size,[]) μ1 F (H1.put b (.loop T00 ps00 asg00 body00 .busy none)) (w1.putObj L.blk (.loop { r1 with state:=.busy })) T1 a1:=⟨hP2.lr hS1.hH hS1.hT,hP1,hS1.hD.stp hP2⟩
         refine rG ih hmix r.body body g6 _ _ _ _ _ hbody (Fence.wide.inRound L.blk) k (w.heap.size,[]) μ1 F _ _ _ (.inr ⟨rfl,_,rfl⟩) (Vn hst1.size hP2.size) hS1' fun a2 w2 μ2 hS2 hst2=>?_;obtain ⟨L2,hL2,hE2⟩:=hS2.hH.ent b _ hb2;rw [hst2.mu _ _ (hst1.mu _ _ hL)] at hL2; cases hL2;obtain ⟨hnF2,r2,s1,s2,s3,s4,s5,s6,s7⟩:=hE2;have hlt2:=(Wc.1 s1).1;have fin:∀ (jump:Option Code) (st:LoopState) (pe:Option ACode) (bv:Bool),(if jump.isNone then LoopState.ready else .done)=st->jump.isNone=bv->(match pe,jump with | none,none=>True | some c,some c'=>bw P c'=some c | _,_=>False) ->
           some (AV.bool bv,H2.put b (.loop T3 ps3 asg3 body3 st pe))=some (v,H') ->
           ∃ u w',(Instr.endRound L.blk jump).run P w2=.ok u w'/\∃ u',Ending.returned u=.returned u'/\∃ μ',ij sU P μ F H w v H' u' w' μ':=by
          intro jump st pe bv e1 e2 e3 e4;cases e4;subst e2;refine ⟨_,_,run_endRound jump s1,_,rfl,μ2,?_⟩;obtain ⟨z1,z2⟩:=iH (I:=sU) (e:=.loop T3 ps3 asg3 body3 st pe) hS2.hH hb2 rfl (hst2.mu _ _ (hst1.mu _ _ hL)) (w2.putObj L.blk (.loop { r2 with state:=if jump.isNone then .ready else .done,pending:=jump })) (fun c hc=>World.putObj_heap_other hc) (by simp [World.putObj]) (Tp.same rfl rfl) rfl rfl
           (fun hw=>⟨hnF2,_,World.putObj_heap_same hlt2,e1,s3.mono (fun _ _ h=>h) (fun _ h=>h) hw,s4,s5,s6,e3⟩) rfl
          exact ⟨.bool _,z1,((hst1.trans hP2).trans hst2).trans z2⟩
         cases x with
         | nrm=>exact fin none .ready none true rfl rfl trivial h
         | ret=>exact fin (some .ret) .done (some .ret) false rfl rfl rfl h
         | exit id=>exact fin (some (.exit id)) .done (some (.exit id)) false rfl rfl rfl h
         | goto g=>exact fin (some (.goto g)) .done (some (.goto g)) false rfl rfl rfl h
        rcases hF with ⟨_,rfl⟩ | ⟨_,l,rfl⟩
        ·exact key
        ·exact key
       ·cases h
      ·cases h
     ·cases h
    ·cases h
   ·cases h
  ·cases h
def Aj {tab:Nat->Option aA} {m:Nat} {pc:Mq} (hpc:I4 P pc) (hmix:P.follows .mixedOrders=true) (htab:Kh P tab):∀ n,nG P (lx tab pc m n)
 | 0=>fun t H v H' h=>by cases h
 | n+1=>Fl hmix htab hpc (Aj hpc hmix htab n)
end
section
variable {α:Type} (Good:Nat->α->Prop)
def G0 (f:Nat):Option α->Prop
 | none=>True
 | some a=>Good f a
def G1 (f:Nat) (q:Q (Option α)):Prop:=G0 Good (8*f) q.a/\G0 Good (8*f+1) q.b/\G0 Good (8*f+2) q.c/\G0 Good (8*f+3) q.d/\G0 Good (8*f+4) q.e/\G0 Good (8*f+5) q.f/\G0 Good (8*f+6) q.g/\G0 Good (8*f+7) q.h
def G2 (f:Nat) (q:Q (Q (Option α))):Prop:=G1 Good (8*f) q.a/\G1 Good (8*f+1) q.b/\G1 Good (8*f+2) q.c/\G1 Good (8*f+3) q.d/\G1 Good (8*f+4) q.e/\G1 Good (8*f+5) q.f/\G1 Good (8*f+6) q.g/\G1 Good (8*f+7) q.h
def G3 (f:Nat) (q:Q (Q (Q (Option α)))):Prop:=G2 Good (8*f) q.a/\G2 Good (8*f+1) q.b/\G2 Good (8*f+2) q.c/\G2 Good (8*f+3) q.d/\G2 Good (8*f+4) q.e/\G2 Good (8*f+5) q.f/\G2 Good (8*f+6) q.g/\G2 Good (8*f+7) q.h
def G4 (f:Nat) (q:Q (Q (Q (Q (Option α))))):Prop:=G3 Good (8*f) q.a/\G3 Good (8*f+1) q.b/\G3 Good (8*f+2) q.c/\G3 Good (8*f+3) q.d/\G3 Good (8*f+4) q.e/\G3 Good (8*f+5) q.f/\G3 Good (8*f+6) q.g/\G3 Good (8*f+7) q.h
variable {Good}
end
def Tr.nil_get0 (b:Nat):Tr.nil.get b=none:=by
 have:∀ {α:Type} (d:D8) (x:α),Q.at d (Q.all x)=x:=fun d x=>by cases d <;> rfl
 unfold Tr.get Tr.nil;cases Nat.ble b 16777215 with
 | false=>rfl
 | true=>simp only [this]
def Tr.nil_get (n b:Nat):Heap.get (Heap.nil n) b=none:=by
 have h:Nat.ble (Nat.succ b) 0=false:=rfl;unfold Heap.nil Heap.get;simp only [h];exact Tr.nil_get0 b
def GS (P:Program) (f:Nat) (afn:aA):Prop:=(∀ e,afn.ext=some e->ExtOK P f e)/\((∀ e,afn.ext=some e->e.code=true)->∃ fn,P.funcs[f]? = some fn/\SM P fn=some afn)
def Nl {P:Program} {f:Nat} {fn:Func} {afn:aA} (hf:P.funcs[f]? = some fn) (hc:SM P fn=some afn) (he:afn.ext.isNone=true):GS P f afn:=by
 refine ⟨fun e h=>?_,fun _=>⟨fn,hf,hc⟩⟩;rw [h] at he; cases he
def sj {P:Program} {f:Nat} {afn:aA} {e:Ext} (he:afn.ext=some e) (hx:e.code=false) (h:ExtOK P f e):GS P f afn:=by
 refine ⟨fun e' h'=>?_,fun h'=>?_⟩
 ·rw [he] at h'; cases h'; exact h
 ·have:=h' e he; rw [hx] at this; cases this
def DC:Array Value->Sem Value:=fun args=>do
 let (x,y,b) ← Extern.MathBitsCarry.three "Sub64" args
 pure (Extern.MathBitsCarry.pair ((x+Extern.MathBitsCarry.m64-y-b) % Extern.MathBitsCarry.m64) (if x<y+b then 1 else 0))
def Fk {P:Program} (x y b:Nat) (hb:b<=1) (w:World) :
  (DC #[.int .u64 x,.int .u64 y,.int .u64 b]).run P w =
   .ok (.tuple #[.int .u64 (((x+18446744073709551616-y-b) % 18446744073709551616:Nat):Int),.int .u64 ((if x<y+b then 1 else 0:Nat):Int)]) w:=by
 have:b=0\/b=1:=zO
 rcases this with rfl | rfl <;> rfl
def zL {μ:Mu} {F:Nat->Prop} {w:World} {vs:List Value} {a b c:Int} {k1 k2 k3:IntKind} (h:LR μ F w [.int k1 a,.int k2 b,.int k3 c] vs):vs=[.int k1 a,.int k2 b,.int k3 c]:=by
 have hl:=h.1
 match vs,hl with
 | [x,y,z],_ =>
  have h1:=h.2 0 _ x rfl rfl;have h2:=h.2 1 _ y rfl rfl;have h3:=h.2 2 _ z rfl rfl;cases h1; cases h2; cases h3; rfl
def CP {P:Program} {μ:Mu} {F:Nat->Prop} {H:Heap} {w:World} {v:AV} {u:Value} (hH:HR P μ F H w) (hv:VR μ F w v u):ij sU P μ F H w v H u w μ :=
 ⟨hv,hH,Stp.refl _ _ _ _ _ _⟩
def Q4 {H H':Heap} {args:List AV} {v:AV} (h:vK H .add64 args=some (v,H')):∃ x y c:Nat,args=[.int .u64 (.ofNat x),.int .u64 (.ofNat y),.int .u64 (.ofNat c)]/\c<=1/\v=.tup [.int .u64 (.ofNat ((x+y+c) % 2^64)),.int .u64 (.ofNat ((x+y+c) / 2^64))]/\H'=H:=by
 unfold vK at h;split at h
 all_goals first | contradiction | skip
 ·split at h
  ·rename_i x y c _ hc;cases h;exact ⟨x,y,c,rfl,hc,rfl,rfl⟩
  ·cases h
 all_goals cases h
def P4 {H H':Heap} {args:List AV} {v:AV} (h:vK H .sub64 args=some (v,H')):∃ x y c:Nat,args=[.int .u64 (.ofNat x),.int .u64 (.ofNat y),.int .u64 (.ofNat c)]/\c<=1/\v=.tup [.int .u64 (.ofNat ((x+2^64-y-c) % 2^64)),.int .u64 (.ofNat (if x<y+c then 1 else 0))]/\H'=H:=by
 unfold vK at h;split at h
 all_goals first | contradiction | skip
 ·split at h
  ·rename_i x y c _ hc;cases h;exact ⟨x,y,c,rfl,hc,rfl,rfl⟩
  ·cases h
 all_goals cases h
def Jl {μ:Mu} {F:Nat->Prop} {w:World} (a b:Int):VR μ F w (.tup [.int .u64 a,.int .u64 b]) (.tuple #[.int .u64 a,.int .u64 b]):=by
 refine .tup _ _ rfl fun i c' u hi hu=>?_
 have:i=0\/i=1\/2<=i:=zO
 rcases this with rfl | rfl | h2
 ·simp at hi hu; subst hi; subst hu; exact .int _ _
 ·simp at hi hu; subst hi; subst hu; exact .int _ _
 ·rw [VI (by simpa using h2)] at hi; cases hi
def F6 {P:Program} {f:Nat} {fn:Func} (hf:P.funcs[f]? = some fn) (h1:(fn.name == "runtime.NumGoroutine")=false) (h2:fn.body.isNone=true) (h3:Extern.findNext fn=none) (h4:Extern.find fn=some add64Entry):ExtOK P f .add64:=by
 intro H args v H' h μ F w vs fence rd n hF hH hl;obtain ⟨x,y,c,rfl,hc,rfl,rfl⟩:=Q4 h
 have:=zL hl
 subst this;have key:(add64Entry #[.int .u64 (.ofNat x),.int .u64 (.ofNat y),.int .u64 (.ofNat c)]).run P w=.ok (.tuple #[.int .u64 (.ofNat ((x+y+c) % 2^64)),.int .u64 (.ofNat ((x+y+c) / 2^64))]) w:=by
  refine (run_add64 (x:Int) (y:Int) (c:Int) zO zO zO zO w).trans ?_;have e1:((x:Int)+y+c) % 18446744073709551616=Int.ofNat ((x+y+c) % 2^64):=by rw [ZO]; omega
  have e2:((x:Int)+y+c) / 18446744073709551616=Int.ofNat ((x+y+c) / 2^64):=by rw [ZO]; omega
  rw [e1,e2]
 rw [run_callFunc_extern hf h1 h2 h3 h4,key];exact ⟨μ,CP hH (Jl _ _)⟩
def F5 {P:Program} {f:Nat} {fn:Func} (hf:P.funcs[f]? = some fn) (h1:(fn.name == "runtime.NumGoroutine")=false) (h2:fn.body.isNone=true) (h3:Extern.findNext fn=none) (h4:Extern.find fn=some DC):ExtOK P f .sub64:=by
 intro H args v H' h μ F w vs fence rd n hF hH hl;obtain ⟨x,y,c,rfl,hc,rfl,rfl⟩:=P4 h
 have:=zL hl
 subst this;have key:(DC #[.int .u64 (.ofNat x),.int .u64 (.ofNat y),.int .u64 (.ofNat c)]).run P w=.ok (.tuple #[.int .u64 (.ofNat ((x+2^64-y-c) % 2^64)),.int .u64 (.ofNat (if x<y+c then 1 else 0))]) w :=
  Fk x y c hc w
 rw [run_callFunc_extern hf h1 h2 h3 h4,key];exact ⟨μ,CP hH (Jl _ _)⟩
def GlobW (w:World):Prop:=∀ g cs,Mr g=some cs->VR (fun _=>none) (fun c=>(Mr c).isSome=true) w (.dp cs 0) (.pointer (some ⟨g,0,none⟩))
def Ns {P:Program} {w:World} (hG:GlobW w):HR P (fun _=>none) (fun c=>(Mr c).isSome=true) (Heap.nil 0) w:=by
 refine ⟨fun b L h=>(by cases h),fun c h=>?_,fun b e h=>?_,fun b b' e e' L L' h=>?_,hG⟩
 ·cases hc:Mr c with
  | none=>rw [hc] at h; cases h
  | some cs =>
   have:=hG c cs hc
   cases this with
   | dp _ _ _ _ _ _ _ _ hb _ _=>exact (Wc.1 hb).1
 ·rw [Tr.nil_get] at h; cases h
 ·rw [Tr.nil_get] at h; cases h
def eH:Mq:=fun _ _=>none
def U2 (tab:Nat->Option aA) (t:Task) (H:Heap) (v:AV) (H':Heap):Prop:=∃ N,∀ m n,N<=m->N<=n->lx tab eH m n t H=some (v,H')
def Ans (tab:Nat->Option aA) (t:Task) (H:Heap) (Q:AV->Heap->Prop):Prop:=∃ v H',U2 tab t H v H'/\Q v H'
def Pi (tab:Nat->Option aA) (rd:Bool) (c:ACode) (T:Tm) (H:Heap) (x:Ex) (T':Tm) (H':Heap):Prop:=∃ N,∀ m n,N<=m->N<=n->aK (lx tab eH m n) m rd c T H=some (x,T',H')
def Ans.mono {tab:Nat->Option aA} {t:Task} {H:Heap} {Q Q':AV->Heap->Prop} (h:Ans tab t H Q) (hq:∀ v H',Q v H'->Q' v H'):Ans tab t H Q':=by
 obtain ⟨v,H',hb,h⟩:=h;exact ⟨v,H',hb,hq v H' h⟩
section
variable (tab:Nat->Option aA)
def iz (ev:Src->AV) (H:Heap) (id:Nat) (o:AOp) (Q:AV->Heap->Prop):Prop :=
 match o with
 | .call f args=>∃ t,iA (ev f) (args.map ev)=some t/\Ans tab t H Q
 | o=>match aP ev o with
  | some v=>Q v H
  | none=>match bf ev H id o with
   | some (v,H')=>Q v H'
   | none=>False
def xY:Nat->List EP->Tm->Heap->(Tm->Heap->Prop)->Prop
 | _,[],T,H,Q=>Q T H
 | id,o :: os,T,H,Q =>
  match bW T o.guard with
  | some true=>iz tab (Src.ev T) H id o.op fun v H'=>xY (id+1) os (putT T o.dst v) H' Q
  | some false=>xY (id+1) os (putT T o.dst (.tup [])) H Q
  | none=>False
def tT (rd:Bool):ACode->Tm->Heap->(Ex->Tm->Heap->Prop)->Prop
 | .skip,T,H,Q=>Q .nrm T H
 | .region ops,T,H,Q=>xY tab H.next ops T { H with next:=H.next+ops.length } (Q .nrm)
 | .seq a b,T,H,Q=>tT rd a T H fun x T' H'=>match x with
  | .nrm=>tT rd b T' H' Q
  | x=>Q x T' H'
 | .cond c a b,T,H,Q=>match c.ev T with
  | .bool true=>tT rd a T H Q
  | .bool false=>tT rd b T H Q
  | _=>False
 | .block id body,T,H,Q=>tT rd body T H fun x T' H'=>match x with
  | .exit id'=>if id'=id then Q .nrm T' H' else Q (.exit id') T' H'
  | x=>Q x T' H'
 | .exit id,T,H,Q=>Q (.exit id) T H
 | .goto l,T,H,Q=>Q (.goto l) T H
 | .ret,T,H,Q=>Q .ret T H
 | .scope a,T,H,Q=>tT rd a T H fun x T' H'=>match x with
  | .goto _=>False
  | x=>Q x T' H'
 | c,T,H,Q=>∃ x T' H',Pi tab rd c T H x T' H'/\Q x T' H'
end
section
variable {tab:Nat->Option aA}
def mc {T:Tm} {H:Heap} {id:Nat} {o:AOp} {Q:AV->Heap->Prop} (h:iz tab (Src.ev T) H id o Q):∃ v H',Q v H'/\∃ N,∀ m n,N<=m->N<=n->Ax (lx tab eH m n) (Src.ev T) H id o=some (v,H'):=by
 have other:∀ (hc:∀ f args,o ≠ .call f args) (h:match aP (Src.ev T) o with | some v=>Q v H | none=>match bf (Src.ev T) H id o with | some (v,H')=>Q v H' | none=>False),
   (∀ cal,Ax cal (Src.ev T) H id o=match aP (Src.ev T) o with | some v=>some (v,H) | none=>bf (Src.ev T) H id o)->∃ v H',Q v H'/\∃ N,∀ m n,N<=m->N<=n->Ax (lx tab eH m n) (Src.ev T) H id o=some (v,H'):=by
  intro hc h e;split at h
  ·rename_i v hv;refine ⟨v,H,h,0,fun m n _ _=>?_⟩;rw [e,hv]
  ·rename_i hv;split at h
   ·rename_i v H' hh;refine ⟨v,H',h,0,fun m n _ _=>?_⟩;rw [e,hv]; exact hh
   ·exact h.elim
 cases o
 case call f args =>
  obtain ⟨t,ht,v,H',⟨N,hN⟩,hq⟩:=h;refine ⟨v,H',hq,N,fun m n hm hn=>?_⟩;simp only [Ax,ht,U8,Ww];exact hN m n hm hn
 all_goals exact other (fun f args e=>by cases e) h (fun cal=>rfl)
def qC:∀ (ops:List EP) (id:Nat) (T:Tm) (H:Heap) (Q:Tm->Heap->Prop),xY tab id ops T H Q->∃ T' H',Q T' H'/\∃ N,∀ m n,N<=m->N<=n->y6 (lx tab eH m n) id ops T H=some (T',H')
 | [],id,T,H,Q,h=>⟨T,H,h,0,fun _ _ _ _=>rfl⟩
 | o :: os,id,T,H,Q,h=>by
  unfold xY at h;split at h
  ·rename_i hw;obtain ⟨v,H1,h1,N1,g1⟩:=mc h;obtain ⟨T',H',hq,N2,g2⟩:=qC os _ _ _ _ h1;refine ⟨T',H',hq,N1+N2,fun m n hm hn=>?_⟩;unfold y6;rw [hw];simp only;rw [g1 m n zO zO];exact g2 m n zO zO
  ·rename_i hw;obtain ⟨T',H',hq,N2,g2⟩:=qC os _ _ _ _ h;refine ⟨T',H',hq,N2,fun m n hm hn=>?_⟩;unfold y6;rw [hw];exact g2 m n hm hn
  ·exact h.elim
def dW {rd:Bool}:∀ (c:ACode) (T:Tm) (H:Heap) (Q:Ex->Tm->Heap->Prop),tT tab rd c T H Q->∃ x T' H',Pi tab rd c T H x T' H'/\Q x T' H'
 | .skip,T,H,Q,h=>⟨.nrm,T,H,⟨0,fun _ _ _ _=>rfl⟩,h⟩
 | .exit id,T,H,Q,h=>⟨.exit id,T,H,⟨0,fun _ _ _ _=>rfl⟩,h⟩
 | .goto l,T,H,Q,h=>⟨.goto l,T,H,⟨0,fun _ _ _ _=>rfl⟩,h⟩
 | .ret,T,H,Q,h=>⟨.ret,T,H,⟨0,fun _ _ _ _=>rfl⟩,h⟩
 | .region ops,T,H,Q,h=>by
  obtain ⟨T',H',hq,N,g⟩:=qC ops _ _ _ _ h;refine ⟨.nrm,T',H',⟨N,fun m n hm hn=>?_⟩,hq⟩;simp only [aK,g m n hm hn]
 | .seq a b,T,H,Q,h=>by
  obtain ⟨x,T1,H1,⟨N1,g1⟩,h1⟩:=dW a _ _ _ h;by_cases hx:x=.nrm
  ·subst hx;obtain ⟨y,T2,H2,⟨N2,g2⟩,h2⟩:=dW b _ _ _ h1;refine ⟨y,T2,H2,⟨N1+N2,fun m n hm hn=>?_⟩,h2⟩;simp only [aK,g1 m n zO zO];exact g2 m n zO zO
  ·refine ⟨x,T1,H1,⟨N1,fun m n hm hn=>?_⟩,?_⟩
   ·simp only [aK,g1 m n hm hn]
    all_goals (cases x <;> first | rfl | exact absurd rfl hx)
   ·cases x <;> first | exact h1 | exact absurd rfl hx
 | .cond c a b,T,H,Q,h=>by
  unfold tT at h;split at h
  ·rename_i hc;obtain ⟨x,T1,H1,⟨N1,g1⟩,h1⟩:=dW a _ _ _ h;exact ⟨x,T1,H1,⟨N1,fun m n hm hn=>by simp only [aK,hc]; exact g1 m n hm hn⟩,h1⟩
  ·rename_i hc;obtain ⟨x,T1,H1,⟨N1,g1⟩,h1⟩:=dW b _ _ _ h;exact ⟨x,T1,H1,⟨N1,fun m n hm hn=>by simp only [aK,hc]; exact g1 m n hm hn⟩,h1⟩
  ·exact h.elim
 | .block id body,T,H,Q,h=>by
  obtain ⟨x,T1,H1,⟨N1,g1⟩,h1⟩:=dW body _ _ _ h;cases x with
  | exit id' =>
   simp only at h1;by_cases hi:id'=id
   ·rw [if_pos hi] at h1;exact ⟨.nrm,T1,H1,⟨N1,fun m n hm hn=>by simp only [aK,g1 m n hm hn,if_pos hi]⟩,h1⟩
   ·rw [if_neg hi] at h1;exact ⟨.exit id',T1,H1,⟨N1,fun m n hm hn=>by simp only [aK,g1 m n hm hn,if_neg hi]⟩,h1⟩
  | nrm=>exact ⟨_,T1,H1,⟨N1,fun m n hm hn=>by simp only [aK,g1 m n hm hn]⟩,h1⟩
  | goto l=>exact ⟨_,T1,H1,⟨N1,fun m n hm hn=>by simp only [aK,g1 m n hm hn]⟩,h1⟩
  | ret=>exact ⟨_,T1,H1,⟨N1,fun m n hm hn=>by simp only [aK,g1 m n hm hn]⟩,h1⟩
 | .scope a,T,H,Q,h=>by
  obtain ⟨x,T1,H1,⟨N1,g1⟩,h1⟩:=dW a _ _ _ h;cases x with
  | goto l=>exact h1.elim
  | nrm=>exact ⟨_,T1,H1,⟨N1,fun m n hm hn=>by simp only [aK,g1 m n hm hn]⟩,h1⟩
  | exit l=>exact ⟨_,T1,H1,⟨N1,fun m n hm hn=>by simp only [aK,g1 m n hm hn]⟩,h1⟩
  | ret=>exact ⟨_,T1,H1,⟨N1,fun m n hm hn=>by simp only [aK,g1 m n hm hn]⟩,h1⟩
 | .loop body,T,H,Q,h=>h
 | .rangeFunc ..,T,H,Q,h=>h
 | .draw ..,T,H,Q,h=>h
 | .drawF ..,T,H,Q,h=>h
 | .rangeM ..,T,H,Q,h=>h
 | .scopeL ..,T,H,Q,h=>h
def SU {f:Nat} {fn:aA} {args:List AV} {H:Heap} {Q:AV->Heap->Prop} (hf:tab f=some fn) (he:fn.ext=none) (hl:args.length=fn.nparams)
  (h:tT tab false fn.body (args++List.replicate (fn.ntmps-args.length) .undef) H fun x T' H'=>(x=.nrm\/x=.ret)/\∃ v,cg T' H' fn.results=some v/\Q v H'):Ans tab (.fn f args) H Q:=by
 obtain ⟨x,T',H',⟨N,g⟩,hx,v,hv,hq⟩:=dW _ _ _ _ h;refine ⟨v,H',⟨N+1,fun m n hm hn=>?_⟩,hq⟩;obtain ⟨n',rfl⟩:∃ n',n=n'+1:=⟨n-1,zO⟩
 show jA tab eH (lx tab eH m n') m (.fn f args) H=_;simp only [jA,hf,he,Ai,if_pos hl];rw [g m n' zO zO];rcases hx with rfl | rfl <;> simp [hv]
def Q3 {f:Nat} {fn:aA} {args:List AV} {H:Heap} {Q:AV->Heap->Prop} (hf:tab f=some fn) (he:fn.ext=none) (hl:args.length=fn.nparams)
  (h:tT tab false fn.body (args++List.replicate (fn.ntmps-args.length) .undef) H fun x T' H'=>(x=.nrm\/x=.ret)/\∃ v,cg T' H' fn.results=some v/\Q v H'):Ans tab (.ent f args) H Q:=by
 obtain ⟨x,T',H',⟨N,g⟩,hx,v,hv,hq⟩:=dW _ _ _ _ h;refine ⟨v,H',⟨N+1,fun m n hm hn=>?_⟩,hq⟩;obtain ⟨n',rfl⟩:∃ n',n=n'+1:=⟨n-1,zO⟩
 show jA tab eH (lx tab eH m n') m (.ent f args) H=_;simp only [jA,hf,he,Ai,if_pos hl];rw [g m n' zO zO];rcases hx with rfl | rfl <;> simp [hv]
def zn {f:Nat} {fn:aA} {e:Ext} {args:List AV} {H:Heap} {Q:AV->Heap->Prop} {v:AV} {H':Heap} (hf:tab f=some fn) (he:fn.ext=some e) (hc:e.code=false) (h:vK H e args=some (v,H')) (hq:Q v H'):Ans tab (.fn f args) H Q:=by
 refine ⟨v,H',⟨1,fun m n hm hn=>?_⟩,hq⟩;obtain ⟨n',rfl⟩:∃ n',n=n'+1:=⟨n-1,zO⟩
 show jA tab eH (lx tab eH m n') m (.fn f args) H=_;simp only [jA,hf,he];cases e <;> first | exact h | (cases hc; done) | (exact absurd h (by unfold vK; intro h; split at h <;> first | (rename_i q _; cases q; done) | (rename_i q; cases q; done) | (cases h; done)))
end
structure Sub (H H':Heap):Prop where
 next:H.next<=H'.next
 get:∀ b e,H.get b=some e->H'.get b=some e
def Wf (H:Heap):Prop:=∀ b e,H.get b=some e->b<H.next
def Sub.refl (H:Heap):Sub H H:=⟨Vb _,fun _ _ h=>h⟩
def Sub.trans {H H' H'':Heap} (h:Sub H H') (h':Sub H' H''):Sub H H'':=⟨Vn h.next h'.next,fun b e hb=>h'.get b e (h.get b e hb)⟩
def Sub.bump (H:Heap) (k:Nat):Sub H { H with next:=H.next+k }:=⟨VH _ _,fun _ _ h=>h⟩
def Sub.bump_r {H H':Heap} (h:Sub H H') (k:Nat):Sub H { H' with next:=H'.next+k }:=h.trans (Sub.bump H' k)
def Wf.bump {H:Heap} (h:Wf H) (k:Nat):Wf { H with next:=H.next+k }:=fun b e hb=>Vq (h b e hb) (VH _ _)
def Wf.put {H:Heap} (h:Wf H) {b:Nat} (hb:b<H.next) (e:Ent):Wf (H.put b e):=fun c e' hc=>by
 rw [Heap.get_put] at hc;split at hc
 ·rename_i h1; subst h1; exact hb
 ·exact h c e' hc
def Wf.kill {H:Heap} (h:Wf H) (b:Nat):Wf (H.kill b):=fun c e' hc=>by
 rw [Heap.get_kill] at hc;split at hc
 ·cases hc
 ·exact h c e' hc
def Sub.put {H H':Heap} (h:Sub H H') {b:Nat} (hb:H.get b=none) (e:Ent):Sub H (H'.put b e):=⟨h.next,fun c e' hc=>by
 rw [Heap.get_put];split
 ·rename_i h1; subst h1; rw [hb] at hc; cases hc
 ·exact h.get c e' hc⟩
def Sub.kill {H H':Heap} (h:Sub H H') {b:Nat} (hb:H.get b=none):Sub H (H'.kill b):=⟨h.next,fun c e' hc=>by
 rw [Heap.get_kill];split
 ·rename_i h1; subst h1; rw [hb] at hc; cases hc
 ·exact h.get c e' hc⟩
def Wf.fresh {H:Heap} (h:Wf H) {b:Nat} (hb:H.next<=b):H.get b=none:=by
 cases hg:H.get b with
 | none=>rfl
 | some e=>have:=h b e hg; omega
def TO:AV->Prop
 | .own _ _ n c _ _=>n<=c
 | _=>True
def Rd (H:Heap) (sz:Nat) (v:AV) (cells:List AV):Prop:=TO v/\(∀ s,v ≠ .str s)/\∃ n,gP v=some n/\aN H sz n v=some cells
def F3 {H H':Heap} (h:Sub H H') {sz n:Nat} {v:AV} {cells:List AV} (hf:aN H sz n v=some cells):aN H' sz n v=some cells:=by
 unfold aN at hf ⊢;split at hf
 ·split at hf
  ·rename_i cs ty rw hb;rw [h.get _ _ hb]; exact hf
  ·cases hf
 ·exact hf
 ·exact hf
 ·exact hf
 ·cases hf
def Rd.mono {H H':Heap} (h:Sub H H') {sz:Nat} {v:AV} {cells:List AV} (hr:Rd H sz v cells):Rd H' sz v cells:=by
 obtain ⟨h0,h1,n,h2,h3⟩:=hr;exact ⟨h0,h1,n,h2,F3 h h3⟩
def Rd.nil (H:Heap) (sz:Nat):Rd H sz .nilSl []:=⟨trivial,fun s h=>(by cases h),0,rfl,rfl⟩
def Rd.own {H:Heap} {sz b n c:Nat} {ex:Bool} {cs:List AV} {ty:Nat} {rw:Bool} (hb:H.get b=some (.cells cs ty rw)) (hn:cs.length=n*sz) (hc:n<=c):Rd H sz (.own b 0 n c sz ex) cs:=by
 refine ⟨hc,fun s h=>(by cases h),n,rfl,?_⟩;simp only [aN,hb];rw [if_pos zS];simp [<- hn]
def Rd.length {H:Heap} {sz:Nat} {v:AV} {cells:List AV} (h:Rd H sz v cells):∃ n,gP v=some n/\cells.length=n*sz:=by
 obtain ⟨-,h1,n,h2,h3⟩:=h;refine ⟨n,h2,?_⟩;unfold aN at h3;split at h3
 ·split at h3
  ·split at h3
   ·rename_i hc; cases h3; simp; omega
   ·cases h3
  ·cases h3
 ·split at h3
  ·rename_i hc; cases h3; simp; omega
  ·cases h3
 ·split at h3
  ·rename_i hc; cases h3; simp [hc]
  ·cases h3
 ·exact absurd rfl (h1 _)
 ·cases h3
def au (v:AV) (o:Nat):AV:=match v with
 | .own b off _ _ _ _=>.ptr b (off+o)
 | .sl cs _=>.dp cs o
 | _=>.undef
def Rd.index {H:Heap} {sz:Nat} {v:AV} {cells:List AV} (h:Rd H sz v cells) {ev:Src->AV} {x i:Src} {k:IntKind} {j:Nat} (hx:ev x=v) (hi:ev i=.int k (j:Int)) (hj:j*sz+sz<=cells.length) (hsz:0<sz):aP ev (.indexAddr sz x i)=some (au v (j*sz)):=by
 obtain ⟨n,hn,hl⟩:=h.length;obtain ⟨-,h1,m,h2,h3⟩:=h;rw [hn] at h2; cases h2;have hjn:j<n:=by
  apply Nat.lt_of_not_le
  intro hle
  have:=Vl sz hle
  omega
 have ha:qa (.int k (j:Int))=some j:=rfl;simp only [aP,hx,hi,ha,U8,Ww];unfold aN at h3;split at h3
 ·split at h3
  ·split at h3
   ·rename_i hc;simp only [gP,VL] at hn;subst hn;show (if j<_/\_=sz then some _ else none)=_;rw [if_pos ⟨hjn,hc.1⟩];rfl
   ·cases h3
  ·cases h3
 ·split at h3
  ·simp only [gP,VL] at hn;subst hn;show (if j<_ then some _ else none)=_;rw [if_pos hjn];rfl
  ·cases h3
 ·simp only [gP,VL] at hn;omega
 ·exact absurd rfl (h1 _)
 ·cases h3
def zN {cs:List AV} {off n o:Nat} {k:Option Nat} {w:AV} (ho:off<=cs.length) (h:aY ((cs.drop off).take n) o k=some w):aY cs (off+o) k=some w:=by
 unfold aY at h ⊢;cases k with
 | none =>
  simp only at h ⊢;rw [Vv] at h;split at h
  ·rw [Vw] at h; exact h
  ·cases h
 | some m =>
  simp only at h ⊢;split at h
  ·rename_i hle;cases h;simp only [VC,Wu] at hle;rw [if_pos zO];congr 2
   apply WM
   intro i;simp only [Vv,Vw];split
   ·rw [if_pos zO]; congr 1; omega
   ·rfl
  ·cases h
def Rd.load {H:Heap} {sz:Nat} {v:AV} {cells:List AV} (h:Rd H sz v cells) {o:Nat} {k:Option Nat} {w:AV} (hk:k≠some 0) (hw:aY cells o k=some w):aX H k (au v o)=some w:=by
 obtain ⟨-,h1,n,h2,h3⟩:=h;unfold aN at h3;split at h3
 ·split at h3
  ·rename_i hb;split at h3
   ·rename_i hc;cases h3;simp only [au,aX,hb];exact zN zO hw
   ·cases h3
  ·cases h3
 ·split at h3
  ·cases h3;simp only [au,aX]
   have:=zN (off:=0) (Vj _) (by simpa using hw)
   simpa using this
  ·cases h3
 ·split at h3
  ·cases h3;unfold aY at hw;cases k <;> simp at hw;rename_i m;exact absurd (by rw [hw.1.2]) hk
  ·cases h3
 ·exact absurd rfl (h1 _)
 ·cases h3
def Rd.len {H:Heap} {sz:Nat} {v:AV} {cells:List AV} (h:Rd H sz v cells) {ev:Src->AV} {x:Src} (hx:ev x=v) {n:Nat} (hn:cells.length=n*sz) (hsz:0<sz):aP ev (.len x)=some (.int .i64 (n:Int)):=by
 obtain ⟨m,hm,hl⟩:=h.length
 have:m=n:=Xm hsz zO
 subst this;obtain ⟨-,h1,-⟩:=h;simp only [aP,hx];cases v <;> simp only [gP,VL] at hm <;> first | (subst hm; rfl) | (cases hm; done) | skip
 exact absurd rfl (h1 _)
def Rd.slice {H:Heap} {sz:Nat} {v:AV} {cells:List AV} (h:Rd H sz v cells) {lo hi:Nat} {L U:Option AV} (hL:(L.map qa).getD (some 0)=some lo) (hU:∀ n,gP v=some n->(U.map qa).getD (some n)=some hi) (hlh:lo<=hi) (hh:hi*sz<=cells.length) (hsz:0<sz) :
  ∃ v',bR sz v L U none=some v'/\Rd H sz v' ((cells.take (hi*sz)).drop (lo*sz)):=by
 obtain ⟨n,hn,hl⟩:=h.length;have hU:=hU n hn;have hin:hi<=n:=Zc zO hsz;have hls:lo*sz<=hi*sz:=Vl sz hlh;obtain ⟨h0,h1,m,h2,h3⟩:=h;rw [hn] at h2; cases h2;cases v with
 | own b off n' c sz' ex =>
  simp only [gP,VL] at hn;subst hn;simp only [aN] at h3;split at h3
  ·rename_i cs ty rw hb;split at h3
   ·rename_i hc;obtain ⟨rfl,-,hc3⟩:=hc;cases h3;have hnc:n'<=c:=h0;have e:(hi-lo)*sz'=hi*sz'-lo*sz':=Nat.sub_mul ..;have hns:=Vl sz' hin;have eq1:bR sz' (.own b off n' c sz' ex) L U none=(if lo<c\/lo=0 then some (.own b (off+lo*sz') (hi-lo) (c-lo) sz' ex) else if ex=true then some (.own b off (hi-lo) (c-lo) sz' true) else some (.sl [] 0)):=by
     simp only [bR,hU,hL,U8,Ww,ne_eq,not_true_eq_false,if_false];rw [if_pos ⟨zO,hlh⟩]
    have key:((cs.drop off).take (n'*sz')).take (hi*sz')=(cs.drop off).take (hi*sz'):=by
     rw [Xn,Wi hns]
    rw [key];by_cases hlc:lo<c\/lo=0
    ·refine ⟨_,eq1.trans (if_pos hlc),?_,fun s h=>(by cases h),hi-lo,rfl,?_⟩
     ·show hi-lo<=c-lo; omega
     ·simp only [aN,hb];rw [if_pos ⟨trivial,Vb _,zO⟩];congr 1
      apply WM
      intro i;simp only [Vv,Vw];by_cases hi1:i<(hi-lo)*sz'
      ·rw [if_pos hi1,if_pos zO]; congr 1; omega
      ·rw [if_neg hi1,if_neg zO]
    ·have hlo:lo=hi:=zO;subst hlo;have e0:((cs.drop off).take (lo*sz')).drop (lo*sz')=[]:=by
      apply V6; simp
     rw [e0];cases ex with
     | true =>
      refine ⟨_,eq1.trans (by rw [if_neg hlc,if_pos rfl]),?_,fun s h=>(by cases h),lo-lo,rfl,?_⟩
      ·show lo-lo<=c-lo; omega
      ·simp only [aN,hb];rw [if_pos ⟨trivial,Vb _,by simp; omega⟩]
       simp
     | false =>
      refine ⟨.sl [] 0,eq1.trans (by rw [if_neg hlc,if_neg (by simp)]),trivial,fun s h=>(by cases h),0,rfl,?_⟩;simp [aN]
   ·cases h3
  ·cases h3
 | sl cs n' =>
  simp only [gP,VL] at hn;subst hn;simp only [aN] at h3;split at h3
  ·rename_i hc;cases h3;have hle:hi*sz<=cs.length:=by have:=Vl sz hin; omega
   refine ⟨.sl ((cs.drop (lo*sz)).take ((hi-lo)*sz)) (hi-lo),?_,trivial,fun s h=>(by cases h),hi-lo,rfl,?_⟩
   ·simp only [bR,hU,hL,U8,Ww];rw [if_pos ⟨hin,hlh,hle⟩]
   ·simp only [aN];have e:(hi-lo)*sz=hi*sz-lo*sz:=Nat.sub_mul ..;rw [if_pos ⟨Vb _,by simp only [VC,Wu]; omega⟩];congr 1
    apply WM
    intro i
    have:=Vl sz hin
    simp only [Vv,Vw];split
    ·rw [if_pos zO,if_pos zO]
    ·rw [if_neg zO]
  ·cases h3
 | nilSl =>
  simp only [gP,VL] at hn;subst hn
  have:hi=0:=zO
  subst this
  have:lo=0:=zO
  subst this;refine ⟨.nilSl,?_,trivial,fun s h=>(by cases h),0,rfl,?_⟩
  ·simp only [bR,hU,hL]; simp
  ·simp only [aN] at h3 ⊢; simp
 | str s=>exact absurd rfl (h1 s)
 | _=>simp [gP] at hn
def h9 {α:Type} (o:Option α) (Q:α->Prop):Prop:=match o with
 | some v=>Q v
 | none=>False
theorem Lf {α:Type} (v:α) (Q:α->Prop):h9 (some v) Q=Q v:=rfl
theorem Aw {α β:Type} (o:Option α) (f:α->β) (Q:β->Prop):h9 (o.map f) Q=h9 o fun v=>Q (f v):=by cases o <;> rfl
def lenV:AV->Option AV
 | .own _ _ n _ _ _=>some (.int .i64 n)
 | .sl _ n=>some (.int .i64 n)
 | .nilSl=>some (.int .i64 0)
 | _=>none
def cI (sz:Nat) (v i:AV):Option AV:=aP (fun s=>match s with | .t 0=>v | _=>i) (.indexAddr sz (.t 0) (.t 1))
def A5 (off:Nat):AV->Option AV
 | .ptr b o=>some (.ptr b (o+off))
 | .dp cs o=>some (.dp cs (o+off))
 | _=>none
def Ew (k:Option Nat) (off:Nat):AV->Option AV
 | .agg cs=>aY cs off k
 | _=>none
def Jk (c a b:AV):Option AV:=match c with
 | .bool t=>some (if t then a else b)
 | _=>none
def J4 (k:IntKind):AV->Option AV
 | .int _ n=>some (.int k (k.wrap n))
 | _=>none
def F4 (i:Nat):AV->Option AV
 | .tup vs=>vs[i]?
 | _=>none
def fu (zero:List AV) (parts:List ((Nat × Nat) × AV)):Option AV:=(cG zero parts).map .agg
def Az:AV->Option AV
 | .ptr b o=>some (.ptr b o)
 | .dp cs o=>some (.dp cs o)
 | .fn (.func f) a c=>some (.fn (.func f) a c)
 | .loopv b=>some (.loopv b)
 | _=>none
def cw (sz:Nat) (v:AV) (lo hi mx:Option AV):Option AV:=match v with
 | .str _=>none
 | v=>bR sz v lo hi mx
section
variable (tab:Nat->Option aA) (ev:Src->AV) (H:Heap) (id:Nat) (Q:AV->Heap->Prop)
def PG {o:AOp} {w:AV} (hc:∀ f args,o ≠ .call f args) (h:aP ev o=some w):iz tab ev H id o Q=Q w H:=by
 cases o
 case call f args=>exact absurd rfl (hc f args)
 all_goals
  unfold iz;simp only [h]
def gH {o:AOp} (hc:∀ f args,o ≠ .call f args) (h:aP ev o=none):iz tab ev H id o Q=h9 (bf ev H id o) fun r=>Q r.1 r.2:=by
 cases hh:bf ev H id o with
 | none =>
  cases o
  case call f args=>exact absurd rfl (hc f args)
  all_goals
   unfold iz;simp only [h,hh];rfl
 | some r =>
  cases o
  case call f args=>exact absurd rfl (hc f args)
  all_goals
   unfold iz;simp only [h,hh];rfl
def dX {o:AOp} {v:Option AV} (hc:∀ f args,o ≠ .call f args) (h:aP ev o=v) (hn:bf ev H id o=none):iz tab ev H id o Q=h9 v fun v=>Q v H:=by
 cases v with
 | some w=>rw [PG tab ev H id Q hc h,Lf]
 | none=>rw [gH tab ev H id Q hc h,hn]; rfl
def PH (c a b:Src):iz tab ev H id (.pick c a b) Q=h9 (Jk (ev c) (ev a) (ev b)) fun v=>Q v H :=
 dX tab ev H id Q (fun f a e=>by cases e) (by simp only [aP,Jk]; cases ev c <;> rfl) rfl
def RL (op:BinOp) (k:BK) (x y:Src):iz tab ev H id (.bin op k x y) Q=h9 (bV op k (ev x) (ev y)) fun v=>Q v H :=
 dX tab ev H id Q (fun f a e=>by cases e) rfl rfl
def Ta (op:UnOp) (x:Src):iz tab ev H id (.un op x) Q=h9 (RX op (ev x)) fun v=>Q v H :=
 dX tab ev H id Q (fun f a e=>by cases e) rfl rfl
def PK (k:IntKind) (x:Src):iz tab ev H id (.conv k x) Q=h9 (J4 k (ev x)) fun v=>Q v H :=
 dX tab ev H id Q (fun f a e=>by cases e) (by simp only [aP,J4]; cases ev x <;> rfl) rfl
def RH (x:Src):iz tab ev H id (.len x) Q=h9 (lenV (ev x)) fun v=>Q v H :=
 dX tab ev H id Q (fun f a e=>by cases e) (by simp only [aP,lenV]; cases ev x <;> rfl) rfl
def RI (sz:Nat) (x i:Src):iz tab ev H id (.indexAddr sz x i) Q=h9 (cI sz (ev x) (ev i)) fun v=>Q v H :=
 dX tab ev H id Q (fun f a e=>by cases e) (by simp only [aP,cI]) rfl
def Tb (off:Nat) (x:Src):iz tab ev H id (.fieldAddr off x) Q=h9 (A5 off (ev x)) fun v=>Q v H :=
 dX tab ev H id Q (fun f a e=>by cases e) (by simp only [aP,A5]; cases ev x <;> rfl) rfl
def MU (k:Option Nat) (off:Nat) (x:Src):iz tab ev H id (.field k off x) Q=h9 (Ew k off (ev x)) fun v=>Q v H :=
 dX tab ev H id Q (fun f a e=>by cases e) (by simp only [aP,Ew]; cases ev x <;> rfl) rfl
def RJ (i:Nat) (x:Src):iz tab ev H id (.extract i x) Q=h9 (F4 i (ev x)) fun v=>Q v H :=
 dX tab ev H id Q (fun f a e=>by cases e) (by simp only [aP,F4]; cases ev x <;> rfl) rfl
def MV (z:List AV) (ps:List ((Nat × Nat) × Src)):iz tab ev H id (.build z ps) Q=h9 (fu z (ps.map fun p=>(p.1,ev p.2))) fun v=>Q v H :=
 dX tab ev H id Q (fun f a e=>by cases e) (by simp only [aP,fu,U8]; cases cG z (ps.map fun p=>(p.1,ev p.2)) <;> rfl) rfl
def MT (x:Src):iz tab ev H id (.nilCheck x) Q=h9 (Az (ev x)) fun v=>Q v H :=
 dX tab ev H id Q (fun f a e=>by cases e) (by simp only [aP,Az]; cases ev x <;> rfl) rfl
def MS (sz:Nat) (x:Src) (lo hi mx:Option Src):iz tab ev H id (.slice sz x lo hi mx) Q=h9 (cw sz (ev x) (lo.map ev) (hi.map ev) (mx.map ev)) fun v=>Q v H :=
 dX tab ev H id Q (fun f a e=>by cases e) (by simp only [aP,cw]; cases ev x <;> rfl) rfl
def PJ (k:Option Nat) (x:Src):iz tab ev H id (.load k x) Q=h9 (aX H k (ev x)) fun v=>Q v H:=by
 rw [gH tab ev H id Q (fun f a e=>by cases e) rfl];show h9 ((aX H k (ev x)).map fun v=>(v,H)) _=_;rw [Aw]
def MR (n:Nat) (x v:Src):iz tab ev H id (.store n x v) Q=h9 (qH H n (ev x) (ev v)) fun H'=>Q .undef H':=by
 rw [gH tab ev H id Q (fun f a e=>by cases e) rfl];show h9 ((qH H n (ev x) (ev v)).map fun H'=>(AV.undef,H')) _=_;rw [Aw]
def MW (ty:Nat) (z:List AV):iz tab ev H id (.alloc ty z) Q=Q (.ptr id 0) (H.put id (.cells z ty true)):=by
 rw [gH tab ev H id Q (fun f a e=>by cases e) rfl]; rfl
def P0 (f:Nat) (a b args:List AV) (R:Task->Prop):(∃ t,iA (.fn (.func f) a b) args=some t/\R t)=R (.fn f (a++args++b)):=by simp [iA]
def KJ (b:Nat) (args:List AV) (R:Task->Prop):(∃ t,iA (.loopv b) args=some t/\R t)=R (.round b args):=by simp [iA]
def Ku (size bytes ty:Nat) (z:List AV) (x y:Src):iz tab ev H id (.append size bytes ty z x y) Q=h9 (bf ev H id (.append size bytes ty z x y)) fun r=>Q r.1 r.2 :=
 gH tab ev H id Q (fun f a e=>by cases e) rfl
def PI (ty size bytes:Nat) (z:List AV) (l c:Src):iz tab ev H id (.mksl ty size bytes z l c) Q=h9 (bf ev H id (.mksl ty size bytes z l c)) fun r=>Q r.1 r.2 :=
 gH tab ev H id Q (fun f a e=>by cases e) rfl
def BV (ty size:Nat) (z:List AV) (n:Nat) (ps:List ((Nat × Nat) × Src)):iz tab ev H id (.buildSlice ty size z n ps) Q=h9 (cG z (ps.map fun p=>(p.1,ev p.2))) fun cs=>Q (.own id 0 n n size true) (H.put id (.cells cs ty true)):=by
 rw [gH tab ev H id Q (fun f a e=>by cases e) rfl];have e:bf ev H id (.buildSlice ty size z n ps)=(cG z (ps.map fun p=>(p.1,ev p.2))).map fun cs=>(.own id 0 n n size true,H.put id (.cells cs ty true)):=by
  simp only [bf];cases cG z (ps.map fun p=>(p.1,ev p.2)) <;> rfl
 rw [e,Aw]
end
section
variable {tab:Nat->Option aA} {T:Tm} {H:Heap} {Q:Tm->Heap->Prop} {id:Nat}
def vH (T:Tm) (i j:Nat) (v:AV) (h:i<T.length):ad (T.set i v) j=if i=j then v else ad T j:=by
 unfold ad;rw [U5,U5,W9];by_cases hij:i=j
 ·subst hij; simp [h]
 ·simp [hij]
theorem SG (n:Nat):Src.ev T (.t n)=ad T n:=rfl
theorem TL (v:AV):Src.ev T (.c v)=v:=rfl
theorem iI (d:Nat) (v:AV):putT T (some d) v=T.set d v:=rfl
theorem lS (v:AV):putT T none v=T:=rfl
end
def QE {H:Heap} {sz:Nat} {v:AV} {cells:List AV} (h:Rd H sz v cells) {k:IntKind} {j:Nat} (hj:j*sz+sz<=cells.length) (hsz:0<sz):cI sz v (.int k (j:Int))=some (au v (j*sz)) :=
 h.index (ev:=fun s=>match s with | .t 0=>v | _=>.int k (j:Int)) (x:=.t 0) (i:=.t 1) rfl rfl hj hsz
def JH {H:Heap} {sz:Nat} {v:AV} {cells:List AV} (h:Rd H sz v cells) {n:Nat} (hn:cells.length=n*sz) (hsz:0<sz):lenV v=some (.int .i64 (n:Int)):=by
 have:=h.len (ev:=fun _=>v) (x:=.t 0) rfl hn hsz
 refine Eq.trans ?_ this;simp only [aP,lenV];cases v <;> rfl
section
variable {tab:Nat->Option aA} {T:Tm} {H:Heap} {Q:Tm->Heap->Prop} {id:Nat}
end
def Q2 {tab:Nat->Option aA} {f:Nat} {fn:aA} {args:List AV} {H:Heap} {Q:AV->Heap->Prop} (hf:tab f=some fn) (he:fn.ext=none) (hl:args.length=fn.nparams) (hn:fn.nparams<=fn.ntmps)
  (h:∀ T0:Tm,T0.length=fn.ntmps->(∀ i,i<args.length->ad T0 i=args.getD i .undef)->tT tab false fn.body T0 H fun x T' H'=>(x=.nrm\/x=.ret)/\∃ v,cg T' H' fn.results=some v/\Q v H'):Ans tab (.fn f args) H Q:=by
 refine SU hf he hl (h _ zS fun i hi=>?_);unfold ad;rw [U5,U5,VE hi]
structure Sw (H H':Heap):Prop where
 sub:Sub H H'
 wf:Wf H'
def Sw.bump {H H':Heap} (h:Sw H H') (k:Nat):Sw H { H' with next:=H'.next+k }:=⟨h.sub.bump_r k,h.wf.bump k⟩
def Sw.trans {H H' H'':Heap} (h:Sw H H') (h':Sw H' H''):Sw H H'':=⟨h.sub.trans h'.sub,h'.wf⟩
def Gm (v:AV) (P Q:Prop):Prop:=match v with
 | .bool true=>P
 | .bool false=>Q
 | _=>False
def IN (b:Bool) (P Q:Prop):Gm (.bool b) P Q=if b=true then P else Q:=by cases b <;> simp [Gm]
section
variable {tab:Nat->Option aA} {rd:Bool} {T:Tm} {H:Heap} {Q:Ex->Tm->Heap->Prop}
theorem PL (a b:ACode):tT tab rd (.seq a b) T H Q=tT tab rd a T H fun x T' H'=>match x with | .nrm=>tT tab rd b T' H' Q | x=>Q x T' H':=rfl
def MX (c:Src) (a b:ACode):tT tab rd (.cond c a b) T H Q=Gm (c.ev T) (tT tab rd a T H Q) (tT tab rd b T H Q):=by
 show (match c.ev T with | .bool true=>tT tab rd a T H Q | .bool false=>tT tab rd b T H Q | _=>False)=_;unfold Gm;split <;> rfl
theorem Kw (id:Nat) (a:ACode):tT tab rd (.block id a) T H Q=tT tab rd a T H fun x T' H'=>match x with | .exit id'=>if id'=id then Q .nrm T' H' else Q (.exit id') T' H' | x=>Q x T' H':=rfl
theorem Kv (a:ACode):tT tab rd (.scope a) T H Q=tT tab rd a T H fun x T' H'=>match x with | .goto _=>False | x=>Q x T' H':=rfl
end
section
variable (k:IntKind) (a b:Int)
def QV:bV .eql .int (.int k a) (.int k b)=some (.bool (decide (a=b))):=by
 simp only [bV,kV,if_true]; congr 2
def QR:bV .neq .int (.int k a) (.int k b)=some (.bool (!decide (a=b))):=by
 simp only [bV,kV,if_true]; congr 2
def Kd:bV .lss .int (.int k a) (.int k b)=some (.bool (decide (a<b))):=by simp only [bV,kV,if_true]
def QS:bV .leq .int (.int k a) (.int k b)=some (.bool (decide (a<=b))):=by simp only [bV,kV,if_true]
def QT:bV .gtr .int (.int k a) (.int k b)=some (.bool (decide (b<a))):=by simp only [bV,kV,if_true,gt_iff_lt,ge_iff_le]
def QU:bV .geq .int (.int k a) (.int k b)=some (.bool (decide (b<=a))):=by simp only [bV,kV,if_true,gt_iff_lt,ge_iff_le]
def EI:bV .add .int (.int k a) (.int k b)=some (.int k (k.wrap (a+b))):=by simp only [bV,kV,if_true]
def Kb:bV .sub .int (.int k a) (.int k b)=some (.int k (k.wrap (a-b))):=by simp only [bV,kV,if_true]
def Kc:bV .mul .int (.int k a) (.int k b)=some (.int k (k.wrap (a*b))):=by simp only [bV,kV,if_true]
theorem ON (j:IntKind):J4 k (.int j a)=some (.int k (k.wrap a)):=rfl
theorem Lc (c:Bool) (x y:AV):Jk (.bool c) x y=some (if c=true then x else y):=rfl
theorem RV (c:Bool):RX .not (.bool c)=some (.bool !c):=rfl
theorem QX (c e:Bool):bV .eql .bool (.bool c) (.bool e)=some (.bool (c == e)):=rfl
theorem QW (c e:Bool):bV .neq .bool (.bool c) (.bool e)=some (.bool (!(c == e))):=rfl
end
def wrap_i64 {x:Int} (h1 : -9223372036854775808<=x) (h2:x<9223372036854775808):IntKind.i64.wrap x=x:=by
 have e:IntKind.i64.wrap x=if x % 18446744073709551616 ≥ 9223372036854775808 then x % 18446744073709551616-18446744073709551616 else x % 18446744073709551616:=by
  simp [IntKind.wrap,IntKind.signed,IntKind.bits]
 rw [e];split <;> omega
def kh {x:Int}:IntKind.u64.wrap x=x % 18446744073709551616:=by
 simp [IntKind.wrap,IntKind.signed,IntKind.bits]
def gf {x:Int} (h1:0<=x) (h2:x<18446744073709551616):IntKind.u64.wrap x=x:=by rw [kh]; omega
def Rd.notStr {H:Heap} {sz:Nat} {v:AV} {cells:List AV} (h:Rd H sz v cells) (lo hi mx:Option AV):cw sz v lo hi mx=bR sz v lo hi mx:=by
 cases v <;> first | rfl | exact absurd rfl (h.2.1 _)
theorem fY (k:IntKind) (n:Nat):qa (.int k (n:Int))=some n:=rfl
def Rd.hi {H:Heap} {sz:Nat} {v:AV} {cells:List AV} (h:Rd H sz v cells) {k:IntKind} {hi:Nat} (hh:hi*sz<=cells.length) (hsz:0<sz):∃ v',cw sz v none (some (.int k (hi:Int))) none=some v'/\Rd H sz v' (cells.take (hi*sz)):=by
 rw [h.notStr];obtain ⟨v',h1,h2⟩:=h.slice (lo:=0) (hi:=hi) (L:=none) (U:=some (.int k (hi:Int))) rfl (fun n _=>rfl) (Vj _) hh hsz;exact ⟨v',h1,by simpa using h2⟩
def Rd.lo {H:Heap} {sz:Nat} {v:AV} {cells:List AV} (h:Rd H sz v cells) {k:IntKind} {lo:Nat} (hh:lo*sz<=cells.length) (hsz:0<sz):∃ v',cw sz v (some (.int k (lo:Int))) none none=some v'/\Rd H sz v' (cells.drop (lo*sz)):=by
 rw [h.notStr];obtain ⟨n,hn,hl⟩:=h.length;obtain ⟨v',h1,h2⟩:=h.slice (lo:=lo) (hi:=n) (L:=some (.int k (lo:Int))) (U:=none) rfl (fun m hm=>by rw [hn] at hm; cases hm; rfl) (Zc zO hsz) zO hsz;refine ⟨v',h1,?_⟩;rw [<- hl,VD] at h2; exact h2
def Rd.clip {H:Heap} {sz:Nat} {v:AV} {cells:List AV} (h:Rd H sz v cells) {k j:IntKind} {n:Nat} (hn:cells.length=n*sz) (hsz:0<sz):∃ v',cw sz v none (some (.int k (n:Int))) (some (.int j (n:Int)))=some v'/\Rd H sz v' cells:=by
 rw [h.notStr];obtain ⟨m,hm,hl⟩:=h.length
 have:m=n:=Xm hsz zO
 subst this;obtain ⟨h0,h1,m',h2,h3⟩:=h;rw [hm] at h2; cases h2;cases v with
 | own b off n' c sz' ex =>
  simp only [gP,VL] at hm;subst hm;simp only [aN] at h3;split at h3
  ·rename_i cs ty rw hb;split at h3
   ·rename_i hc;obtain ⟨rfl,-,hc3⟩:=hc;have hnc:n'<=c:=h0;have e:bR sz' (.own b off n' c sz' ex) none (some (.int k (n':Int))) (some (.int j (n':Int)))=some (.own b off n' 0 sz' true)\/bR sz' (.own b off n' c sz' ex) none (some (.int k (n':Int))) (some (.int j (n':Int)))=some (.own b off n' n' sz' true):=by
     simp only [bR,fY,ne_eq,not_true_eq_false,if_false,U8,Ww,W3,WU];rw [if_pos ⟨hnc,Vb _,Vj _⟩];by_cases h00:n'=0
     ·left; rw [if_pos h00]; simp
     ·right; rw [if_neg h00]; simp
    by_cases h00:n'=0
    ·subst h00;refine ⟨.own b off 0 0 sz' true,?_,Vb _,fun s h=>(by cases h),0,rfl,?_⟩
     ·rcases e with e | e <;> exact e
     ·simp only [aN,hb];rw [if_pos ⟨trivial,Vb _,zO⟩];exact h3
    ·refine ⟨.own b off n' n' sz' true,?_,Vb _,fun s h=>(by cases h),n',rfl,?_⟩
     ·simp only [bR,fY,ne_eq,not_true_eq_false,if_false,U8,Ww,W3,WU];rw [if_pos ⟨hnc,Vb _,Vj _⟩,if_neg h00]
      simp
     ·simp only [aN,hb];rw [if_pos ⟨trivial,Vb _,hc3⟩];exact h3
   ·cases h3
  ·cases h3
 | sl cs n' =>
  simp only [gP,VL] at hm;subst hm;simp only [aN] at h3;split at h3
  ·rename_i hc;refine ⟨.sl (cs.take (n'*sz)) n',?_,trivial,fun s h=>(by cases h),n',rfl,?_⟩
   ·simp only [bR,fY,U8,Ww,W3,WU];rw [if_pos ⟨Vb _,Vb _,Vj _,hc.2⟩]
    simp
   ·simp only [aN];rw [if_pos ⟨Vb _,by simp only [VC]; omega⟩];rw [Xn,Nat.min_self]; exact h3
  ·cases h3
 | nilSl =>
  simp only [gP,VL] at hm;subst hm;exact ⟨.nilSl,rfl,trivial,fun s h=>(by cases h),0,rfl,h3⟩
 | str s=>exact absurd rfl (h1 s)
 | _=>simp [gP] at hm
def TA {H:Heap} {s:AV} {cells:List AV} (hs:Rd H 1 s cells):lenV s=some (.int .i64 (cells.length:Int)):=JH hs zO zO
def Bld (H0 H:Heap) (sz ty:Nat) (v:AV) (cells:List AV):Prop :=
 (v=.nilSl/\cells=[])\/∃ b n,v=.own b 0 n n sz false/\H.get b=some (.cells cells ty true)/\cells.length=n*sz/\H0.get b=none
def Bld.nil {H0 H:Heap} {sz ty:Nat}:Bld H0 H sz ty .nilSl []:=.inl ⟨rfl,rfl⟩
def Bld.keep {H0 H H':Heap} {sz ty:Nat} {v:AV} {cells:List AV} (h:Bld H0 H sz ty v cells) (hk:∀ b e,H.get b=some e->H'.get b=some e):Bld H0 H' sz ty v cells:=by
 rcases h with h | ⟨b,n,h1,hb,h2⟩
 ·exact .inl h
 ·exact .inr ⟨b,n,h1,hk _ _ hb,h2⟩
def FX (H:Heap) (b c:Nat) (e:Ent):(H.put b e).get c=if c=b then some e else H.get c:=by rw [Heap.get_put]
def LD (H:Heap) (b c:Nat):(H.kill b).get c=if c=b then none else H.get c:=by rw [Heap.get_kill]
def fJ (v:AV):Option (List AV):=if v.cells.all AV.one=true then some v.cells else none
def Lj (x y:AV):Option AV:=match x with
 | .int k a=>JB (.int k a) y
 | _=>none
def Ij (x y:AV):Option AV:=match x with
 | .int k a=>Jz (.int k a) y
 | _=>none
theorem Eb (k j:IntKind) (a b:Int):Lj (.int k a) (.int j b)=some (.int k (if b > a then b else a)):=rfl
theorem zi (k j:IntKind) (a b:Int):Ij (.int k a) (.int j b)=some (.int k (if b<a then b else a)):=rfl
theorem SR (f:Fn) (a b:List AV):fJ (.fn f a b)=some [.fn f a b]:=rfl
theorem QQ (k:IntKind) (a:Int):fJ (.int k a)=some [.int k a]:=rfl
section
variable {tab:Nat->Option aA}
def Mn {b:Nat} {args:List AV} {T:Tm} {ps:List Nat} {asg body:ACode} {H:Heap} {Q:AV->Heap->Prop} (hb:H.get b=some (.loop T ps asg body .ready none)) (hl:args.length=ps.length)
  (h:tT tab true asg (oL T (ps.zip args)) H fun x T1 H1=>x=.nrm/\H1.get b=some (.loop T ps asg body .ready none) /\
   tT tab true body T1 (H1.put b (.loop T ps asg body .busy none)) fun x _ H2=>H2.get b=some (.loop T ps asg body .busy none)/\match x with
    | .nrm=>Q (.bool true) (H2.put b (.loop T ps asg body .ready none))
    | .ret=>Q (.bool false) (H2.put b (.loop T ps asg body .done (some .ret)))
    | .exit id=>Q (.bool false) (H2.put b (.loop T ps asg body .done (some (.exit id))))
    | .goto g=>Q (.bool false) (H2.put b (.loop T ps asg body .done (some (.goto g))))):Ans tab (.round b args) H Q:=by
 obtain ⟨x,T1,H1,⟨N1,g1⟩,rfl,hb1,h2⟩:=dW _ _ _ _ h;obtain ⟨y,T2,H2,⟨N2,g2⟩,hb2,h3⟩:=dW _ _ _ _ h2;have key:∀ (v:AV) (H':Heap),Q v H'->(∀ m n,N1+N2+1<=m->N1+N2+1<=n->lx tab eH m n (.round b args) H=some (v,H'))->Ans tab (.round b args) H Q:=fun v H' hq hr=>⟨v,H',⟨_,hr⟩,hq⟩
 have run:∀ m n,N1+N2+1<=m->N1+N2+1<=n->lx tab eH m n (.round b args) H=match y with
   | .nrm=>some (.bool true,H2.put b (.loop T ps asg body .ready none))
   | .ret=>some (.bool false,H2.put b (.loop T ps asg body .done (some .ret)))
   | .exit id=>some (.bool false,H2.put b (.loop T ps asg body .done (some (.exit id))))
   | .goto g=>some (.bool false,H2.put b (.loop T ps asg body .done (some (.goto g)))):=by
  intro m n hm hn;obtain ⟨n',rfl⟩:∃ n',n=n'+1:=⟨n-1,zO⟩
  show jA tab eH (lx tab eH m n') m (.round b args) H=_;simp only [jA,hb,if_pos hl,g1 m n' zO zO,hb1,g2 m n' zO zO,hb2];cases y <;> rfl
 cases y with
 | nrm=>exact key _ _ h3 run
 | ret=>exact key _ _ h3 run
 | exit id=>exact key _ _ h3 run
 | goto g=>exact key _ _ h3 run
def Di {f:Src} {ps:List Nat} {asg body:ACode} {T:Tm} {H:Heap} {Q:Ex->Tm->Heap->Prop} {fi:Nat} {args:List AV} (hf:iA (f.ev T) [.loopv H.next]=some (.fn fi args))
  (h:Ans tab (.ent fi args) (({ H with next:=H.next+1 }:Heap).put H.next (.loop T ps asg body .ready none)) fun _ H2 =>
   (H2.get H.next=some (.loop T ps asg body .ready none)/\Q .nrm T (H2.kill H.next))\/(H2.get H.next=some (.loop T ps asg body .done (some .ret))/\Q .ret T (H2.kill H.next)) \/
   (∃ id,H2.get H.next=some (.loop T ps asg body .done (some (.exit id)))/\Q (.exit id) T (H2.kill H.next))):tT tab false (.rangeFunc f ps asg body) T H Q:=by
 obtain ⟨v,H2,⟨N,g⟩,h⟩:=h;have run:∀ (x:Ex) (r:Option (Ex × Tm × Heap)),(∀ m n,N<=m->N<=n->aK (lx tab eH m n) m false (.rangeFunc f ps asg body) T H=r)->∀ T' H',r=some (x,T',H')->Pi tab false (.rangeFunc f ps asg body) T H x T' H':=fun x r h T' H' e=>⟨N,fun m n hm hn=>(h m n hm hn).trans e⟩
 rcases h with ⟨h1,h2⟩ | ⟨h1,h2⟩ | ⟨id,h1,h2⟩
 ·refine ⟨_,_,_,run _ _ (fun m n hm hn=>?_) _ _ rfl,h2⟩;simp only [aK,V3,if_false,hf];rw [g m n hm hn];simp only [h1]
 ·refine ⟨_,_,_,run _ _ (fun m n hm hn=>?_) _ _ rfl,h2⟩;simp only [aK,V3,if_false,hf];rw [g m n hm hn];simp only [h1]
 ·refine ⟨_,_,_,run _ _ (fun m n hm hn=>?_) _ _ rfl,h2⟩;simp only [aK,V3,if_false,hf];rw [g m n hm hn];simp only [h1]
def Mo {f:Nat} {fn:aA} {args:List AV} {H:Heap} {Q:AV->Heap->Prop} (hf:tab f=some fn) (he:fn.ext=none) (hl:args.length=fn.nparams) (hn:fn.nparams<=fn.ntmps)
  (h:∀ T0:Tm,T0.length=fn.ntmps->(∀ i,i<args.length->ad T0 i=args.getD i .undef)->tT tab false fn.body T0 H fun x T' H'=>(x=.nrm\/x=.ret)/\∃ v,cg T' H' fn.results=some v/\Q v H'):Ans tab (.ent f args) H Q:=by
 refine Q3 hf he hl (h _ zS fun i hi=>?_);unfold ad;rw [U5,U5,VE hi]
variable (ev:Src->AV) (H:Heap) (id:Nat) (Q:AV->Heap->Prop)
def RK (ty:Nat) (x:Src):iz tab ev H id (.box ty x) Q=h9 (fJ (ev x)) fun cs=>Q (.ptr id 0) (H.put id (.cells cs ty true)):=by
 rw [gH tab ev H id Q (fun f a e=>by cases e) rfl];simp only [bf,fJ];by_cases h:(ev x).cells.all AV.one=true
 ·rw [if_pos h,if_pos h]; rfl
 ·rw [if_neg h,if_neg h]; rfl
def RG (a b:Src):iz tab ev H id (.max [a,b]) Q=h9 (Lj (ev a) (ev b)) fun v=>Q v H:=by
 refine dX tab ev H id Q (fun f a e=>by cases e) ?_ rfl;simp only [aP,Lj,Ve,Vk];cases ev a <;> simp <;> rfl
def RF (a b:Src):iz tab ev H id (.min [a,b]) Q=h9 (Ij (ev a) (ev b)) fun v=>Q v H:=by
 refine dX tab ev H id Q (fun f a e=>by cases e) ?_ rfl;simp only [aP,Ij,Ve,Vk];cases ev a <;> simp <;> rfl
end
structure WC (tab:Nat->Option aA) (rd:Bool) (c:ACode) (T:Tm) (H:Heap) (Q:Ex->Tm->Heap->Prop):Prop where
 run:tT tab rd c T H Q
structure EN (tab:Nat->Option aA) (id:Nat) (os:List EP) (T:Tm) (H:Heap) (Q:Tm->Heap->Prop):Prop where
 run:xY tab id os T H Q
structure mR (tab:Nat->Option aA) (ev:Src->AV) (H:Heap) (id:Nat) (o:AOp) (Q:AV->Heap->Prop):Prop where
 run:iz tab ev H id o Q
def rY:WC=tT:=by funext tab rd c T H Q; exact propext ⟨fun h=>h.run,fun h=>⟨h⟩⟩
def zp:EN=xY:=by funext tab rd c T H Q; exact propext ⟨fun h=>h.run,fun h=>⟨h⟩⟩
def ca:mR=iz:=by funext tab rd c T H Q; exact propext ⟨fun h=>h.run,fun h=>⟨h⟩⟩
abbrev GY {α:Sort _} (_:α):Type:=Unit
def gL {α:Type} (o:Option α) (Q:α->Prop) (_:GY Q):Prop:=h9 o Q
def J5 (v:AV) (P Q:Prop) (_:GY P) (_:GY Q):Prop:=Gm v P Q
def Sg (id:Nat) (H:Heap) (F:Nat->Heap->Prop) (_:GY F):Prop:=F id H
def RR (v:AV) (F:AV->Prop) (_:GY F):Prop:=F v
def KU (tab:Nat->Option aA) (rd:Bool) (b:ACode) (Q:Ex->Tm->Heap->Prop) (x:Ex) (T:Tm) (H:Heap):Prop:=match x with
 | .nrm=>WC tab rd b T H Q
 | x=>Q x T H
def uC (id:Nat) (Q:Ex->Tm->Heap->Prop) (x:Ex) (T:Tm) (H:Heap):Prop:=match x with
 | .exit id'=>if id'=id then Q .nrm T H else Q (.exit id') T H
 | x=>Q x T H
def Nz (Q:Ex->Tm->Heap->Prop) (x:Ex) (T:Tm) (H:Heap):Prop:=match x with
 | .goto _=>False
 | x=>Q x T H
def Il (Inv:Nat->Tm->Heap->Prop) (k:Nat) (Q:Ex->Tm->Heap->Prop) (x:Ex) (T:Tm) (H:Heap):Prop:=match x with
 | .nrm=>∃ k',k'<k/\Inv k' T H
 | x=>Q x T H
def OW (v:AV) (args:List AV) (R:Task->Prop) (_:GY R):Prop:=∃ t,iA v args=some t/\R t
def AnsH (tab:Nat->Option aA) (t:Task) (H:Heap) (Q:AV->Heap->Prop) (_:GY Q):Prop:=Ans tab t H Q
def iteH (c:Prop) [Decidable c] (P Q:Prop) (_:GY P) (_:GY Q):Prop:=if c then P else Q
def Tv (tab:Nat->Option aA) (rd:Bool) (body:ACode) (_:GY body) (T:Tm) (H:Heap) (Q:Ex->Tm->Heap->Prop) (_:GY Q):Prop:=WC tab rd (.loop body) T H Q
def rangeH (tab:Nat->Option aA) (f:Src) (ps:List Nat) (asg body:ACode) (_:GY body) (_:GY asg) (T:Tm) (H:Heap) (Q:Ex->Tm->Heap->Prop) (_:GY Q):Prop:=WC tab false (.rangeFunc f ps asg body) T H Q
section
variable {tab:Nat->Option aA} {rd:Bool} {T:Tm} {H:Heap}
theorem wV {α:Type} (v:α) (Q:α->Prop):gL (some v) Q ()=Q v:=rfl
theorem DO (id:Nat) (H:Heap) (F:Nat->Heap->Prop):Sg id H F ()=F id H:=rfl
theorem Ja (v:AV) (F:AV->Prop):RR v F ()=F v:=rfl
def IP (b:Bool) (P Q:Prop):J5 (.bool b) P Q () ()=iteH (b=true) P Q () ():=IN b P Q
def CE (P Q:Prop):iteH True P Q () ()=P:=if_pos trivial
def AU (P Q:Prop):iteH False P Q () ()=Q:=if_neg (fun h=>h)
def Gv (f:Nat) (a b args:List AV) (R:Task->Prop):OW (.fn (.func f) a b) args R ()=R (.fn f (a++args++b)):=P0 f a b args R
def Bo (b:Nat) (args:List AV) (R:Task->Prop):OW (.loopv b) args R ()=R (.round b args):=KJ b args R
def AnsH.use {t:Task} {H:Heap} {P Q:AV->Heap->Prop} (h:Ans tab t H P) (hq:∀ v H',P v H'->Q v H'):AnsH tab t H Q ():=h.mono hq
def AnsH.eq {t:Task} {H:Heap} {w:AV} {P:Heap->Prop} {Q:AV->Heap->Prop} (h:Ans tab t H fun v H'=>v=w/\P H') (hq:∀ H',P H'->Q w H'):AnsH tab t H Q ():=h.mono fun _ H' ⟨e,h1⟩=>e ▸ hq H' h1
def iteH.split {c:Prop} [Decidable c] {P Q:Prop} (h1:c->P) (h2:¬ c->Q):iteH c P Q () ():=by
 unfold iteH;split
 ·exact h1 ‹_›
 ·exact h2 ‹_›
end
section
variable {tab:Nat->Option aA} (ev:Src->AV) (H:Heap) (id:Nat) (Q:AV->Heap->Prop)
theorem Q7 (x:Src):mR tab ev H id (.mv x) Q=RR (ev x) (fun v=>Q v H) ():=by rw [ca]; rfl
theorem Px (f:Fn) (a b:List Src):mR tab ev H id (.mkfn f a b) Q=RR (.fn f (a.map ev) (b.map ev)) (fun v=>Q v H) ():=by rw [ca]; rfl
def MQ (ty:Nat) (z:List AV):mR tab ev H id (.alloc ty z) Q=Q (.ptr id 0) (H.put id (.cells z ty true)):=by rw [ca]; exact MW tab ev H id Q ty z
theorem Pv (c a b:Src):mR tab ev H id (.pick c a b) Q=gL (Jk (ev c) (ev a) (ev b)) (fun v=>Q v H) ():=by rw [ca,PH]; rfl
theorem Hd (op:BinOp) (k:BK) (x y:Src):mR tab ev H id (.bin op k x y) Q=gL (bV op k (ev x) (ev y)) (fun v=>Q v H) ():=by rw [ca,RL]; rfl
theorem S7 (op:UnOp) (x:Src):mR tab ev H id (.un op x) Q=gL (RX op (ev x)) (fun v=>Q v H) ():=by rw [ca,Ta]; rfl
theorem PC (k:IntKind) (x:Src):mR tab ev H id (.conv k x) Q=gL (J4 k (ev x)) (fun v=>Q v H) ():=by rw [ca,PK]; rfl
theorem RA (x:Src):mR tab ev H id (.len x) Q=gL (lenV (ev x)) (fun v=>Q v H) ():=by rw [ca,RH]; rfl
theorem RB (sz:Nat) (x i:Src):mR tab ev H id (.indexAddr sz x i) Q=gL (cI sz (ev x) (ev i)) (fun v=>Q v H) ():=by rw [ca,RI]; rfl
theorem S9 (off:Nat) (x:Src):mR tab ev H id (.fieldAddr off x) Q=gL (A5 off (ev x)) (fun v=>Q v H) ():=by rw [ca,Tb]; rfl
theorem MM (k:Option Nat) (off:Nat) (x:Src):mR tab ev H id (.field k off x) Q=gL (Ew k off (ev x)) (fun v=>Q v H) ():=by rw [ca,MU]; rfl
theorem RC (i:Nat) (x:Src):mR tab ev H id (.extract i x) Q=gL (F4 i (ev x)) (fun v=>Q v H) ():=by rw [ca,RJ]; rfl
theorem MP (z:List AV) (ps:List ((Nat × Nat) × Src)):mR tab ev H id (.build z ps) Q=gL (fu z (ps.map fun p=>(p.1,ev p.2))) (fun v=>Q v H) ():=by rw [ca,MV]; rfl
theorem MK (x:Src):mR tab ev H id (.nilCheck x) Q=gL (Az (ev x)) (fun v=>Q v H) ():=by rw [ca,MT]; rfl
theorem MG (sz:Nat) (x:Src) (lo hi mx:Option Src):mR tab ev H id (.slice sz x lo hi mx) Q=gL (cw sz (ev x) (lo.map ev) (hi.map ev) (mx.map ev)) (fun v=>Q v H) ():=by rw [ca,MS]; rfl
theorem Pz (k:Option Nat) (x:Src):mR tab ev H id (.load k x) Q=gL (aX H k (ev x)) (fun v=>Q v H) ():=by rw [ca,PJ]; rfl
theorem Kt (size bytes ty:Nat) (z:List AV) (x y:Src):mR tab ev H id (.append size bytes ty z x y) Q=gL (bf ev H id (.append size bytes ty z x y)) (fun r=>Q r.1 r.2) ():=by rw [ca,Ku]; rfl
theorem Pw (ty size bytes:Nat) (z:List AV) (l c:Src):mR tab ev H id (.mksl ty size bytes z l c) Q=gL (bf ev H id (.mksl ty size bytes z l c)) (fun r=>Q r.1 r.2) ():=by rw [ca,PI]; rfl
theorem BU (ty size:Nat) (z:List AV) (n:Nat) (ps:List ((Nat × Nat) × Src)):mR tab ev H id (.buildSlice ty size z n ps) Q=gL (cG z (ps.map fun p=>(p.1,ev p.2))) (fun cs=>Q (.own id 0 n n size true) (H.put id (.cells cs ty true))) ():=by rw [ca,BV]; rfl
theorem RD (ty:Nat) (x:Src):mR tab ev H id (.box ty x) Q=gL (fJ (ev x)) (fun cs=>Q (.ptr id 0) (H.put id (.cells cs ty true))) ():=by rw [ca,RK]; rfl
theorem Rz (a b:Src):mR tab ev H id (.max [a,b]) Q=gL (Lj (ev a) (ev b)) (fun v=>Q v H) ():=by rw [ca,RG]; rfl
theorem Ry (a b:Src):mR tab ev H id (.min [a,b]) Q=gL (Ij (ev a) (ev b)) (fun v=>Q v H) ():=by rw [ca,RF]; rfl
theorem MF (n:Nat) (x v:Src):mR tab ev H id (.store n x v) Q=gL (qH H n (ev x) (ev v)) (fun H1=>Q .undef H1) ():=by rw [ca,MR]; rfl
theorem PE (f:Src) (args:List Src):mR tab ev H id (.call f args) Q=OW (ev f) (args.map ev) (fun t=>AnsH tab t H Q ()) ():=by rw [ca]; rfl
end
section
variable {tab:Nat->Option aA} {rd:Bool} {T:Tm} {H:Heap} {Q:Ex->Tm->Heap->Prop}
def PD (c:Src) (a b:ACode):WC tab rd (.cond c a b) T H Q=J5 (c.ev T) (WC tab rd a T H Q) (WC tab rd b T H Q) () ():=by rw [rY]; exact MX c a b
theorem Kq (ops:List EP):WC tab rd (.region ops) T H Q=Sg H.next { H with next:=H.next+ops.length } (fun id H'=>EN tab id ops T H' (Q .nrm)) ():=by rw [rY,zp]; rfl
def MH (a b:ACode):WC tab rd (.seq a b) T H Q=WC tab rd a T H (KU tab rd b Q):=by
 rw [rY,PL];congr 1
 funext x T H
 cases x <;> simp [KU,rY]
def ES (id:Nat) (a:ACode):WC tab rd (.block id a) T H Q=WC tab rd a T H (uC id Q):=by rw [rY]; exact Kw id a
def MI (a:ACode):WC tab rd (.scope a) T H Q=WC tab rd a T H (Nz Q):=by rw [rY]; exact Kv a
theorem Pu:WC tab rd .skip T H Q=Q .nrm T H:=by rw [rY]; rfl
theorem PB (id:Nat):WC tab rd (.exit id) T H Q=Q (.exit id) T H:=by rw [rY]; rfl
theorem PA (id:Nat):WC tab rd (.goto id) T H Q=Q (.goto id) T H:=by rw [rY]; rfl
theorem Rx:WC tab rd .ret T H Q=Q .ret T H:=by rw [rY]; rfl
theorem Nw (b:ACode):KU tab rd b Q .nrm T H=WC tab rd b T H Q:=rfl
theorem Nv (b:ACode):KU tab rd b Q .ret T H=Q .ret T H:=rfl
theorem KT (b:ACode) (i:Nat):KU tab rd b Q (.exit i) T H=Q (.exit i) T H:=rfl
theorem KS (b:ACode) (i:Nat):KU tab rd b Q (.goto i) T H=Q (.goto i) T H:=rfl
theorem O3 (i:Nat):uC i Q .nrm T H=Q .nrm T H:=rfl
theorem O2 (i:Nat):uC i Q .ret T H=Q .ret T H:=rfl
theorem Md (i j:Nat):uC i Q (.goto j) T H=Q (.goto j) T H:=rfl
theorem Me (i j:Nat):uC i Q (.exit j) T H=iteH (j=i) (Q .nrm T H) (Q (.exit j) T H) () ():=rfl
theorem Ny:Nz Q .nrm T H=Q .nrm T H:=rfl
theorem Nx:Nz Q .ret T H=Q .ret T H:=rfl
theorem KV (i:Nat):Nz Q (.exit i) T H=Q (.exit i) T H:=rfl
theorem FJ (Inv:Nat->Tm->Heap->Prop) (k:Nat):Il Inv k Q .nrm T H = ∃ k',k'<k/\Inv k' T H:=rfl
theorem Oe (Inv:Nat->Tm->Heap->Prop) (k:Nat):Il Inv k Q .ret T H=Q .ret T H:=rfl
theorem Lr (Inv:Nat->Tm->Heap->Prop) (k i:Nat):Il Inv k Q (.exit i) T H=Q (.exit i) T H:=rfl
theorem Lq (Inv:Nat->Tm->Heap->Prop) (k i:Nat):Il Inv k Q (.goto i) T H=Q (.goto i) T H:=rfl
theorem Py (c:ACode):WC tab rd (.loop c) T H Q=Tv tab rd c () T H Q ():=rfl
theorem MJ (f:Src) (ps:List Nat) (a c:ACode):WC tab false (.rangeFunc f ps a c) T H Q=rangeH tab f ps a c () () T H Q ():=rfl
end
section
variable {tab:Nat->Option aA} {T:Tm} {H:Heap} {Q:Tm->Heap->Prop} {id:Nat}
theorem Dh:EN tab id [] T H Q=Q T H:=by rw [zp]; rfl
theorem zr (d:Option Nat) (o:AOp) (os:List EP):EN tab id (⟨d,o,none⟩ :: os) T H Q=mR tab (Src.ev T) H id o fun v H'=>EN tab (id+1) os (putT T d v) H' Q:=by rw [zp,ca]; rfl
def pb {f:Nat} {fn:aA} {args:List AV} {Q:AV->Heap->Prop} (hf:tab f=some fn) (he:fn.ext=none) (hl:args.length=fn.nparams) (hn:fn.nparams<=fn.ntmps)
  (h:∀ T0:Tm,T0.length=fn.ntmps->(∀ i,i<args.length->ad T0 i=args.getD i .undef)->WC tab false fn.body T0 H fun x T' H'=>(x=.nrm\/x=.ret)/\∃ v,cg T' H' fn.results=some v/\Q v H'):Ans tab (.fn f args) H Q :=
 Q2 hf he hl hn fun T0 h1 h2=>(h T0 h1 h2).run
def BO {f:Nat} {fn:aA} {args:List AV} {Q:AV->Heap->Prop} (hf:tab f=some fn) (he:fn.ext=none) (hl:args.length=fn.nparams) (hn:fn.nparams<=fn.ntmps)
  (h:∀ T0:Tm,T0.length=fn.ntmps->(∀ i,i<args.length->ad T0 i=args.getD i .undef)->WC tab false fn.body T0 H fun x T' H'=>(x=.nrm\/x=.ret)/\∃ v,cg T' H' fn.results=some v/\Q v H'):Ans tab (.ent f args) H Q :=
 Mo hf he hl hn fun T0 h1 h2=>(h T0 h1 h2).run
end
section
variable {tab:Nat->Option aA}
def rangeH.use {f:Src} {ps:List Nat} {asg body:ACode} {T:Tm} {H:Heap} {Q:Ex->Tm->Heap->Prop} {fi:Nat} {args:List AV} (hf:iA (f.ev T) [.loopv H.next]=some (.fn fi args))
  (h:Ans tab (.ent fi args) (({ H with next:=H.next+1 }:Heap).put H.next (.loop T ps asg body .ready none)) fun _ H2 =>
   (H2.get H.next=some (.loop T ps asg body .ready none)/\Q .nrm T (H2.kill H.next))\/(H2.get H.next=some (.loop T ps asg body .done (some .ret))/\Q .ret T (H2.kill H.next)) \/
   (∃ id,H2.get H.next=some (.loop T ps asg body .done (some (.exit id)))/\Q (.exit id) T (H2.kill H.next))):rangeH tab f ps asg body () () T H Q ():=by
 unfold rangeH;exact ⟨Di hf h⟩
def Sf (b:Nat) (T:Tm) (ps:List Nat) (asg body:ACode) (Q:AV->Heap->Prop) (x:Ex) (_:Tm) (H2:Heap):Prop:=H2.get b=some (.loop T ps asg body .busy none)/\match x with
 | .nrm=>Q (.bool true) (H2.put b (.loop T ps asg body .ready none))
 | .ret=>Q (.bool false) (H2.put b (.loop T ps asg body .done (some .ret)))
 | .exit id=>Q (.bool false) (H2.put b (.loop T ps asg body .done (some (.exit id))))
 | .goto g=>Q (.bool false) (H2.put b (.loop T ps asg body .done (some (.goto g))))
theorem uQ (b:Nat) (T T':Tm) (ps:List Nat) (asg body:ACode) (Q:AV->Heap->Prop) (H2:Heap):Sf b T ps asg body Q .nrm T' H2=(H2.get b=some (.loop T ps asg body .busy none)/\Q (.bool true) (H2.put b (.loop T ps asg body .ready none))):=rfl
def qc {b:Nat} {args:List AV} {T:Tm} {ps:List Nat} {asg body:ACode} {H:Heap} {Q:AV->Heap->Prop} (hb:H.get b=some (.loop T ps asg body .ready none)) (hl:args.length=ps.length)
  (h:WC tab true asg (oL T (ps.zip args)) H fun x T1 H1=>x=.nrm/\H1.get b=some (.loop T ps asg body .ready none)/\WC tab true body T1 (H1.put b (.loop T ps asg body .busy none)) (Sf b T ps asg body Q)):Ans tab (.round b args) H Q:=by
 refine Mn hb hl ?_;simp only [rY] at h;refine Eq.mpr (congrArg (tT tab true asg (oL T (ps.zip args)) H) ?_) h
 funext x T1 H1
 refine congrArg (fun p=>x=.nrm/\H1.get b=some (.loop T ps asg body .ready none)/\p) ?_;refine congrArg (tT tab true body T1 (H1.put b (.loop T ps asg body .busy none))) ?_
 funext y T2 H2
 cases y <;> rfl
end
end Go.Proofs.YteaefaohjlmjdaaGreat.Ev
