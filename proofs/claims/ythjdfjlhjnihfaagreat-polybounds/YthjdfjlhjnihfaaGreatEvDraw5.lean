/- A part. -/
import Derived.Test.YthjdfjlhjnihfaaGreatA0
import Derived.Test.YthjdfjlhjnihfaaGreatEvHeap
import Derived.Scope
import Derived.Maps.RangeRun
import Derived.Sort.Row
import Derived.Sort.Grow
import Derived.Sort.Statements
import Derived.Deep.Draws
import Derived.Laws.Externs
import Derived.Lib.Bytealg
import Derived.CallsIn
set_option linter.all false
namespace Go.Proofs.YthjdfjlhjnihfaaGreat.Ev
open Go
def Hr {α β:Type} {f:α->Option β}:∀ (xs:List α) (ys:List β),xs.mapM f=some ys->ys.length=xs.length/\∀ (i:Nat) (x:α),xs[i]? = some x->∃ y,ys[i]? = some y/\f x=some y
 | [],ys,h=>by simp at h; subst h; exact ⟨rfl,fun i x h=>by simp at h⟩
 | x :: xs,ys,h=>by
  simp only [Wx,Xi,qh,bV] at h;obtain ⟨y,hy,ys',hys,h⟩:=h;cases h;obtain ⟨h1,h2⟩:=Hr xs ys' hys;refine ⟨by simp [h1],fun i x' hx=>?_⟩;cases i with
  | zero=>simp at hx; subst hx; exact ⟨y,rfl,hy⟩
  | succ i=>simpa using h2 i x' (by simpa using hx)
theorem getD_of {α:Type} {l:List α} {i:Nat} {x d:α} (h:l[i]? = some x):l.getD i d=x:=by rw [dH,h]; rfl
def Rp (l:List DI) (i:Nat):jm :=
 let d:=l.getD i default
 { dst:=d.dst,op:=d.op,guard:=d.guard,uses:=((d.op.slots++(match d.guard with | some (t,_)=>[t] | none=>[])).eraseDups).map fun t=>(t,Hw l i d.preds t),cls:=d.cls,looks:=Ht l i:jm }
def Gt {P:Program} {ops:Array Oper} {os:List Oper} {pr:List (List Nat)} {l:List DI} {ds:List jm} (hos:∀ (i:Nat) (o:Oper),os[i]? = some o->ops[i]? = some o)
  (hl:os.zipIdx.mapM (fun (o,i)=>Rr P ops pr o i)=some l) (hds:(List.range l.length).map (Rp l)=ds) (hok:Gu os l ds=true):sJ P ops l ds/\l.length=os.length:=by
 obtain ⟨h1,h2⟩:=Hr _ _ hl;have hlen:l.length=os.length:=by simpa using h1
 simp only [Gu,Vy] at hok;obtain ⟨⟨⟨ok1,ok2⟩,ok3⟩,ok4⟩:=hok;have hdlen:ds.length=l.length:=by rw [<- hds]; simp
 have hosl:∀ i,i<l.length->∃ o,os[i]? = some o:=fun i hi=>⟨os[i]'(hlen ▸ hi),pD _⟩
 have hop:∀ i,i<l.length->∃ o,ops[i]? = some o/\Rr P ops pr o i=some (l.getD i default):=by
  intro i hi;have hx:os.zipIdx[i]? = some (os[i]'(hlen ▸ hi),i):=by simp [hlen ▸ hi]
  obtain ⟨y,hy,hf⟩:=h2 i _ hx;exact ⟨_,hos i _ (pD (hlen ▸ hi)),by rw [getD_of hy]; exact hf⟩
 have hoget:∀ i o,i<l.length->ops[i]? = some o->os.getD i default=o:=by
  intro i o hi ho;obtain ⟨o',ho'⟩:=hosl i hi
  have:=hos i o' ho'
  rw [ho] at this; cases this;exact getD_of ho'
 have hsz:l.length<=ops.size:=by
  rcases W6 l.length with h | h
  ·omega
  ·obtain ⟨o,ho⟩:=hosl (l.length-1) zO
   have:=(V4.1 (hos _ _ ho)).1
   omega
 simp only [Hg,Vq,Wb,Vy,VA,WK,beq_iff_eq,decide_eq_true_eq,WP] at ok1;simp only [Hi,Vq,Wb,Vy,WK,V3,bne_iff_ne,ne_eq,WP,Option.isNone_iff_eq_none] at ok2;simp only [LI,Vq,Wb] at ok3;simp only [Hj,Vq,Wb,Vy] at ok4;refine ⟨⟨hsz,hdlen,fun i hi=>?_,fun i hi=>?_,fun i hi=>?_,fun i o hi ho j hj=>?_,fun i o hi ho p hp=>?_,fun i j hij hj h1 h2=>?_,fun i j hij hj h1 h2=>?_,fun i hi t j hu=>?_,fun i hi t hu j' hj' hd=>?_,fun i hi k adds hm a ha=>?_,fun i hi hc k hk=>?_,fun i hi hc=>?_⟩,hlen⟩
 ·obtain ⟨o,ho,hd⟩:=hop i hi;simp only [Rr,Ai] at hd;obtain ⟨g,hg,hd⟩:=hd;exact ⟨o,ho,by unfold eT; rw [<- hd],by rw [<- hd]; exact hg,by rw [<- hd]⟩
 ·obtain ⟨x,hx,he⟩:∃ x,ds[i]? = some x/\x.dst=eT l i/\x.op=(l.getD i default).op/\x.guard=(l.getD i default).guard/\x.cls=fH l i:=by
   rw [<- hds,VT,XO hi];exact ⟨_,rfl,rfl,rfl,rfl,rfl⟩
  rw [getD_of hx];exact he
 ·obtain ⟨o,ho,hd⟩:=hop i hi;simp only [Rr,Ai] at hd;obtain ⟨g,hg,hd⟩:=hd;unfold fH;rw [<- hd];simp only [O7];split
  ·exact .inl rfl
  ·split
   ·exact .inr (.inl rfl)
   ·exact .inr (.inr rfl)
 ·have he:=hoget i o hi ho;exact (ok1 i hi).1 j (by rw [he]; exact hj)
 ·have he:=hoget i o hi ho;obtain ⟨j,hj,hh⟩:=(ok1 i hi).2 p hp;rw [he] at hj;exact ⟨j,hj,hh⟩
 ·rcases (ok2 j hj i hij).1 with (h | h) | h
  ·exact absurd h h1
  ·exact absurd h2 h
  ·exact h
 ·rcases (ok2 j hj i hij).2 with h | h
  ·rw [show (l.getD i default).cls=2 from h1,show (l.getD j default).cls=2 from h2] at h; simp at h
  ·exact h
 ·have:=ok3 i hi (t,some j) hu
  simp only [LJ,Vy,Vq,Wb,WK,beq_iff_eq,decide_eq_true_eq,WP,bne_iff_ne,ne_eq] at this;obtain ⟨⟨⟨g1,g2⟩,g3⟩,g4⟩:=this;refine ⟨g1,g2,g3,fun j' hj' hd=>?_⟩;rcases g4 j' hj' with ((h | h) | h) | h
  ·exact absurd hd h
  ·exact .inl h
  ·exact .inr (.inl h)
  ·exact .inr (.inr h)
 ·have:=ok3 i hi (t,none) hu
  simp only [LJ,Vq,Wb,WK,beq_iff_eq,WP,bne_iff_ne,ne_eq] at this;rcases this j' hj' with (h | h) | h
  ·exact absurd hd h
  ·exact .inl h
  ·exact .inr h
 ·have:=(ok4 i hi).1 (k,adds) hm
  simp only [LL,Vq,Vy,beq_iff_eq,decide_eq_true_eq,WP,V3,] at this;obtain ⟨⟨⟨g1,g2⟩,g3⟩,g4⟩:=this a ha;exact ⟨g1,g2,by simpa using g3,g4⟩
 ·have:=(ok4 i hi).2
  rw [if_pos (show (l.getD i default).cls=0 from hc)] at this;simp only [LK,Vq,Wb,WK,VA,Vy,beq_iff_eq,decide_eq_true_eq,WP] at this;rcases this k zO with ⟨q,hq,h | h⟩ | ⟨p,hp,rfl⟩
  ·exact .inl ⟨q,hq,h.1,h.2⟩
  ·exact .inr (.inl ⟨q,hq,h.1,h.2⟩)
  ·exact .inr (.inr ⟨p.2,hp⟩)
 ·have:=(ok4 i hi).2
  rw [if_neg (show ¬ (l.getD i default).cls=0 by have:(l.getD i default).cls=2:=hc; omega),if_neg (show ¬ (l.getD i default).cls=1 by have:(l.getD i default).cls=2:=hc; omega)] at this;unfold OZ at this;split at this
  ·rename_i p hp;simp only [Vy,Vq,Wb,beq_iff_eq,decide_eq_true_eq] at this;obtain ⟨⟨g1,g2⟩,g3⟩:=this;refine ⟨p.1,p.2,hp,g1,g2,fun a ha=>?_⟩
   have:=g3 a ha
   have h1:(a∈dI l (p.1+1)) ↔ (dI l (p.1+1)).contains a=true:=by simp
   rw [h1,this]
   simp
  ·cases this
def Em {P:Program} {ops:Array Oper} {ds:List jm} {late:List Nat} (h:HX P ops=some (ds,late)):∃ l,sJ P ops l ds/\l.length=ops.size/\late=uZ l:=by
 simp only [HX] at h;split at h
 ·cases h
 rename_i l hl;split at h
 rotate_left
 ·cases h
 rename_i hok;simp only [VE,Prod.mk.injEq] at h;obtain ⟨hds,hlate⟩:=h;rw [hds] at hok;obtain ⟨G,hlen⟩:=Gt (ops:=ops) (os:=ops.toList) (fun i o h=>by simpa using h) hl hds hok;exact ⟨l,G,by simpa using hlen,hlate.symm⟩
def Tq {l:List DI} {ds:List jm} (hlen:ds.length=l.length) (hc:∀ i,i<l.length->(ds.getD i default).cls=fH l i) :
  ∀ q,q<=l.length->((ds.take q).filter fun d=>d.cls == 2).length=((List.range q).filter fun i=>(l.getD i default).cls == 2).length
 | 0,_=>rfl
 | q+1,h=>by
  rw [Bj zO,ZC,Wd,Wd,Vg,Vg,Tq hlen hc q zO]
  have:=hc q zO
  rw [dH,pD zO,Ww] at this;congr 1;simp only [W9,XZ];rw [this,show (l.getD q default).cls=fH l q from rfl];split <;> rfl
section
variable {P:Program} {ops:Array Oper} {l:List DI} {ds:List jm} {T0:Tm} {s:DS} {base:Nat} {F:Nat->Prop} {μ0:Mu} {H0:Heap} {w0:World} {df:List Deferred}
def Mn {cal:m6} (hcal:mC P cal) {fence:Fence} {rd:Bool} (hF:FenceOK fence rd) {n:Nat} {Q:Exit->Act->World->Prop} (G:sJ P ops l ds) (hlen:l.length=ops.size)
  (hop:∀ i,i<l.length->Rx cal base T0 s i (ds.getD i default)) (hsame:∀ i,i<l.length->jW base T0 s i (ds.getD i default)=true)
  (hQ:∀ S k μ a w,(∀ j,j<l.length->S j=true)->Inv P l T0 s base F μ0 H0 w0 df S k μ a w->Q .normal a w) :
  ∀ (fuel:Nat) (listed:Array Bool) (k:Nat) (μ:Mu) (a:Act) (w:World),listed.size=l.length->Kn (fun j=>listed.getD j false) l.length=fuel ->
   Inv P l T0 s base F μ0 H0 w0 df (fun j=>listed.getD j false) k μ a w->wpAnyIn fence n P .any ops Q fuel listed a w:=by
 intro fuel
 induction fuel with
 | zero =>
  intro listed k μ a w hsz hcnt J;have hall:=ED _ hcnt;refine ⟨?_,hQ _ k μ a w hall J⟩
  apply List.eq_nil_iff_forall_not_mem.2
  intro j hj;have h0:=(mem_ready.1 hj).1;have hlt:j<listed.size:=by
   rcases YU j listed.size with h | h
   ·exact h
   ·simp [XV h] at h0
  have:=hall j (hsz ▸ hlt)
  simp [hlt] at h0 this;rw [h0] at this; cases this
 | succ fuel ih =>
  intro listed k μ a w hsz hcnt J;refine ⟨fun hr=>?_,fun i hi=>?_⟩
  ·refine hQ _ k μ a w ?_ J;intro j
   induction j using Nat.strongRecOn with
   | _ j hj =>
    intro hlt;cases hS:listed.getD j false with
    | true=>rfl
    | false =>
     exfalso
     obtain ⟨o,ho,_⟩:=G.op j hlt
     have:j∈Region.ready .any ops listed:=by
      refine mem_ready.2 ⟨?_,o,ho,fun e he hb=>?_⟩
      ·have:j<listed.size:=zO
       simp [this] at hS ⊢; exact hS
      ·have hm:e.on∈kK o:=by
        unfold kK;exact uL.2 ⟨e,Vj.2 ⟨by simpa using he,hb⟩,rfl⟩
       have hlt':=G.back j o hlt ho _ hm;exact hj e.on hlt' zO
     rw [hr] at this; cases this
  ·obtain ⟨h0,o,ho,hall⟩:=mem_ready.1 hi;have hlt:i<listed.size:=by
    rcases YU i listed.size with h | h
    ·exact h
    ·simp [XV h] at h0
   have hS:listed.getD i false=false:=by simp [hlt] at h0 ⊢; exact h0
   have hset:(fun j=>(listed.setIfInBounds i true).getD j false)=add (fun j=>listed.getD j false) i:=by
    funext j
    by_cases e:j=i
    ·subst e; simp [add,hlt]
    ·rw [getD_set_ne false (Ne.symm e)]; simp [add,e]
   refine JO hcal hF J G (hop i (hsz ▸ hlt)) (IR (hsame i (hsz ▸ hlt)) k) (hsz ▸ hlt) hS (fun p hp=>?_) fun a' w' μ' k' J'=>?_
   ·obtain ⟨j,hj,hh⟩:=G.pre i o (hsz ▸ hlt) ho p hp;unfold kK at hj;obtain ⟨e,he,rfl⟩:=uL.1 hj;rw [Vj] at he;have hSj:=hall e (by simpa using he.1) he.2;rcases hh with rfl | hh
    ·exact hSj
    ·refine J.cl e.on ?_ hSj p hh
     have:=G.back i o (hsz ▸ hlt) ho e.on (by unfold kK; exact uL.2 ⟨e,Vj.2 he,rfl⟩)
     omega
   ·refine ih _ k' μ' a' w' (by simp [hsz]) ?_ (hset ▸ J');rw [hset]
    have:=HU (S:=fun j=>listed.getD j false) hS l.length (hsz ▸ hlt)
    omega
def HR.of_heap {μ:Mu} {H:Heap} {w w':World} (h:HR P μ F H w) (hw:w'.heap=w.heap):HR P μ F H w' :=
 ⟨fun b L hb=>hw ▸ h.dom b L hb,fun c hc=>hw ▸ h.fb c hc,fun b e hb=>let ⟨L,hL,hE⟩:=h.ent b e hb; ⟨L,hL,hE.mono (fun _ _ h=>h) (fun _ h=>h) (fun c _=>by rw [hw]) (by rw [hw]) (fun hr=>hE.notF hr)⟩,h.inj,fun g cs hg=>(h.gl g cs hg).mono (fun _ _ h=>h) (fun _ h=>h) fun c _=>by rw [hw]⟩
def Gs {cal:m6} (hcal:mC P cal) (hm:P.follows .mixedOrders=true) {fence:Fence} {rd:Bool} (hF:FenceOK fence rd) {n id:Nat} {late:List Nat} {Q:Exit->Act->World->Prop} {T T':Tm} {H H':Heap} {μ:Mu} {a:Act} {w:World}
  (hc:HX P ops=some (ds,late)) (hrun:En cal ds late T H=some (T',H')) (hT:LR μ F w T a.tmps.toList) (hH:HR P μ F H w)
  (hQ:∀ a' w' μ',a'.defers=a.defers->LR μ' F w' T' a'.tmps.toList->HR P μ' F H' w'->Stp qZ P μ F H w μ' F H' w'->Q .normal a' w') :
  (Code.region id ops true).wpIn fence n P Q a w:=by
 obtain ⟨l,G,hlen,rfl⟩:=Em hc;unfold En at hrun;split at hrun
 ·cases hrun
 rename_i s hs;split at hrun
 rotate_left
 ·cases hrun
 rename_i hsame;cases hrun;have hcls:∀ d∈ds,d.cls=0\/d.cls=1\/d.cls=2:=by
  intro d hd;obtain ⟨i,hi,rfl⟩:=V6 hd;have hi':i<l.length:=by rw [<- G.dlen]; exact hi
  have h1:=G.cl i hi';rw [<- (G.dso i hi').2.2.2,getD_of (pD hi)] at h1;exact h1
 obtain ⟨k1,k2,k3,k4,k5⟩:=JP ds 0 _ _ hcls hs;have hcl:∀ i,i<l.length->(ds.getD i default).cls=fH l i:=fun i hi=>(G.dso i hi).2.2.2;have hdi:∀ i,i<l.length->ds[i]? = some (ds.getD i default):=by
  intro i hi
  have:i<ds.length:=by rw [G.dlen]; exact hi
  rw [pD this];simp [dH,pD this]
 have hVl:s.Vs.length=l.length:=by rw [k2,G.dlen]; simp
 have hop:∀ i,i<l.length->Rx cal H.next T s i (ds.getD i default):=by
  intro i hi;obtain ⟨s1,s2,e1,e2,e3,e4,e5⟩:=k5 i _ (hdi i hi);rw [VB] at e1;refine P6 e1 e2 (hcls _ (Ve (hdi i hi))) (by simpa using e3) (by simpa using e4) (fun u hu j hj=>?_) (fun h2 k adds hl=>?_)
  ·obtain ⟨t,u⟩:=u;have hj:u=some j:=hj;subst hj;exact (G.useS i hi t j hu).2.2.1
  ·have hc2:fH l i=2:=(hcl i hi) ▸ h2;obtain ⟨kk,adds',hl',g1,g2,_⟩:=G.act i hi hc2;rw [hl] at hl'; cases hl';refine ⟨?_,fun a ha=>(G.look i hi k adds (by rw [hl]; exact N0 ..) a ha).2.2.2⟩;rw [e5,Tq G.dlen hcl i zO];obtain ⟨q1,q2⟩:=MS hi hc2
   have:=E3 q1 g1 (q2.trans g2.symm)
   rw [this]
   simp; omega
 have hC0:s.Cs.getD 0 default = { H with next:=H.next+ds.length }:=by rw [jY k1.2.1 (by simp)]; rfl
 have hCl:s.Cs.length=(aE l).length+1:=by
  have:=Tq G.dlen hcl l.length (wT _)
  rw [Vl (by rw [G.dlen]; exact wT _)] at this;rw [k4,this]; simp [aE]; omega
 obtain ⟨w1,hw1⟩:∃ w1,w1 = { w with drawn:=w.drawn+1 }:=⟨_,rfl⟩
 have hH1:HR P μ F H w1:=hH.of_heap (by rw [hw1]);have hB1:HR P μ F (s.Cs.getD 0 default) w1:=by rw [hC0]; exact hH1.bump _
 have hst1:Stp qZ P μ F H w μ F H w1:=by
  subst hw1;exact ⟨fun _ _ h=>h,fun _ h=>h,wT _,fun _ _ _=>rfl,fun b L hb hL=>.inr ⟨b,L,hb,hL,rfl⟩,wT _,fun _ _ _ h=>h,fun b L h=>.inl ⟨b,L,h,rfl⟩,fun b e h _ _=>⟨e,h⟩,fun b e L h hL=>.inr ⟨b,e,L,h,hL,rfl⟩,Tp.draw,rfl,rfl⟩
 have hz:Hh l s H.next (fun _=>false) 0=s.Cs.getD 0 default:=by
  unfold Hh
  have:Cj l (fun _=>false) 0=[]:=by simp [Cj]
  rw [this]; rfl
 have hrep:∀ j,(Array.replicate ops.size false).getD j false=false:=by
  intro j;rcases YU j ops.size with h | h
  ·simp [h]
  ·simp [XV (show (Array.replicate ops.size false).size<=j by simpa using h)]
 have J0:Inv P l T s H.next F μ (s.Cs.getD 0 default) w1 a.defers (fun j=>(Array.replicate ops.size false).getD j false) 0 μ a w1:=by
  have hf:(fun j=>(Array.replicate ops.size false).getD j false)=fun _=>false:=funext hrep;rw [hf];refine ⟨fun j _ h=>(by cases h),II _,fun q _=>(by simp),?_,by rw [hz]; exact hB1,fun j hj _ _=>?_,?_,fun j hj _=>jN hH (Vz _ _),by rw [hz]; exact Stp.refl _ _ _ _ _ _,rfl⟩
  ·rw [MV]; exact LR.mono (w:=w) (w':=w1) (fun _ _ h=>h) (fun _ h=>h) (fun _ _=>by rw [hw1]) hT
  ·rw [hC0];cases hg:H.get (H.next+j) with
   | none=>exact hg
   | some e =>
    obtain ⟨L,hL,_⟩:=hH.ent _ e hg;rw [jN hH (Vz _ _)] at hL; cases hL
  ·rw [hC0,G.dlen]; exact wT _
 refine wpIn_region_any hm ?_;rw [<- hw1];refine Mn hcal hF G hlen hop (fun i hi=>?_) (fun S k μ' a' w' hall J=>?_) ops.size _ 0 μ a w1 (by simp [hlen]) ?_ J0
 ·have:=Dh ds 0 hsame i _ (hdi i hi)
  rwa [VB] at this
 ·have hk:k=(aE l).length:=by
   rcases YU k (aE l).length with h | h
   ·have:=(J.act k h).1 (hall _ (qw h).1); omega
   ·have:=J.kle; omega
  subst hk;have hTS:TS l T s S=gq T ds s.Vs:=by
   rw [IZ G.dlen hVl (fun i hi=>(G.dso i hi).1)];unfold TS
   apply WN
   intro t _;exact xV _ hall
  have hlst:Cj l S (aE l).length=uZ l:=by
   rw [<- Oh];unfold Cj
   apply Yt
   intro x hx;rw [hall x (by simpa using hx)]
  have hlast:s.Cs.getLastD default=s.Cs.getD (aE l).length default:=by
   rw [List.getLastD_eq_getLast?,List.getLast?_eq_getElem?,hCl,dH]; rfl
  have hHh:Hh l s H.next S (aE l).length=dC H.next s.Es (s.Cs.getLastD default) (uZ l):=by
   unfold Hh; rw [hlst,hlast]
  have hhr:=J.hr;have hst:=J.st;rw [hHh] at hhr hst;refine hQ a' w' μ' J.df (hTS ▸ J.tm) hhr (hst1.trans ?_);rw [hC0] at hst;exact ⟨hst.mu,hst.fr,hst.size,hst.keep,hst.rw,Oc (Vz _ _) hst.next,fun b hb _ hn=>hst.new b (Vi hb (Vz _ _)) zO hn,hst.rng,fun b e hb hl _=>hst.old b e hb (Vi hl (Vz _ _)) zO,hst.alv,hst.tape,hst.os,hst.out⟩
 ·rw [HS _ (fun j _=>hrep j),hlen]
end
section
variable {μ μ':Mu} {F:Nat->Prop} {w w':World}
def VR.back (hμ:∀ b L,μ b=some L->μ' b=some L) {c:AV} {v0:Value} (h0:VR μ F w c v0):∀ {v:Value},VR μ' F w' c v->VR μ F w' c v:=by
 induction h0 with
 | undef v0=>intro v h; exact .undef v
 | bool b=>intro v h; cases h; exact .bool b
 | int k n=>intro v h; cases h; exact .int k n
 | str s=>intro v h; cases h; exact .str s
 | nilPtr=>intro v h; cases h; exact .nilPtr
 | nilSl=>intro v h; cases h; exact .nilSl
 | nilFn=>intro v h; cases h; exact .nilFn
 | nilIf=>intro v h; cases h; exact .nilIf
 | nilMap=>intro v h; cases h; exact .nilMap
 | agg cs vs hl hv ih =>
  intro v h;cases h with
  | agg _ us hl' hv' =>
   refine .agg cs us hl' fun i c u hc hu=>?_;obtain ⟨x,hx⟩:∃ x,vs[i]? = some x:=⟨vs[i]'(by have:=(I6.1 hc).1; omega),Wa _⟩
   exact ih i c x hc hx (hv' i c u hc hu)
 | tup cs vs hl hv ih =>
  intro v h;cases h with
  | tup _ us hl' hv' =>
   refine .tup cs us hl' fun i c u hc hu=>?_;obtain ⟨x,hx⟩:∃ x,vs[i]? = some x:=⟨vs[i]'(by have:=(I6.1 hc).1; omega),Wa _⟩
   exact ih i c x hc hx (hv' i c u hc hu)
 | sl0 a cap =>
  intro v h;cases h with
  | sl0 a cap=>exact .sl0 a cap
  | sl _ _ cap blk off arr ty fr g1 g2 g3 g4 g5=>exact .sl0 _ _
 | sl cells n cap blk off arr ty fr hf hb hn ho hv ih =>
  intro v h;cases h with
  | sl0 a cap=>exact .sl0 a cap
  | sl _ _ cap' blk' off' arr' ty' fr' g1 g2 g3 g4 g5 =>
   refine .sl cells n cap' blk' off' arr' ty' fr' g1 g2 g3 g4 fun i c u hc hu=>?_;obtain ⟨x,hx⟩:∃ x,arr[off+i]? = some x:=⟨arr[off+i]'(by have:=(I6.1 hc).1; omega),Wa _⟩
   exact ih i c x hc hx (g5 i c u hc hu)
 | dp cells o blk off arr ty fr hf hb ho hv ih =>
  intro v h;cases h with
  | dp _ _ blk' off' arr' ty' fr' g1 g2 g4 g5 =>
   refine .dp cells o blk' off' arr' ty' fr' g1 g2 g4 fun i c u hc hu=>?_;obtain ⟨x,hx⟩:∃ x,arr[off+i]? = some x:=⟨arr[off+i]'(by have:=(I6.1 hc).1; omega),Wa _⟩
   exact ih i c x hc hx (g5 i c u hc hu)
 | own b off n c sz ex L cap h1 h2 h3 h4 h5 h6 =>
  intro v h;cases h with
  | own _ _ _ _ _ _ L' cap' g1 g2 g3 g4 g5 g6 =>
   have:=hμ _ _ h1
   rw [g1] at this;cases this;exact .own b off n c sz ex L cap' h1 g2 g3 g4 g5 g6
 | ptr b off L h1 =>
  intro v h;cases h with
  | ptr _ _ L' g1 =>
   have:=hμ _ _ h1
   rw [g1] at this;cases this;exact .ptr b off L h1
 | fn f as bs us vs h1 h2 h3 h4 ih1 ih2 =>
  intro v h;cases h with
  | fn _ _ _ us' vs' g1 g2 g3 g4 =>
   refine .fn f as bs us' vs' g1 (fun i c u hc hu=>?_) g3 fun i c u hc hu=>?_
   ·obtain ⟨x,hx⟩:∃ x,us[i]? = some x:=⟨us[i]'(by have:=(I6.1 hc).1; omega),Wa _⟩
    exact ih1 i c x hc hx (g2 i c u hc hu)
   ·obtain ⟨x,hx⟩:∃ x,vs[i]? = some x:=⟨vs[i]'(by have:=(I6.1 hc).1; omega),Wa _⟩
    exact ih2 i c x hc hx (g4 i c u hc hu)
 | ifc t x v0 hx ih =>
  intro v h;cases h with
  | ifc _ _ u hu=>exact .ifc t x u (ih hu)
 | map b L h1 =>
  intro v h;cases h with
  | map _ L' g1 =>
   have:=hμ _ _ h1
   rw [g1] at this;cases this;exact .map b L h1
 | loopv b L h1 =>
  intro v h;cases h with
  | loopv _ L' g1 =>
   have:=hμ _ _ h1
   rw [g1] at this;cases this;exact .loopv b L h1
def LR.back (hμ:∀ b L,μ b=some L->μ' b=some L) {cs:List AV} {vs0 vs:List Value} (h0:LR μ F w cs vs0) (h:LR μ' F w' cs vs):LR μ F w' cs vs:=by
 refine ⟨h.1,fun i c v hc hv=>?_⟩;obtain ⟨x,hx⟩:∃ x,vs0[i]? = some x:=⟨vs0[i]'(by have:=(I6.1 hc).1; have:=h0.1; omega),pD _⟩
 exact (h0.2 i c x hc hx).back hμ (h.2 i c v hc hv)
end
def JJ:Ex->Exit
 | .nrm=>.normal
 | .exit i=>.exit i
 | .goto l=>.goto l
 | .ret=>.ret
def DM (B:Nat × List Deferred) (μ:Mu) (F:Nat->Prop) (w:World) (ds:List Deferred):Prop :=
 ∃ Ds:List Nat,ds=Ds.map (fun D=>{ target:=.collected D,args:=#[] })++B.2/\Ds.Nodup /\
  ∀ D∈Ds,B.1<=D/\D<w.heap.size/\w.heap[D]? = some (.deferred (some []))/\¬ F D/\∀ b L,μ b=some L->L.blk≠D
section
variable {P:Program} {μ:Mu} {F:Nat->Prop} {H:Heap} {w:World} {T:Tm} {a:Act} {B:Nat × List Deferred}
def DM.nil {B:Nat × List Deferred}:DM B μ F w B.2:=⟨[],rfl,List.nodup_nil,fun D h=>by cases h⟩
def DM.stp {I:Nat->Prop} {μ':Mu} {H':Heap} {w':World} {ds:List Deferred} (h:DM B μ F w ds) (hS:Stp I P μ F H w μ' F H' w'):DM B μ' F w' ds:=by
 obtain ⟨Ds,h1,h2,h3⟩:=h;refine ⟨Ds,h1,h2,fun D hD=>?_⟩;obtain ⟨g1,g2,g3,g4,g5⟩:=h3 D hD;refine ⟨g1,Vi g2 hS.size,?_,g4,fun b L hb=>?_⟩
 ·rw [hS.keep D g2 fun b L _ hL=>g5 b L hL]; exact g3
 ·rcases hS.rng b L hb with ⟨b0,L0,h0,e⟩ | hge
  ·rw [<- e]; exact g5 b0 L0 h0
  ·omega
structure Ko (P:Program) (B:Nat × List Deferred) (μ:Mu) (F:Nat->Prop) (H:Heap) (w:World) (T:Tm) (a:Act):Prop where
 hT:LR μ F w T a.tmps.toList
 hH:HR P μ F H w
 hD:DM B μ F w a.defers
def kw (P:Program) (rd:Bool) (c:Code) (T:Tm) (H:Heap) (x:Ex) (T':Tm) (H':Heap):Prop :=
 ∀ (fence:Fence) (n:Nat) (B:Nat × List Deferred) (μ:Mu) (F:Nat->Prop) (w:World) (a:Act) (Q:Exit->Act->World->Prop),FenceOK fence rd->B.1<=w.heap.size->Ko P B μ F H w T a ->
  (∀ a' w' μ',Ko P B μ' F H' w' T' a'->Stp qZ P μ F H w μ' F H' w'->Q (JJ x) a' w')->c.wpIn fence n P Q a w
def DM.back {μ':Mu} {ds:List Deferred} (hμ:∀ b L,μ b=some L->μ' b=some L) (h:DM B μ' F w ds):DM B μ F w ds:=by
 obtain ⟨Ds,h1,h2,h3⟩:=h;exact ⟨Ds,h1,h2,fun D hD=>⟨(h3 D hD).1,(h3 D hD).2.1,(h3 D hD).2.2.1,(h3 D hD).2.2.2.1,fun b L hb=>(h3 D hD).2.2.2.2 b L (hμ b L hb)⟩⟩
def DM.keep {w':World} {ds:List Deferred} (h:DM B μ F w ds) (hs:w.heap.size<=w'.heap.size) (hw:∀ (D:Nat),w.heap[D]? = some (.deferred (some []))->w'.heap[D]? = w.heap[D]?):DM B μ F w' ds:=by
 obtain ⟨Ds,h1,h2,h3⟩:=h;refine ⟨Ds,h1,h2,fun D hD=>?_⟩;obtain ⟨g1,g2,g3,g4,g5⟩:=h3 D hD;exact ⟨g1,Vi g2 hs,(hw D g3).trans g3,g4,g5⟩
def B0 {H:Heap} (hH:HR P μ F H w) {b:Nat} {e:Ent} (h:H.ro.get b=some e):∃ e0,H.get b=some e0/\e0.ro=some e:=by
 rw [Heap.get_ro] at h;split at h
 ·cases hg:H.get b with
  | none=>rw [hg] at h; cases h
  | some e0=>rw [hg] at h; exact ⟨e0,rfl,h⟩
 ·rename_i hlt;obtain ⟨L,hL,_⟩:=hH.ent b e h
  have:=(hH.dom b L hL).1
  omega
def QW {H:Heap} (hH:HR P μ F H w) {b:Nat}:¬ H.ro.rwAt b:=by
 rintro ⟨e,h,hr⟩;obtain ⟨e0,-,h0⟩:=B0 hH h;cases e0 <;> simp only [Ent.ro] at h0 <;> first | (cases h0; done) | (simp only [VE] at h0; subst h0; cases hr)
def QX {H:Heap} (hH:HR P μ F H w):HR P μ F H.ro w:=by
 refine ⟨hH.dom,hH.fb,fun b e h=>?_,fun b b' e e' L L' h h' hL hL' hb=>?_,hH.gl⟩
 ·obtain ⟨e0,h0,he⟩:=B0 hH h;obtain ⟨L,hL,hE⟩:=hH.ent b e0 h0;refine ⟨L,hL,?_⟩;cases e0 <;> simp only [Ent.ro] at he <;> first | (cases he; done) | (simp only [VE] at he; subst he)
  ·obtain ⟨arr,fr,h1,h2,h3,h4,h5,h6,h7⟩:=hE;exact ⟨arr,fr,h1,h2,h3,h4,h5,fun h=>(by cases h),fun _=>trivial⟩
  ·exact hE.2
  ·exact hE
 ·obtain ⟨e0,h0,-⟩:=B0 hH h;obtain ⟨e1,h1,-⟩:=B0 hH h';exact hH.inj b b' e0 e1 L L' h0 h1 hL hL' hb
def NR {I:Nat->Prop} {H H2 H':Heap} {μ':Mu} {w':World} (hH:HR P μ F H w) (h2:∀ b,H2.get b=H.ro.get b) (hS:Stp I P μ F H2 w μ' F H' w'):∀ c,c<w.heap.size->w'.heap[c]? = w.heap[c]? :=
 fun c hc=>hS.keep c hc fun b L ⟨e,he,hr⟩ _=>absurd ⟨e,h2 b ▸ he,hr⟩ (QW hH)
def yV {cal:m6} {m:Nat} {rd:Bool} {c:Code} {ac:ACode} (hc:∀ T H x T' H',aI cal m rd ac T H=some (x,T',H')->kw P rd c T H x T' H') :
  ∀ (k:Nat) (T:Tm) (H:Heap) (x:Ex) (T':Tm) (H':Heap),yW (aI cal m rd ac) k T H=some (x,T',H') ->
  ∀ (fence:Fence) (n:Nat) (B:Nat × List Deferred) (μ:Mu) (F:Nat->Prop) (w:World) (a:Act) (Q:Exit->Act->World->Prop),FenceOK fence rd->B.1<=w.heap.size->Ko P B μ F H w T a ->
  (∀ a' w' μ',Ko P B μ' F H' w' T' a'->Stp qZ P μ F H w μ' F H' w'->Q (JJ x) a' w')->x ≠ .nrm/\Code.roundsIn fence n P c Q k a w
 | 0,T,H,x,T',H',h=>by cases h
 | k+1,T,H,x,T',H',h=>by
  intro fence n B μ F w a Q hF hB hS hQ;simp only [yW] at h;split at h
  ·rename_i T1 H1 h1;refine ⟨?_,?_⟩
   ·
    have key:∀ (k:Nat) (T:Tm) (H:Heap) (x:Ex) (T':Tm) (H':Heap),yW (aI cal m rd ac) k T H=some (x,T',H')->x ≠ .nrm:=by
     intro k
     induction k with
     | zero=>intro T H x T' H' h; cases h
     | succ k ih =>
      intro T H x T' H' h;simp only [yW] at h;split at h
      ·exact ih _ _ _ _ _ h
      ·rename_i hne;intro e;subst e;exact hne _ _ h
    exact key _ _ _ _ _ _ h
   ·rw [roundsIn_succ];refine hc T H _ _ _ h1 fence n B μ F w a _ hF hB hS fun a' w' μ' hS' hst=>?_;exact (yV hc k T1 H1 x T' H' h fence n B μ' F w' a' Q hF (Oc hB hst.size) hS' fun a2 w2 μ2 hS2 hst2=>hQ a2 w2 μ2 hS2 (hst.trans hst2)).2
  ·rename_i hne;have hx:x ≠ .nrm:=fun e=>by subst e; exact hne _ _ h
   refine ⟨hx,?_⟩;rw [roundsIn_succ];refine hc T H _ _ _ h fence n B μ F w a _ hF hB hS fun a' w' μ' hS' hst=>?_
   have:=hQ a' w' μ' hS' hst
   cases x <;> first | exact this | exact absurd rfl hx
def Dz (hH:HR P μ F H w) (o:Obj):HR P μ F H (w.alloc o)/\Stp qZ P μ F H w μ F H (w.alloc o):=by
 have hw:∀ c,c<w.heap.size->(w.alloc o).heap[c]? = w.heap[c]?:=fun c hc=>oD _ _ hc;have hsz:(w.alloc o).heap.size=w.heap.size+1:=by simp
 refine ⟨⟨fun b L hb=>?_,fun c hc=>?_,fun b e hb=>?_,hH.inj,fun g cs hg=>(hH.gl g cs hg).mono (fun _ _ h=>h) (fun _ h=>h) fun c hc=>hw c (hH.fb c hc)⟩,⟨fun _ _ h=>h,fun _ h=>h,zO,fun c hc _=>hw c hc,fun b L hb hL=>.inr ⟨b,L,hb,hL,rfl⟩,wT _,fun _ _ _ h=>h,fun b L h=>.inl ⟨b,L,h,rfl⟩,fun b e h _ _=>⟨e,h⟩,fun b e L h hL=>.inr ⟨b,e,L,h,hL,rfl⟩,Tp.same rfl rfl,rfl,rfl⟩⟩
 ·have:=hH.dom b L hb; exact ⟨this.1,zO⟩
 ·have:=hH.fb c hc; omega
 ·obtain ⟨L,hL,hE⟩:=hH.ent b e hb;exact ⟨L,hL,hE.mono (fun _ _ h=>h) (fun _ h=>h) (fun c hc=>hw c (hH.fb c hc)) (hw _ (hH.dom b L hL).2) (fun hr=>hE.notF hr)⟩
def vE (c1 c2:Code):bw P (.seq c1 c2)=(do some (.seq (<- bw P c1) (<- bw P c2))):=by rw [bw]
def yT {c:Code} {ac:ACode} (h:bw P c=some ac):(ac=.ret->c=.ret)/\(∀ id,ac=.exit id->c=.exit id)/\(∀ l,ac=.goto l->c=.goto l):=by
 have no:∀ {ac:ACode},ac ≠ .ret->(∀ id,ac ≠ .exit id)->(∀ l,ac ≠ .goto l)->(ac=.ret->c=.ret)/\(∀ id,ac=.exit id->c=.exit id)/\(∀ l,ac=.goto l->c=.goto l) :=
  fun h1 h2 h3=>⟨fun h=>absurd h h1,fun id h=>absurd h (h2 id),fun l h=>absurd h (h3 l)⟩
 cases c with
 | ret=>cases h; exact ⟨fun _=>rfl,fun id h=>(by cases h),fun l h=>(by cases h)⟩
 | exit id=>cases h; exact ⟨fun h=>(by cases h),fun id h=>(by cases h; rfl),fun l h=>(by cases h)⟩
 | goto l=>cases h; exact ⟨fun h=>(by cases h),fun id h=>(by cases h),fun l h=>(by cases h; rfl)⟩
 | skip=>cases h; exact no (fun h=>by cases h) (fun id h=>by cases h) (fun l h=>by cases h)
 | label l=>cases h; exact no (fun h=>by cases h) (fun id h=>by cases h) (fun l h=>by cases h)
 | refuse w=>cases h; exact no (fun h=>by cases h) (fun id h=>by cases h) (fun l h=>by cases h)
 | region i ops d =>
  simp only [bw] at h;split at h
  ·split at h
   ·cases h; exact no (fun h=>by cases h) (fun id h=>by cases h) (fun l h=>by cases h)
   ·cases h; exact no (fun h=>by cases h) (fun id h=>by cases h) (fun l h=>by cases h)
  ·simp only [Ai] at h;obtain ⟨_,_,h⟩:=h;subst h; exact no (fun h=>by cases h) (fun id h=>by cases h) (fun l h=>by cases h)
 | seq c1 c2 =>
  have he:=vE (P:=P) c1 c2
  ·rw [he] at h;simp only [qh,bV] at h;obtain ⟨_,_,_,_,h⟩:=h;cases h; exact no (fun h=>by cases h) (fun id h=>by cases h) (fun l h=>by cases h)
 | cond c a b =>
  simp only [bw,qh,bV] at h;obtain ⟨_,_,_,_,_,_,h⟩:=h;cases h; exact no (fun h=>by cases h) (fun id h=>by cases h) (fun l h=>by cases h)
 | block i a =>
  simp only [bw,qh,bV] at h;obtain ⟨_,_,h⟩:=h;cases h; exact no (fun h=>by cases h) (fun id h=>by cases h) (fun l h=>by cases h)
 | loop a =>
  simp only [bw,qh,bV] at h;obtain ⟨_,_,h⟩:=h;cases h; exact no (fun h=>by cases h) (fun id h=>by cases h) (fun l h=>by cases h)
 | scope a =>
  simp only [bw,qh,bV] at h;obtain ⟨_,_,h⟩:=h;cases h;unfold BY;split
  ·split
   ·exact no (fun h=>by cases h) (fun id h=>by cases h) (fun l h=>by cases h)
   ·exact no (fun h=>by cases h) (fun id h=>by cases h) (fun l h=>by cases h)
  ·exact no (fun h=>by cases h) (fun id h=>by cases h) (fun l h=>by cases h)
 | rangeFunc f ps a b =>
  simp only [bw,qh,bV] at h;obtain ⟨_,_,_,_,_,_,h⟩:=h;cases h; exact no (fun h=>by cases h) (fun id h=>by cases h) (fun l h=>by cases h)
theorem NS {c:Code} (h:bw P c=some .ret):c=.ret:=(yT h).1 rfl
theorem Mj {c:Code} {id:Nat} (h:bw P c=some (.exit id)):c=.exit id:=(yT h).2.1 id rfl
theorem Mf {c:Code} {id:Nat} (h:bw P c=some (.goto id)):c=.goto id:=(yT h).2.2 id rfl
def oS {cal:m6} (hcal:mC P cal) {fence:Fence} (hF:FenceOK fence false) {n:Nat} {g:Operand} {ps:Array Tmp} {asg body:Code} {s:Src} {a1 a2:ACode} (hs:wn g=some s) (h1:bw P asg=some a1) (h2:bw P body=some a2)
  {fi:Nat} {args:List AV} {v:AV} {H2:Heap} (ht:ir (s.ev T) [.loopv H.next]=some (.fn fi args))
  (hrun:cal (.ent fi args) (({ H with next:=H.next+1 }:Heap).put H.next (.loop T ps.toList a1 a2 .ready none))=some (v,H2)) (hB:B.1<=w.heap.size) (hS:Ko P B μ F H w T a) {Q:Exit->Act->World->Prop}
  (hend:∀ T' ps' b1 b2 st pe,H2.get H.next=some (.loop T' ps' b1 b2 st pe)->st ≠ .busy/\∀ (r:Option Code),(match pe,r with | none,none=>True | some c,some c'=>bw P c'=some c | _,_=>False) ->
   ∀ a' w' μ',Ko P B μ' F (H2.kill H.next) w' T a'->Stp qZ P μ F H w μ' F (H2.kill H.next) w'->(match r with | none=>Q .normal a' w' | some c=>c.wpIn fence n P Q a' w'))
  (hex:∃ T' ps' b1 b2 st pe,H2.get H.next=some (.loop T' ps' b1 b2 st pe)):(Code.rangeFunc g ps asg body).wpIn fence n P Q a w:=by
 refine wpIn_rangeFunc fun fn _=>?_;have hro:fence.round=none:=by
  rcases hF with ⟨_,rfl⟩ | ⟨h,_⟩; · rfl
  ·cases h
 obtain ⟨hA1,hA2⟩:=Dz hS.hH (.deferred (some []));obtain ⟨rec,hrec⟩:∃ rec:Loop,rec = { state:=.ready,pending:=none,fn,tmps:=a.tmps,params:=ps,assign:=asg,body,defers:=w.heap.size }:=⟨_,rfl⟩
 have hszA:(w.alloc (.deferred (some []))).heap.size=w.heap.size+1:=by simp
 have hid:μ H.next=none:=jN hS.hH (wT _)
 obtain ⟨hN1,hN2⟩:=nt (I:=fun b=>b=H.next) (hA1.bump 1) hid (Ye _) (.loop rec) (.loop T ps.toList a1 a2 .ready none) 0 0 (fun w' hw hn hnF=>by
  refine ⟨hnF,rec,hn,by rw [hrec],?_,by rw [hrec],by rw [hrec]; exact h1,by rw [hrec]; exact h2,by rw [hrec]; trivial⟩;rw [hrec];exact ((hA2.lr hS.hH hS.hT).mono (iL hid) (fun _ h=>h) hw)) rfl (w.alloc (.deferred (some []))) rfl (Tp.same rfl rfl) rfl rfl
 rw [hszA] at hN1 hN2;have hN3:Stp qZ P μ F H w (μ.upd H.next ⟨w.heap.size+1,0,0⟩) F (({ H with next:=H.next+1 }:Heap).put H.next (.loop T ps.toList a1 a2 .ready none)) ((w.alloc (.deferred (some []))).alloc (.loop rec)) :=
  hA2.trans ⟨hN2.mu,hN2.fr,hN2.size,hN2.keep,hN2.rw,Oc (Nat.le_succ _) hN2.next,fun b hb _ hn=>hN2.new b (Z5 hb) (fun e=>by have e:b=H.next:=e; omega) hn,hN2.rng,fun b e hb hl _=>hN2.old b e hb (Z5 hl) (fun e=>by have e:b=H.next:=e; omega),hN2.alv,hN2.tape,hN2.os,hN2.out⟩
 have hDM:DM B (μ.upd H.next ⟨w.heap.size+1,0,0⟩) F ((w.alloc (.deferred (some []))).alloc (.loop rec)) ([{ target:=.collected w.heap.size,args:=#[] }]++a.defers):=by
  obtain ⟨Ds,e1,e2,e3⟩:=hS.hD.stp hN3;obtain ⟨Ds0,f1,f2,f3⟩:=hS.hD;have hlt:∀ D∈Ds,D<w.heap.size:=by
   intro D hD;have hm:({ target:=.collected D,args:=#[] }:Deferred)∈Ds0.map (fun D=>({ target:=.collected D,args:=#[] }:Deferred)):=by
    rw [<- List.append_cancel_right (e1.symm.trans f1)];exact uL.2 ⟨D,hD,rfl⟩
   obtain ⟨D0,hD0,he⟩:=uL.1 hm
   have:D0=D:=by injection he with he _; injection he
   subst this;exact (f3 D0 hD0).2.1
  refine ⟨w.heap.size :: Ds,by simp [e1],XB.2 ⟨fun h=>Nat.lt_irrefl _ (hlt _ h),e2⟩,fun D hD=>?_⟩;rcases Vt.1 hD with rfl | hD
  ·refine ⟨hB,by rw [World.size_alloc,World.size_alloc]; omega,?_,fun h=>by have:=hS.hH.fb _ h; omega,fun b L hb=>?_⟩
   ·rw [oD _ _ (by simp)]; exact World.alloc_heap_new w _
   ·by_cases e:b=H.next
    ·subst e; simp at hb; subst hb; simp
    ·rw [cx _ e] at hb; have:=(hS.hH.dom b L hb).2; omega
  ·exact e3 D hD
 have hv:=aN hS.hT hs;have hv':=hN3.vr hS.hH hv;have hloop:LR (μ.upd H.next ⟨w.heap.size+1,0,0⟩) F ((w.alloc (.deferred (some []))).alloc (.loop rec)) [.loopv H.next] [.func (.yield (w.heap.size+1)) #[] #[]]:=LR.cons (.loopv _ _ (upd_same _ _)) LR.nil
 generalize hfv:s.ev T=fv at ht hv'
 cases fv <;> simp only [ir] at ht <;> first | (cases ht; done) | skip
 rename_i ff first cap
 cases ff <;> simp only at ht <;> first | (cases ht; done) | skip
 cases ht
 generalize hgv:a.eval g=gv at hv'
 cases hv' with
 | fn _ _ _ us vs' k1 k2 k3 k4 =>
 have hl:=((LR.of_agg k1 k2).append hloop).append (LR.of_agg k3 k4);obtain ⟨hent,hruns⟩:=hcal _ _ _ _ hrun _ F _ _ fence false (n-1) hF hN1 hl (fun b args e=>by cases e);have hent:=hent _ _ rfl;simp only [SQ,hent,Runs] at hruns;refine ⟨w.heap.size+1,[{ target:=.collected w.heap.size,args:=#[] }],(w.alloc (.deferred (some []))).alloc (.loop rec),{ target:=.fn (.func fi) vs',args:=us ++ #[.func (.yield (w.heap.size+1)) #[] #[]] },(w.alloc (.deferred (some []))).alloc (.loop rec),
  _,_,_,?_,?_,fun f' _=>hF.fn f',?_,hF.depth n,hruns.mono fun e w3 ⟨u,he,μ3,hdone⟩=>?_⟩
 ·rw [hro,hrec]; exact run_enterLoop_outer _ _ _ _ _
 ·have e:(#[Operand.const (Value.func (.yield (w.heap.size+1)) #[] #[])]).map a.eval = #[Value.func (.yield (w.heap.size+1)) #[] #[]]:=by simp only [List.map_toArray,wW,AO]; rfl
  simp only [resolve,hgv,Deferred.ofValue,e,Sem.run_pure]
 ·have e:(us ++ #[Value.func (.yield (w.heap.size+1)) #[] #[]]++vs')=(us.toList++[Value.func (.yield (w.heap.size+1)) #[] #[]]++vs'.toList).toArray:=by apply Z0; simp
  simp only [invoke,e];exact hent
 ·subst he;obtain ⟨T',ps',b1,b2,st,pe,hget⟩:=hex;obtain ⟨hbusy,hfin⟩:=hend T' ps' b1 b2 st pe hget;obtain ⟨L,hL,hE⟩:=hdone.heap.ent _ _ hget;have hL':=hdone.stp.mu _ _ (upd_same (μ:=μ) H.next ⟨w.heap.size+1,0,0⟩);rw [hL'] at hL; cases hL;obtain ⟨hnF,r,g1,g2,g3,g4,g5,g6,g7⟩:=hE;simp only at g1;have hlt:=(V4.1 g1).1;obtain ⟨q1,q2⟩:=iC (I:=qZ) (e:=.loop T' ps' b1 b2 .exhausted pe) hdone.heap hget rfl hL' (w3.putObj (w.heap.size+1) (.loop { r with state:=.exhausted })) (fun c hc=>World.putObj_heap_other hc) (by simp [World.putObj]) (Tp.same rfl rfl) rfl rfl
   (fun hw=>⟨hnF,_,World.putObj_heap_same hlt,rfl,g3.mono (fun _ _ h=>h) (fun _ h=>h) hw,g4,g5,g6,g7⟩) rfl
  obtain ⟨q3,q4⟩:=sv (I:=qZ) q1 H.next
  have hgg:∀ x,((H2.put H.next (.loop T' ps' b1 b2 .exhausted pe)).kill H.next).get x=(H2.kill H.next).get x:=by
   intro x; simp only [Heap.get_kill,Heap.get_put]; split <;> rfl
  have q5:=q3.congr (H2:=H2.kill H.next) rfl hgg;have q6:Stp qZ P μ F H w μ3 F (H2.kill H.next) (w3.putObj (w.heap.size+1) (.loop { r with state:=.exhausted })) :=
   (hN3.trans (hdone.stp.trans (q2.trans q4))).congr rfl fun x e he=>⟨e,by rw [hgg]; exact he,rfl⟩
  refine ⟨r.pending,_,run_endLoop g1 (by rw [g2]; exact hbusy),?_⟩;have hSt:Ko P B μ3 F (H2.kill H.next) (w3.putObj (w.heap.size+1) (.loop { r with state:=.exhausted })) T { a with defers:=[{ target:=.collected w.heap.size,args:=#[] }]++a.defers } :=
   ⟨q6.lr hS.hH hS.hT,q5,(hDM.stp hdone.stp).stp (q2.trans q4)⟩
  exact hfin r.pending g7 _ _ μ3 hSt q6
def Sr {P:Program} {b:Frame} {a:Act} {k:List Item} {cs:List Frame} {w:World} {c:Code}:step P (lone (b.atR a (.code (.scope c) :: k)) cs w)=.next (lone (b.atR a (.code c :: .inScope c :: k)) cs w) :=
 step_lone_go (by simp [stepG,stepG.exec,Frame.atR])
def mE {P:Program} {b:Frame} {a:Act} {k:List Item} {cs:List Frame} {w:World} {c:Code}:step P (lone (b.atR a (.inScope c :: k)) cs w)=.next (lone (b.atR a k) cs w) :=
 step_lone_go (by simp [stepG,stepG.exec,Frame.atR])
def Fh {P:Program} {F:Fence} {n:Nat} {a:Act} {w:World} {Q:Exit->Act->World->Prop} {c:Code} (h:c.wpIn F n P (Exit.noGoto Q) a w):(Code.scope c).wpIn F n P Q a w:=by
 intro b k cs hro hb hr;have h0:(lone (b.atR a (.code (.scope c) :: k)) cs w).fenced P F:=fenced_calm hb hr rfl;obtain ⟨e,a₁,w₁,hq,harr⟩:=h b (.inScope c :: k) cs hro hb hr;cases e with
 | normal=>exact ⟨.normal,a₁,w₁,hq,.head h0 Sr (StepsIn.trans harr (.one (fenced_calm hb hr rfl) mE))⟩
 | exit id' =>
  have hx:exitTo id' (.inScope c :: k)=exitTo id' k:=by simp [exitTo]
  exact ⟨.exit id',a₁,w₁,hq,fun k' hk=>.head h0 Sr (harr.1 k' (by rw [hx]; exact hk)),
   fun hr' hk=>let ⟨k₁,h1,h2⟩:=harr.2 hr' (by rw [hx]; exact hk); ⟨k₁,h1,.head h0 Sr h2⟩⟩
 | goto l=>exact hq.elim
 | ret=>exact ⟨_,a₁,w₁,hq,.of_steps (.one h0 Sr) harr⟩
 | panic ch=>exact ⟨_,a₁,w₁,hq,.of_steps (.one h0 Sr) harr⟩
 | outgrown=>exact ⟨_,a₁,w₁,hq,.of_steps (.one h0 Sr) harr⟩
def yb {cal:m6} {m:Nat} {rd:Bool} {T:Tm} {H:Heap}:aI cal m rd GY T H=none:=by
 unfold GY;simp only [aI];split <;> rfl
def Mc (l:Nat) (J:Act->World->Prop) (Q:Exit->Act->World->Prop):Exit->Act->World->Prop
 | .goto l',a,w=>l'=l/\J a w
 | e,a,w=>Q e a w
def CS (F:Fence) (n:Nat) (P:Program) (c rest:Code) (Q:Exit->Act->World->Prop) (a:Act) (w:World):Prop :=
 ∀ (b:Frame) (k:List Item) (cs:List Frame),b.roundOf=F.round->F.fn b.fn->F.room (cs.length+1+n) ->
  ∃ e a' w',Q e a' w'/\ArrivesIn (Machine.fenced P F) P (lone (b.atR a (.code rest :: .inScope c :: k)) cs w) b k cs e a' w'
def IT {P:Program} {F:Fence} {n:Nat} {a:Act} {w:World} {Q:Exit->Act->World->Prop} {c rest:Code} {l:Nat} (hf:findLabel c l=some rest) (h:rest.wpIn F n P (Mc l (CS F n P c rest Q) Q) a w):CS F n P c rest Q a w:=by
 intro b k cs hro hb hr;have hg:gotoIn l (.inScope c :: k)=some (.code rest :: .inScope c :: k):=by simp [gotoIn,hf]
 obtain ⟨e,a₁,w₁,hq,harr⟩:=h b (.inScope c :: k) cs hro hb hr;cases e with
 | normal=>exact ⟨.normal,a₁,w₁,hq,StepsIn.trans harr (.one (fenced_calm hb hr rfl) mE)⟩
 | exit id' =>
  have hx:exitTo id' (.inScope c :: k)=exitTo id' k:=by simp [exitTo]
  exact ⟨.exit id',a₁,w₁,hq,fun k' hk=>harr.1 k' (by rw [hx]; exact hk),fun hr' hk=>harr.2 hr' (by rw [hx]; exact hk)⟩
 | goto l' =>
  obtain ⟨rfl,hJ⟩:=hq;obtain ⟨e₂,a₂,w₂,hq₂,harr₂⟩:=hJ b k cs hro hb hr;exact ⟨e₂,a₂,w₂,hq₂,.of_steps (harr.1 _ hg) harr₂⟩
 | ret=>exact ⟨_,a₁,w₁,hq,harr⟩
 | panic ch=>exact ⟨_,a₁,w₁,hq,harr⟩
 | outgrown=>exact ⟨_,a₁,w₁,hq,harr⟩
def CW {P:Program} {F:Fence} {n:Nat} {a:Act} {w:World} {Q:Exit->Act->World->Prop} {c rest:Code} {l:Nat} (hf:findLabel c l=some rest) (h:c.wpIn F n P (Mc l (CS F n P c rest Q) Q) a w):(Code.scope c).wpIn F n P Q a w:=by
 intro b k cs hro hb hr;have hg:gotoIn l (.inScope c :: k)=some (.code rest :: .inScope c :: k):=by simp [gotoIn,hf]
 have h0:(lone (b.atR a (.code (.scope c) :: k)) cs w).fenced P F:=fenced_calm hb hr rfl;obtain ⟨e,a₁,w₁,hq,harr⟩:=h b (.inScope c :: k) cs hro hb hr;cases e with
 | normal=>exact ⟨.normal,a₁,w₁,hq,.head h0 Sr (StepsIn.trans harr (.one (fenced_calm hb hr rfl) mE))⟩
 | exit id' =>
  have hx:exitTo id' (.inScope c :: k)=exitTo id' k:=by simp [exitTo]
  exact ⟨.exit id',a₁,w₁,hq,fun k' hk=>.head h0 Sr (harr.1 k' (by rw [hx]; exact hk)),
   fun hr' hk=>let ⟨k₁,h1,h2⟩:=harr.2 hr' (by rw [hx]; exact hk); ⟨k₁,h1,.head h0 Sr h2⟩⟩
 | goto l' =>
  obtain ⟨rfl,hJ⟩:=hq;obtain ⟨e₂,a₂,w₂,hq₂,harr₂⟩:=hJ b k cs hro hb hr;exact ⟨e₂,a₂,w₂,hq₂,.of_steps (.head h0 Sr (harr.1 _ hg)) harr₂⟩
 | ret=>exact ⟨_,a₁,w₁,hq,.of_steps (.one h0 Sr) harr⟩
 | panic ch=>exact ⟨_,a₁,w₁,hq,.of_steps (.one h0 Sr) harr⟩
 | outgrown=>exact ⟨_,a₁,w₁,hq,.of_steps (.one h0 Sr) harr⟩
def ww {cal:m6} {m:Nat} {rd:Bool} {c rest:Code} {ar:ACode} {l:Nat} (hf:findLabel c l=some rest) (hc:∀ T H x T' H',aI cal m rd ar T H=some (x,T',H')->kw P rd rest T H x T' H') :
  ∀ (k:Nat) (T:Tm) (H:Heap) (x:Ex) (T':Tm) (H':Heap),HB l (aI cal m rd ar) k T H=some (x,T',H') ->
  ∀ (fence:Fence) (n:Nat) (B:Nat × List Deferred) (μ:Mu) (F:Nat->Prop) (w:World) (a:Act) (Q:Exit->Act->World->Prop),FenceOK fence rd->B.1<=w.heap.size->Ko P B μ F H w T a ->
  (∀ a' w' μ',Ko P B μ' F H' w' T' a'->Stp qZ P μ F H w μ' F H' w'->Q (JJ x) a' w')->CS fence n P c rest Q a w
 | 0,T,H,x,T',H',h=>by cases h
 | k+1,T,H,x,T',H',h=>by
  intro fence n B μ F w a Q hF hB hS hQ;simp only [HB] at h;refine IT hf ?_;split at h
  ·rename_i l' T1 H1 h1;split at h
   ·rename_i e;subst e;refine hc T H _ _ _ h1 fence n B μ F w a _ hF hB hS fun a' w' μ' hS' hst=>⟨rfl,?_⟩
    exact ww hf hc k T1 H1 x T' H' h fence n B μ' F w' a' Q hF (Oc hB hst.size) hS' fun a2 w2 μ2 hS2 hst2=>hQ a2 w2 μ2 hS2 (hst.trans hst2)
   ·cases h
  ·rename_i hne;refine hc T H _ _ _ h fence n B μ F w a _ hF hB hS fun a' w' μ' hS' hst=>?_
   have:=hQ a' w' μ' hS' hst
   cases x with
   | goto l'=>exact absurd h (hne _ _ _)
   | _=>exact this
def IL {cal:m6} {m:Nat} {rd:Bool} {c1 c2:Code} {a1 a2:ACode} (h1:∀ T H x T' H',aI cal m rd a1 T H=some (x,T',H')->kw P rd c1 T H x T' H') (h2:∀ T H x T' H',aI cal m rd a2 T H=some (x,T',H')->kw P rd c2 T H x T' H')
  (T:Tm) (H:Heap) (x:Ex) (T':Tm) (H':Heap) (h:aI cal m rd (.seq a1 a2) T H=some (x,T',H')):kw P rd (.seq c1 c2) T H x T' H':=by
 intro fence n B μ F w a Q hF hB hS hQ;simp only [aI] at h;refine wpIn_seq ?_;split at h
 ·rename_i T1 H1 hrun;refine h1 T H _ _ _ hrun fence n B μ F w a _ hF hB hS fun a' w' μ' hS' hst=>?_;exact h2 T1 H1 _ _ _ h fence n B μ' F w' a' Q hF (Oc hB hst.size) hS' fun a2 w2 μ2 hS2 hst2=>hQ a2 w2 μ2 hS2 (hst.trans hst2)
 ·rename_i hne;refine h1 T H _ _ _ h fence n B μ F w a _ hF hB hS fun a' w' μ' hS' hst=>?_
  have:=hQ a' w' μ' hS' hst
  cases x <;> first | exact this | exact absurd h (hne _ _)
def Jv {c:Code} {ac:ACode} (h:bw P c=some ac):(∃ c1 c2,c=.seq c1 c2)\/(∃ l,c=.label l)\/∀ l,bP ac l=none:=by
 cases c with
 | seq c1 c2=>exact .inl ⟨c1,c2,rfl⟩
 | label l=>exact .inr (.inl ⟨l,rfl⟩)
 | ret=>cases h; exact .inr (.inr fun l=>rfl)
 | exit id=>cases h; exact .inr (.inr fun l=>rfl)
 | goto l=>cases h; exact .inr (.inr fun l=>rfl)
 | skip=>cases h; exact .inr (.inr fun l=>rfl)
 | refuse w=>cases h; exact .inr (.inr fun l=>rfl)
 | region i ops d =>
  right; right
  simp only [bw] at h;split at h
  ·split at h
   ·cases h; exact fun l=>rfl
   ·cases h; exact fun l=>rfl
  ·simp only [Ai] at h;obtain ⟨_,_,h⟩:=h;subst h; exact fun l=>rfl
 | cond c a b =>
  simp only [bw,qh,bV] at h;obtain ⟨_,_,_,_,_,_,h⟩:=h;cases h; exact .inr (.inr fun l=>rfl)
 | block i a =>
  simp only [bw,qh,bV] at h;obtain ⟨_,_,h⟩:=h;cases h; exact .inr (.inr fun l=>rfl)
 | loop a =>
  simp only [bw,qh,bV] at h;obtain ⟨_,_,h⟩:=h;cases h; exact .inr (.inr fun l=>rfl)
 | rangeFunc f ps a b =>
  simp only [bw,qh,bV] at h;obtain ⟨_,_,_,_,_,_,h⟩:=h;cases h; exact .inr (.inr fun l=>rfl)
 | scope a =>
  right; right
  simp only [bw,qh,bV] at h;obtain ⟨a',_,h⟩:=h;cases h;unfold BY;split
  ·rename_i l0 hl0;split
   ·intro l;cases a' <;> first | rfl | (simp [Cr] at hl0; done)
   ·exact fun l=>rfl
  ·exact fun l=>rfl
def DX {cal:m6} {m:Nat} {rd:Bool} {N:Nat} (ih:∀ c':Code,SizeOf.sizeOf c'<N->∀ (ac:ACode),bw P c'=some ac->∀ (T:Tm) (H:Heap) (x:Ex) (T':Tm) (H':Heap),aI cal m rd ac T H=some (x,T',H')->kw P rd c' T H x T' H') (l:Nat) :
  ∀ (b:Code),SizeOf.sizeOf b<N->∀ (ab:ACode),bw P b=some ab->(bP ab l=none->findLabel b l=none)/\∀ ar,bP ab l=some ar->∃ rest,findLabel b l=some rest/\∀ T H x T' H',aI cal m rd ar T H=some (x,T',H')->kw P rd rest T H x T' H':=by
 intro b;have other:∀ ab:ACode,(∀ l,bP ab l=none)->findLabel b l=none->(bP ab l=none->findLabel b l=none)/\∀ ar,bP ab l=some ar->∃ rest,findLabel b l=some rest/\∀ T H x T' H',aI cal m rd ar T H=some (x,T',H')->kw P rd rest T H x T' H' :=
  fun ab h1 h2=>⟨fun _=>h2,fun ar h=>by rw [h1] at h; cases h⟩
 induction b with
 | label l' =>
  intro hN ab hc;cases hc;simp only [bP,findLabel];refine ⟨fun h=>?_,fun ar h=>?_⟩
  ·split at h
   ·cases h
   ·rename_i e; rw [if_neg e]
  ·split at h
   ·rename_i e;cases h;rw [if_pos e];exact ⟨_,rfl,fun T H x T' H' h fence n B μ F w a Q hF hB hS hQ=>by cases h; exact wpIn_skip (hQ a w μ hS (Stp.refl _ _ _ _ _ _))⟩
   ·cases h
 | seq c1 c2 ih1 ih2 =>
  intro hN ab hc;have plain:∀ a1 a2,bw P c1=some a1->bw P c2=some a2->(bP (.seq a1 a2) l=none->findLabel (.seq c1 c2) l=none)/\∀ ar,bP (.seq a1 a2) l=some ar->∃ rest,findLabel (.seq c1 c2) l=some rest/\∀ T H x T' H',aI cal m rd ar T H=some (x,T',H')->kw P rd rest T H x T' H':=by
   intro a1 a2 h1 h2;have i1:=ih1 (fun ab h1 h2=>⟨fun _=>h2,fun ar h=>by rw [h1] at h; cases h⟩) (by simp at hN; omega) a1 h1;have i2:=ih2 (fun ab h1 h2=>⟨fun _=>h2,fun ar h=>by rw [h1] at h; cases h⟩) (by simp at hN; omega) a2 h2;cases hf:bP a1 l with
   | none =>
    have e1:bP (.seq a1 a2) l=bP a2 l:=by simp only [bP,hf]
    have e2:findLabel (.seq c1 c2) l=findLabel c2 l:=by simp only [findLabel,i1.1 hf]
    rw [e1,e2];exact i2
   | some r =>
    obtain ⟨rest,hr,hok⟩:=i1.2 r hf;have e1:bP (.seq a1 a2) l=some (.seq r a2):=by simp only [bP,hf]
    have e2:findLabel (.seq c1 c2) l=some (.seq rest c2):=by simp only [findLabel,hr]
    rw [e1,e2];refine ⟨fun h=>(by cases h),fun ar h=>?_⟩;cases h;exact ⟨_,rfl,IL hok (ih c2 (by simp at hN; omega) a2 h2)⟩
  have he:=vE (P:=P) c1 c2
  ·rw [he] at hc;simp only [qh,bV] at hc;obtain ⟨a1,h1,a2,h2,hc⟩:=hc;cases hc;exact plain a1 a2 h1 h2
 | _ =>
  intro hN ab hc;rcases Jv hc with ⟨_,_,h⟩ | ⟨_,h⟩ | h
  ·cases h
  ·cases h
  ·exact other ab h rfl
def pY {cal:m6} (hcal:mC P cal) (hmix:P.follows .mixedOrders=true) {m:Nat} {rd:Bool}:∀ (c:Code) (ac:ACode),bw P c=some ac->∀ (T:Tm) (H:Heap) (x:Ex) (T':Tm) (H':Heap),aI cal m rd ac T H=some (x,T',H')->kw P rd c T H x T' H':=by
 intro c
 induction hk:SizeOf.sizeOf c using Nat.strongRecOn generalizing c with
 | _ k ih =>
 have ih:∀ c':Code,SizeOf.sizeOf c'<SizeOf.sizeOf c->∀ (ac:ACode),bw P c'=some ac->∀ (T:Tm) (H:Heap) (x:Ex) (T':Tm) (H':Heap),aI cal m rd ac T H=some (x,T',H')->kw P rd c' T H x T' H':=fun c' h=>ih (SizeOf.sizeOf c') (hk ▸ h) c' rfl;cases c with
 | skip =>
  intro ac hc T H x T' H' h fence n B μ F w a Q hF hB hS hQ;cases hc; cases h;exact wpIn_skip (hQ a w μ hS (Stp.refl _ _ _ _ _ _))
 | label l =>
  intro ac hc T H x T' H' h fence n B μ F w a Q hF hB hS hQ;cases hc;simp only [aI] at h;cases h;exact wpIn_label (hQ a w μ hS (Stp.refl _ _ _ _ _ _))
 | exit id =>
  intro ac hc T H x T' H' h fence n B μ F w a Q hF hB hS hQ;cases hc; cases h;exact wpIn_exit (hQ a w μ hS (Stp.refl _ _ _ _ _ _))
 | goto l =>
  intro ac hc T H x T' H' h fence n B μ F w a Q hF hB hS hQ;cases hc; cases h;exact wpIn_goto (hQ a w μ hS (Stp.refl _ _ _ _ _ _))
 | ret =>
  intro ac hc T H x T' H' h fence n B μ F w a Q hF hB hS hQ;cases hc; cases h;exact wpIn_ret (hQ a w μ hS (Stp.refl _ _ _ _ _ _))
 | refuse why =>
  intro ac hc T H x T' H' h;cases hc;rw [yb] at h; cases h
 | scope b =>
  have ihN:=ih;have ih:=ih b (by simp);intro ac hc T H x T' H' h fence n B μ F w a Q hF hB hS hQ;simp only [bw,qh,bV] at hc;obtain ⟨ab,hb,hc⟩:=hc;have straight:aI cal m rd (.scope ab) T H=some (x,T',H')->(Code.scope b).wpIn fence n P Q a w:=by
   intro h;simp only [aI] at h;refine Fh ?_;split at h
   ·cases h
   ·rename_i hne;refine ih ab hb T H _ _ _ h fence n B μ F w a _ hF hB hS fun a' w' μ' hS' hst=>?_
    have:=hQ a' w' μ' hS' hst
    cases x with
    | goto l=>exact absurd h (hne _ _ _)
    | _=>exact this
  cases hc;unfold BY at h;split at h
  ·rename_i l hl;split at h
   ·rename_i ar har;obtain ⟨rest,hf,hok⟩:=(DX ihN l b (by simp) ab hb).2 ar har;simp only [aI] at h;refine CW hf ?_;split at h
    ·rename_i l' T1 H1 h1;split at h
     ·rename_i e;subst e;refine ih ab hb T H _ _ _ h1 fence n B μ F w a _ hF hB hS fun a' w' μ' hS' hst=>⟨rfl,?_⟩
      exact ww hf hok m T1 H1 x T' H' h fence n B μ' F w' a' Q hF (Oc hB hst.size) hS' fun a2 w2 μ2 hS2 hst2=>hQ a2 w2 μ2 hS2 (hst.trans hst2)
     ·cases h
    ·rename_i hne;refine ih ab hb T H _ _ _ h fence n B μ F w a _ hF hB hS fun a' w' μ' hS' hst=>?_
     have:=hQ a' w' μ' hS' hst
     cases x with
     | goto l=>exact absurd h (hne _ _ _)
     | _=>exact this
   ·exact straight h
  ·exact straight h
 | region id ops draw =>
  intro ac hc T H x T' H' h fence n B μ F w a Q hF hB hS hQ;simp only [bw] at hc;cases draw with
  | true =>
   simp only [if_true] at hc;split at hc
   ·rename_i p hrs;obtain ⟨ds,late⟩:=p;cases hc;simp only [aI] at h;split at h
    ·rename_i T1 H1 hrun;cases h;refine Gs hcal hmix hF hrs hrun hS.hT hS.hH fun a' w' μ' hd hT' hH' hst=>?_;exact hQ a' w' μ' ⟨hT',hH',hd ▸ hS.hD.stp hst⟩ hst
    ·cases h
   ·cases hc;rw [yb] at h; cases h
  | false =>
   simp only [Vx,if_false,Ai] at hc;obtain ⟨rs,hrs,rfl⟩:=hc;simp only [aI] at h;split at h
   ·rename_i T1 H1 hrun;cases h;refine B3 hcal hF hrs hrun hS.hT hS.hH fun a' w' μ' hd hT' hH' hst=>?_;exact hQ a' w' μ' ⟨hT',hH',hd ▸ hS.hD.stp hst⟩ hst
   ·cases h
 | seq c1 c2 =>
  have ih1:=ih c1 zS;have ih2:=ih c2 zS;intro ac hc T H x T' H' h;have plain:∀ a1 a2,bw P c1=some a1->bw P c2=some a2->aI cal m rd (.seq a1 a2) T H=some (x,T',H')->kw P rd (.seq c1 c2) T H x T' H':=by
   intro a1 a2 h1 h2 h fence n B μ F w a Q hF hB hS hQ;simp only [aI] at h;refine wpIn_seq ?_;split at h
   ·rename_i T1 H1 hrun;refine ih1 a1 h1 T H _ _ _ hrun fence n B μ F w a _ hF hB hS fun a' w' μ' hS' hst=>?_;exact ih2 a2 h2 T1 H1 _ _ _ h fence n B μ' F w' a' Q hF (Oc hB hst.size) hS' fun a2 w2 μ2 hS2 hst2=>hQ a2 w2 μ2 hS2 (hst.trans hst2)
   ·rename_i hne;refine ih1 a1 h1 T H _ _ _ h fence n B μ F w a _ hF hB hS fun a' w' μ' hS' hst=>?_
    have:=hQ a' w' μ' hS' hst
    cases x <;> first | exact this | exact absurd h (hne _ _)
  have he:=vE (P:=P) c1 c2
  ·rw [he] at hc;simp only [qh,bV] at hc;obtain ⟨a1,h1,a2,h2,hc⟩:=hc;cases hc;exact plain a1 a2 h1 h2 h
 | cond c c1 c2 =>
  have ih1:=ih c1 zS;have ih2:=ih c2 zS;intro ac hc T H x T' H' h fence n B μ F w a Q hF hB hS hQ;simp only [bw,qh,bV] at hc;obtain ⟨s,hs,a1,h1,a2,h2,hc⟩:=hc;cases hc;simp only [aI] at h;have hv:=aN hS.hT hs;split at h
  ·rename_i e;rw [e] at hv
   generalize hcv:a.eval c=cv at hv
   cases hv;exact wpIn_cond_true hcv (ih1 a1 h1 T H _ _ _ h fence n B μ F w a Q hF hB hS hQ)
  ·rename_i e;rw [e] at hv
   generalize hcv:a.eval c=cv at hv
   cases hv;exact wpIn_cond_false hcv (ih2 a2 h2 T H _ _ _ h fence n B μ F w a Q hF hB hS hQ)
  ·cases h
 | block id b =>
  have ih:=ih b zS;intro ac hc T H x T' H' h fence n B μ F w a Q hF hB hS hQ;simp only [bw,qh,bV] at hc;obtain ⟨ab,hb,hc⟩:=hc;cases hc;simp only [aI] at h;refine wpIn_block ?_;split at h
  ·rename_i id' T1 H1 hrun;split at h
   ·rename_i e;cases h;refine ih ab hb T H _ _ _ hrun fence n B μ F w a _ hF hB hS fun a' w' μ' hS' hst=>?_
    have:=hQ a' w' μ' hS' hst
    simp only [JJ,Exit.inBlock,e,if_true];exact this
   ·rename_i e;cases h;refine ih ab hb T H _ _ _ hrun fence n B μ F w a _ hF hB hS fun a' w' μ' hS' hst=>?_
    have:=hQ a' w' μ' hS' hst
    simp only [JJ,Exit.inBlock,e,if_false];exact this
  ·rename_i hne;refine ih ab hb T H _ _ _ h fence n B μ F w a _ hF hB hS fun a' w' μ' hS' hst=>?_
   have:=hQ a' w' μ' hS' hst
   cases x <;> first | exact this | exact absurd h (hne _ _ _)
 | loop b =>
  have ih:=ih b (by simp);intro ac hc T H x T' H' h fence n B μ F w a Q hF hB hS hQ;simp only [bw,qh,bV] at hc;obtain ⟨ab,hb,hc⟩:=hc;cases hc;simp only [aI] at h;exact wpIn_loop_rounds m (yV (ih ab hb) m T H x T' H' h fence n B μ F w a Q hF hB hS hQ).2
 | rangeFunc g ps asg body =>
  intro ac hc T H x T' H' h fence n B μ F w a Q hF hB hS hQ;simp only [bw,qh,bV] at hc;obtain ⟨s,hs,a1,h1,a2,h2,hc⟩:=hc;cases hc;simp only [aI] at h;split at h
  ·cases h
  rename_i hrd;have hrd:rd=false:=by simpa using hrd
  subst hrd;split at h
  ·rename_i fi args ht;split at h
   ·rename_i v H2 hrun;split at h
    ·rename_i T0 ps0 b1 b2 hget;cases h;refine oS hcal hF hs h1 h2 ht hrun hB hS (fun T' ps' c1 c2 st pe hg=>?_) ⟨_,_,_,_,_,_,hget⟩;rw [hget] at hg; cases hg;refine ⟨by simp,fun r hr a' w' μ' hS' hst=>?_⟩;cases r with
     | none=>exact hQ a' w' μ' hS' hst
     | some c=>exact hr.elim
    ·rename_i T0 ps0 b1 b2 pc hget;have fin:∀ (x':Ex) (cc:Code),x'=x->T'=T->H'=H2.kill H.next->(∀ c',bw P c'=some pc->c'=cc)->(∀ (a':Act) (w':World),Q (JJ x') a' w'->cc.wpIn fence n P Q a' w')->(Code.rangeFunc g ps asg body).wpIn fence n P Q a w:=by
      intro x' cc e1 e2 e3 hinv hwp;subst e1; subst e2; subst e3;refine oS hcal hF hs h1 h2 ht hrun hB hS (fun T' ps' c1 c2 st pe hg=>?_) ⟨_,_,_,_,_,_,hget⟩;rw [hget] at hg; cases hg;refine ⟨by simp,fun r hr a' w' μ' hS' hst=>?_⟩;cases r with
      | none=>exact hr.elim
      | some c =>
       have:=hinv c hr
       subst this;exact hwp _ _ (hQ a' w' μ' hS' hst)
     split at h
     ·cases h; exact fin .ret .ret rfl rfl rfl (fun c' hc'=>NS hc') (fun a' w' q=>wpIn_ret q)
     ·cases h; exact fin (.exit _) (.exit _) rfl rfl rfl (fun c' hc'=>Mj hc') (fun a' w' q=>wpIn_exit q)
     ·cases h; exact fin (.goto _) (.goto _) rfl rfl rfl (fun c' hc'=>Mf hc') (fun a' w' q=>wpIn_goto q)
     ·cases h
    ·cases h
   ·cases h
  ·cases h
end
def GK (_:Program) (_:Kh):Prop:=True
end Go.Proofs.YthjdfjlhjnihfaaGreat.Ev
namespace Go.Proofs.YthjdfjlhjnihfaaGreat.Ev
open Go
open Go.Sort
def Ry {α:Type} (enc:α->Value):Prop:=∀ x,(enc x).oneCell'=true
def Og {α:Type} (cf:α->α->Int) (x y:α):Bool:=decide (cf x y<0)
def SM {α:Type} [Inhabited α] (enc:α->Value) (w:World) (blk off m:Nat) (dk:Array α) (os:Array Obj):World:=grow (putRow enc (Sort.ahead w m) blk off dk) os
def Pc {α:Type} [Inhabited α] (P:Program) (g:Nat) (cb:Array Value) (enc:α->Value) (cf:α->α->Int) (blk off size:Nat) (w:World):Prop :=
 ∀ (m:Nat) (os:Array Obj) (dk:Array α),dk.size=size->∀ x y:α,
  Calls P g (#[enc x,enc y]++cb) (SM enc w blk off m dk os) fun e w'=>e=.returned (.int .i64 (cf x y))/\∃ q os',w'=grow ((SM enc w blk off m dk os).drewN q) os'
def GJ (P:Program) (S:Nat) (gs:List Nat):Prop :=
 (∃ fn,P.funcs[S]? = some fn ∧ fn.body.isSome=true ∧ fn.name ≠ "runtime.NumGoroutine") ∧ MY ∧
 (∀ g∈gs,∀ args w,(callFunc g args).run P w=.ok (.enter g args) w) /\
 (∀ (p:Option Addr) (cap:Nat) (fv:Value) (w:World),Calls P S #[.slice p 0 cap,fv] w fun e w'=>e=.returned (.tuple #[])/\w'=w) /\
 ∀ (k:Nat) (enc:Fin (k+1)->Value) (cf:Fin (k+1)->Fin (k+1)->Int) (g:Nat) (cb:Array Value) (blk cap:Nat) (w:World),g∈gs->Ry enc->SWO (Og cf)->(∀ x y,Og cf x y=false->Og cf y x=false->x=y) ->
  Pc P g cb enc cf blk 0 (k+1) w->Holds enc w blk 0 (List.finRange (k+1)).toArray->blk<w.heap.size->k+1<4611686018427387904 ->
  Calls P S #[.slice (some ⟨blk,0,none⟩) (k+1:Nat) cap,.func (.func g) #[] cb] w fun e w'=>e=.returned (.tuple #[])/\∃ m os,w'=SM enc w blk 0 m ((List.finRange (k+1)).mergeSort fun x y=>!(Og cf) y x).toArray os
def Fi {W w':World} (hs:W.heap.size<=w'.heap.size) (hk:∀ c,c<W.heap.size->w'.heap[c]? = W.heap[c]?) (ht:w'.tape=W.tape) (hd:W.drawn<=w'.drawn) (ho:w'.os=W.os) (hp:w'.output=W.output) :
  w'=grow (W.drewN (w'.drawn-W.drawn)) (w'.heap.extract W.heap.size w'.heap.size):=by
 obtain ⟨h1,t1,d1,o1,p1⟩:=w';obtain ⟨h,t,d,o,p⟩:=W;simp only at *;subst ht; subst ho; subst hp;unfold grow World.drewN;have e1:h1=h++h1.extract h.size h1.size:=by
  apply YZ
  intro i;by_cases hi:i<h.size
  ·rw [Wg hi]; exact hk i hi
  ·rw [Array.getElem?_append_right zO,Zu];by_cases hj:i<h1.size
   ·rw [if_pos zO]; congr 1; omega
   ·rw [if_neg zO];exact XV zO
 have e2:d1=d+(d1-d):=zO;show (⟨h1,t1,d1,o1,p1⟩:World)=⟨h++h1.extract h.size h1.size,t1,d+(d1-d),o1,p1⟩;rw [<- e1,<- e2]
section
variable {P:Program} {μ:Mu} {F:Nat->Prop} {H:Heap} {w:World}
def Gf (hH:HR P μ F H w) (os:Array Obj):HR P μ F H (grow w os)/\Stp qZ P μ F H w μ F H (grow w os):=by
 have hw:∀ c,c<w.heap.size->(grow w os).heap[c]? = w.heap[c]?:=fun c hc=>by
  show (w.heap++os)[c]? = _;rw [Wg hc]
 have hsz:w.heap.size<=(grow w os).heap.size:=by
  show _<=(w.heap++os).size
  simp
 refine ⟨⟨fun b L hb=>?_,fun c hc=>?_,fun b e hb=>?_,hH.inj,fun g cs hg=>(hH.gl g cs hg).mono (fun _ _ h=>h) (fun _ h=>h) fun c hc=>hw c (hH.fb c hc)⟩,⟨fun _ _ h=>h,fun _ h=>h,hsz,fun c hc _=>hw c hc,fun b L hb hL=>.inr ⟨b,L,hb,hL,rfl⟩,wT _,fun _ _ _ h=>h,fun b L h=>.inl ⟨b,L,h,rfl⟩,fun b e h _ _=>⟨e,h⟩,fun b e L h hL=>.inr ⟨b,e,L,h,hL,rfl⟩,Tp.same rfl rfl,rfl,rfl⟩⟩
 ·have:=hH.dom b L hb; exact ⟨this.1,zO⟩
 ·have:=hH.fb c hc; omega
 ·obtain ⟨L,hL,hE⟩:=hH.ent b e hb;exact ⟨L,hL,hE.mono (fun _ _ h=>h) (fun _ h=>h) (fun c hc=>hw c (hH.fb c hc)) (hw _ (hH.dom b L hL).2) (fun hr=>hE.notF hr)⟩
def Te {f:Nat} {fn:Func} {vs:Array Value} {Fe:Fence} {rd:Bool} {n:Nat} {R:Value → World → Prop} (hf:P.funcs[f]? = some fn) (hb:fn.body.isSome=true) (hn:fn.name ≠ "runtime.NumGoroutine") (hF:FenceOK Fe rd)
  (h:Calls P f vs w fun e w'=>∃ u,e=.returned u/\R u w'):Runs Fe n P ((callFunc f vs).run P w) R:=by
 have hr:(callFunc f vs).run P w=.ok (.enter f vs) w:=by
  obtain ⟨c,hc⟩:=Yh.1 hb;simp [callFunc,hf,hn,hc]
 rw [hr];unfold Runs;simp only;have key:CallsIn Fence.wide n P f vs w fun e w'=>∃ u,e=.returned u/\R u w':=callsIn_wide.2 h;rcases hF with ⟨_,rfl⟩ | ⟨_,l,rfl⟩
 ·exact key
 ·exact key
def yr {α:Type} [Inhabited α] (enc:α->Value) (w:World) (blk off m:Nat) (dk:Array α) (os:Array Obj):(∀ c,c<w.heap.size->c≠blk->(SM enc w blk off m dk os).heap[c]? = w.heap[c]?)/\w.heap.size<=(SM enc w blk off m dk os).heap.size:=by
 have e:(SM enc w blk off m dk os).heap=w.heap.modify blk (onCells (putCells enc off dk))++os:=rfl;rw [e];refine ⟨fun c hc hne=>?_,by simp⟩;rw [Wg (by simpa using hc),W3,if_neg (Ne.symm hne)]
def Bc {cal:m6} {g:Nat} {caps:List AV} {D:Heap} {x:AV}:∀ {l:List AV} {cs:List Int},pZ cal g caps D x l=some cs->cs.length=l.length/\∀ (j:Nat) (y:AV),l[j]? = some y->∃ D',cal (.fn g ([x,y]++caps)) D=some (.int .i64 (cs.getD j 0),D')
 | [],cs,h=>by
  simp only [pZ,VE] at h;subst h;exact ⟨rfl,fun j y h=>by simp at h⟩
 | y :: l,cs,h=>by
  simp only [pZ] at h;split at h
  ·rename_i c D' cs' h1 h2;cases h;obtain ⟨k1,k2⟩:=Bc h2;refine ⟨by simp [k1],fun j z hz=>?_⟩;cases j with
   | zero=>simp at hz; subst hz; exact ⟨D',h1⟩
   | succ j=>exact k2 j z (by simpa using hz)
  ·cases h
def zm {cal:m6} {g:Nat} {caps:List AV} {D:Heap} {all:List AV}:∀ {l:List AV} {M:List (List Int)},qT cal g caps D all l=some M->∀ (i:Nat) (x:AV),l[i]? = some x->pZ cal g caps D x all=some (M.getD i [])
 | [],M,h,i,x,hx=>by simp at hx
 | x :: l,M,h,i,z,hz=>by
  simp only [qT] at h;split at h
  ·rename_i r rs h1 h2;cases h;cases i with
   | zero=>simp at hz; subst hz; exact h1
   | succ i=>exact zm h2 i z (by simpa using hz)
  ·cases h
def De {cal:m6} (hcal:mC P cal) {S ty:Nat} {gs:List Nat} (hS:GJ P S gs) {args:List AV} {v:AV} {H':Heap} (h:AK cal ty gs H args=some (v,H')) {vs:List Value} {fence:Fence} {rd:Bool} (hF:FenceOK fence rd) (hH:HR P μ F H w) (hl:LR μ F w args vs) (n:Nat) :
  Runs fence n P ((callFunc S vs.toArray).run P w) fun u w'=>∃ μ',ie qZ P μ F H w v H' u w' μ':=by
 obtain ⟨⟨fn,hf,hb,hn⟩,hnk,hgs,hnone,hsort⟩:=hS;have htwo:∀ {a b:AV},LR μ F w [a,b] vs->∃ x y,vs=[x,y]/\VR μ F w a x/\VR μ F w b y:=fun {a b} h=>by
  have h1:=h.1
  match vs,h1 with
  | [x,y],_=>exact ⟨x,y,rfl,h.head,h.tail.head⟩
 unfold AK at h;split at h
 ·cases h;obtain ⟨x,y,rfl,hx,hy⟩:=htwo hl;cases hx;refine Te hf hb hn hF ((hnone none 0 y w).mono ?_);rintro e w' ⟨rfl,rfl⟩;exact ⟨_,rfl,μ,.tup [] #[] rfl (fun i c v h=>by simp at h),hH,Stp.refl _ _ _ _ _ _⟩
 ·rename_i b off len c sz ex g caps;split at h
  ·rename_i hz;cases h;subst hz;obtain ⟨x,y,rfl,hx,hy⟩:=htwo hl;cases hx with
   | own _ _ _ _ _ _ L cap o1 o2 o3 o4 o5 o6 =>
   refine Te hf hb hn hF ((hnone _ cap y w).mono ?_);rintro e w' ⟨rfl,rfl⟩;exact ⟨_,rfl,μ,.tup [] #[] rfl (fun i c v h=>by simp at h),hH,Stp.refl _ _ _ _ _ _⟩
  split at h
  ·rename_i cs ty' hgb;split at h
   ·rename_i hc;obtain ⟨rfl,rfl,rfl,hlen,h0,hbig,hg,hones⟩:=hc;split at h
    ·rename_i M hM;split at h
     ·rename_i hord;cases h;obtain ⟨x,y,rfl,hx,hy⟩:=htwo hl;obtain ⟨L,hL,hE⟩:=hH.ent b _ hgb;cases hx with
      | own _ _ _ _ _ _ L' cap o1 o2 o3 o4 o5 o6 =>
      rw [hL] at o1; cases o1;cases hy with
      | fn _ _ _ us ub q1 q2 q3 q4 =>
      obtain rfl:us = #[]:=XP (by simpa using q1.symm);obtain ⟨arr,fr,a1,a2,a3,a4,a5,a6,-⟩:=hE;obtain ⟨hnF,rfl⟩:=a6 rfl;have hblk:=(hH.dom b L hL).2;obtain ⟨k,rfl⟩:∃ k,len=k+1:=⟨len-1,zO⟩
      obtain ⟨enc,henc⟩:∃ enc:Fin (k+1)->Value,enc=fun i=>arr[i.val]!:=⟨_,rfl⟩
      have hea:∀ i:Fin (k+1),arr[i.val]? = some (enc i):=fun i=>by
       have hi:i.val<arr.size:=by have:=i.isLt; omega
       rw [henc,Wa hi];simp [hi]
      have hca:∀ i:Fin (k+1),cs[i.val]? = some (cs.getD i.val .undef):=fun i=>by
       have hi:i.val<cs.length:=by have:=i.isLt; omega
       rw [pD hi];simp [hi]
      have hva:∀ i:Fin (k+1),VR μ F w (cs.getD i.val .undef) (enc i):=fun i=>a5 _ _ _ (hca i) (hea i);obtain ⟨cf,hcf⟩:∃ cf:Fin (k+1)->Fin (k+1)->Int,cf=fun i j=>(M.getD i.val []).getD j.val 0:=⟨_,rfl⟩
      have hlt:∀ i j,Og cf i j=Km M i.val j.val:=fun i j=>by rw [hcf]; rfl
      obtain ⟨w1,w2,w3⟩:=hord;have hT:∀ x y,Og cf x y=false->Og cf y x=false->x=y:=fun x y e1 e2=>by
       rw [hlt] at e1 e2;rcases w2 _ x.isLt _ y.isLt with e | e
       ·exact Fin.ext e
       ·rw [e1,e2] at e; cases e
      have hswo:SWO (Og cf):=by
       refine ⟨fun x=>by rw [hlt]; exact w1 _ x.isLt,fun x y z e1 e2=>?_,fun x y z e1 e2=>?_⟩
       ·rw [hlt] at *; exact w3 _ x.isLt _ y.isLt _ z.isLt e1 e2
       ·rw [hlt] at *;cases hxz:Km M x.val z.val with
        | false=>rfl
        | true =>
         rcases w2 _ x.isLt _ y.isLt with e | e
         ·rw [<- e,hxz] at e2; cases e2
         ·rw [e1] at e;have e3:Km M y.val x.val=true:=by simpa using e.symm
          rw [w3 _ y.isLt _ x.isLt _ z.isLt e3 hxz] at e2; cases e2
      have hone:Ry enc:=fun i=>by
       refine (hva i).oneCell ?_;rw [Vq] at hones;exact hones _ (Ve (hca i))
      have hcmp:Pc P g ub enc cf L.blk 0 (k+1) w:=by
       intro m os dk hdk x y;obtain ⟨W,hW⟩:∃ W,W=SM enc w L.blk 0 m dk os:=⟨_,rfl⟩
       rw [<- hW];obtain ⟨hWo,hWs⟩:=yr enc w L.blk 0 m dk os;rw [<- hW] at hWo hWs;have hFw:∀ c,F c->W.heap[c]? = w.heap[c]?:=fun c hc=>hWo c (hH.fb c hc) fun e=>hnF (e ▸ hc);have hK:HR P μ F (H.kill b) W:=by
        have hg':∀ b' e',(H.kill b).get b'=some e'->b'≠b/\H.get b'=some e':=fun b' e' h=>by
         rw [Heap.get_kill] at h;split at h
         ·cases h
         ·exact ⟨by assumption,h⟩
        refine ⟨fun b' L' h'=>⟨(hH.dom b' L' h').1,Vi (hH.dom b' L' h').2 hWs⟩,fun c hc=>Vi (hH.fb c hc) hWs,fun b' e' h'=>?_,fun b1 b2 e1 e2 L1 L2 h1 h2=>hH.inj b1 b2 e1 e2 L1 L2 (hg' _ _ h1).2 (hg' _ _ h2).2,fun g cs hg=>(hH.gl g cs hg).mono (fun _ _ h=>h) (fun _ h=>h) hFw⟩;obtain ⟨hne,h'⟩:=hg' b' e' h';obtain ⟨L',hL',hE'⟩:=hH.ent b' e' h';exact ⟨L',hL',hE'.mono (fun _ _ h=>h) (fun _ h=>h) hFw (hWo _ (hH.dom b' L' hL').2 fun e=>hne (hH.inj b' b e' _ L' L h' hgb hL' hL e)) (fun hr=>hE'.notF hr)⟩
       have hD:=QX hK;have hrow:=zm hM x.val _ (hca x);obtain ⟨D',hrun⟩:=(Bc hrow).2 y.val _ (hca y);have hargs:LR μ F W ([cs.getD x.val .undef,cs.getD y.val .undef]++caps) ([enc x,enc y]++ub.toList):=by
        refine LR.cons ((hva x).mono (fun _ _ h=>h) (fun _ h=>h) hFw) (LR.cons ((hva y).mono (fun _ _ h=>h) (fun _ h=>h) hFw) ⟨by simpa using q3,fun i c v hc hv=>?_⟩);exact (q4 i c v hc (by simpa using hv)).mono (fun _ _ h=>h) (fun _ h=>h) hFw
       have run:=(hcal _ _ _ _ hrun μ F W _ Fence.wide false 0 (.inl ⟨rfl,rfl⟩) hD hargs (fun b args h=>by cases h)).2;have harr:([enc x,enc y]++ub.toList).toArray = #[enc x,enc y]++ub:=by
        apply Z0
        simp
       simp only [SQ,harr,hgs g hg,Runs] at run;refine (callsIn_wide.1 run).mono ?_;rintro e w'' ⟨u,rfl,μ',hd⟩;obtain ⟨dv,dh,ds⟩:=hd;cases dv;refine ⟨by rw [hcf],w''.drawn-W.drawn,w''.heap.extract W.heap.size w''.heap.size,?_⟩;exact Fi ds.size (NR hK (fun b=>rfl) ds) ds.tape.1 (ds.tape.2 hnk) ds.os ds.out
      have hholds:Holds enc w L.blk 0 (List.finRange (k+1)).toArray:=by
       intro j hj;have hj:j<k+1:=by simpa using hj
       have e1:(List.finRange (k+1)).toArray[j]! = ⟨j,hj⟩:=by
        simp [hj]
       rw [e1,VB,oI a1];exact ⟨hea ⟨j,hj⟩,by simp [World.frozen?,a1]⟩
      have hcon:=hsort k enc cf g ub L.blk cap w hg hone hswo hT hcmp hholds hblk hbig;refine Te hf hb hn hF (hcon.mono ?_);rintro e w' ⟨rfl,m,os,rfl⟩;have hix:((List.finRange (k+1)).mergeSort fun x y=>!(Og cf) y x)=km M (k+1):=by
       unfold km;congr 1
       funext x y
       rw [hlt]
      rw [hix];obtain ⟨ord,hord⟩:∃ ord,ord=km M (k+1):=⟨_,rfl⟩
      have hol:ord.length=k+1:=by rw [hord]; unfold km; rw [YD,ZG]
      rw [<- hord];obtain ⟨p1,p2⟩:=iC (I:=qZ) (e:=.cells (ord.map fun i=>cs.getD i.val .undef) ty' true) hH hgb rfl hL (putRow enc (Sort.ahead w m) L.blk 0 ord.toArray) (fun c hc=>by
        show (w.heap.modify L.blk _)[c]? = _;rw [W3,if_neg (Ne.symm hc)]) (by show (w.heap.modify L.blk _).size=_; simp) ⟨rfl,fun _=>Vz _ _⟩ rfl rfl
       (fun hFw=>by
        refine ⟨putCells enc 0 ord.toArray arr,(0,0),?_,by simp [putCells,a2],a3,by simp [putCells,hol]; omega,fun i c v hc hv=>?_,fun _=>⟨hnF,rfl⟩,fun h=>by cases h⟩
        ·show (w.heap.modify L.blk _)[L.blk]? = _;rw [W3,if_pos rfl,a1]; rfl
        ·rw [VT,Ai] at hc;obtain ⟨p,hp,rfl⟩:=hc;obtain ⟨hi,hpe⟩:=I6.1 hp;have hv':v=enc p:=by
          simp only [putCells,Array.getElem?_mapIdx,Ai] at hv;obtain ⟨z,hz,rfl⟩:=hv;rw [if_pos ⟨II _,by simpa using hi⟩];congr 1;simp [hi,hpe]
         rw [hv'];exact (hva p).mono (fun _ _ h=>h) (fun _ h=>h) hFw) rfl
      obtain ⟨r1,r2⟩:=Gf p1 os;exact ⟨_,rfl,μ,.tup [] #[] rfl (fun i c v h=>by simp at h),r1,p2.trans r2⟩
     ·cases h
    ·cases h
   ·cases h
  ·cases h
 ·cases h
end
section
variable {P:Program} {μ:Mu} {F:Nat->Prop} {H:Heap} {w:World} {T:Tm} {a:Act} {B:Nat}
def FD {tmps:Array Value} {r:ResultVar} {ar:Nat × Option (Option Nat)} {v:AV} (hT:LR μ F w T tmps.toList) (hH:HR P μ F H w) (hr:EN P r=some ar) (h:nl T H ar=some v) :
  ∃ u,((match r with | .tmp t=>pure (tmps.getD t undef) | .cell a t=>do loadVar t (<- asAddr (tmps.getD a undef)):Sem Value)).run P w=.ok u w/\VR μ F w v u:=by
 have hg:=fun t=>HF (a:=⟨tmps,[]⟩) hT t;cases r with
 | tmp t=>cases hr; cases h; exact ⟨_,rfl,hg t⟩
 | cell a t =>
  simp only [EN,qh,bV] at hr;obtain ⟨k,hk,hr⟩:=hr;cases hr;simp only [nl] at h;have hx:=hg a;split at h
  ·rename_i b o e;rw [e] at hx;obtain ⟨L,hL,hp⟩:=B7 hx;split at h
   ·rename_i cs ty rw hb;obtain ⟨arr,fr,h1,h2,h3,h4,h5,h6,h7⟩:=fN hH hb hL;obtain ⟨u,hu,hr⟩:=Cn (o:=o) (off:=0) h1 zO (by simpa using h5) hk h;rw [VB] at hu;simp only at hp;refine ⟨u,?_,hr⟩;simp only [Sem.run_bind,hp,asAddr,Sem.run_pure,Result.andThen_ok,hu]
   ·cases h
  ·cases h
def rm {tmps:Array Value} (hT:LR μ F w T tmps.toList) (hH:HR P μ F H w):∀ (rs:List ResultVar) (ars:List (Nat × Option (Option Nat))) (vs:List AV),rs.mapM (EN P)=some ars->ars.mapM (nl T H)=some vs ->
  ∃ us:List Value,(rs.mapM fun | .tmp t=>pure (tmps.getD t undef) | .cell a t=>do loadVar t (<- asAddr (tmps.getD a undef)):Sem (List Value)).run P w=.ok us w/\LR μ F w vs us
 | [],ars,vs,h,h'=>by simp at h; subst h; simp at h'; subst h'; exact ⟨[],by simp,LR.nil⟩
 | r :: rs,ars,vs,h,h'=>by
  simp only [Wx,Xi,qh,bV] at h;obtain ⟨x,hx,xs,hxs,h⟩:=h;cases h;simp only [Wx,Xi,qh,bV] at h';obtain ⟨y,hy,ys,hys,h'⟩:=h';cases h';obtain ⟨u,hu,hr⟩:=FD hT hH hx hy;obtain ⟨us,hus,hrs⟩:=rm hT hH rs xs ys hxs hys;refine ⟨u :: us,?_,LR.cons hr hrs⟩;simp only [Wx,Sem.run_bind,hu,Result.andThen_ok,hus,Sem.run_pure]
def Ap {fn:Func} {tmps:Array Value} {ars:List (Nat × Option (Option Nat))} {v:AV} (hT:LR μ F w T tmps.toList) (hH:HR P μ F H w) (hars:fn.results.toList.mapM (EN P)=some ars) (h:ck T H ars=some v) :
  ∃ u,(results fn tmps).run P w=.ok u w/\VR μ F w v u:=by
 simp only [ck,qh,bV] at h;obtain ⟨vs,hvs,h⟩:=h;obtain ⟨us,hus,hr⟩:=rm hT hH _ _ _ hars hvs;have hm:(fn.results.mapM fun | .tmp t=>pure (tmps.getD t undef) | .cell a t=>do loadVar t (<- asAddr (tmps.getD a undef)):Sem (Array Value)).run P w=.ok us.toArray w:=by
  rw [Zc];simp only [Sem.run_map,hus,Result.andThen_ok]
 have hres:(results fn tmps).run P w=.ok (if h:us.toArray.size=1 then us.toArray[0] else .tuple us.toArray) w:=by
  unfold results;simp only [Sem.run_bind];exact (congrArg (fun r:Result (Array Value)=>r.andThen fun a w'=>Sem.run P (pure (if h:a.size=1 then a[0] else Value.tuple a)) w') hm)
 refine ⟨_,hres,?_⟩;split at h
 ·cases h
  match us,hr with
  | [u],hr=>exact hr.head
  | [],hr=>have:=hr.1; simp at this
  | _ :: _ :: _,hr=>have:=hr.1; simp at this
 ·rename_i hne;cases h;have hl:=hr.1;have h1:us.toArray.size≠1:=by
   intro e;simp at e
   match vs,hl with
   | [v],_=>exact hne v rfl
   | [],hl=>simp at hl; omega
   | _ :: _ :: _,hl=>simp at hl; omega
  rw [dif_neg h1];exact .tup _ _ (by simpa using hl) fun i c u hc hu=>hr.2 i c u hc (by simpa using hu)
def Je (hH:HR P μ F H w) {D:Nat} {o:Obj} (hF:¬ F D) (hn:∀ b L,μ b=some L->L.blk≠D):HR P μ F H (w.putObj D o):=by
 have hw:∀ c,c≠D->(w.putObj D o).heap[c]? = w.heap[c]?:=fun c hc=>World.putObj_heap_other hc;have hsz:(w.putObj D o).heap.size=w.heap.size:=by simp [World.putObj]
 refine ⟨fun b L hb=>?_,fun c hc=>?_,fun b e hb=>?_,hH.inj,fun g cs hg=>(hH.gl g cs hg).mono (fun _ _ h=>h) (fun _ h=>h) fun c hc=>hw c fun e=>hF (e ▸ hc)⟩
 ·rw [hsz]; exact hH.dom b L hb
 ·rw [hsz]; exact hH.fb c hc
 ·obtain ⟨L,hL,hE⟩:=hH.ent b e hb;exact ⟨L,hL,hE.mono (fun _ _ h=>h) (fun _ h=>h) (fun c hc=>hw c fun e=>hF (e ▸ hc)) (hw _ (hn b L hL)) (fun hr=>hE.notF hr)⟩
def tq {fn:Func} {tmps:Array Value} {ars:List (Nat × Option (Option Nat))} {v:AV} {μ0:Mu} {H0:Heap} {w0:World} (n:Nat) (hars:fn.results.toList.mapM (EN P)=some ars) (hv:ck T H ars=some v) :
  ∀ (Ds:List Nat) (w:World),Ds.Nodup->(∀ D∈Ds,w0.heap.size<=D/\D<w.heap.size/\w.heap[D]? = some (.deferred (some []))/\¬ F D/\∀ b L,μ b=some L->L.blk≠D) ->
   LR μ F w T tmps.toList->HR P μ F H w->Stp qZ P μ0 F H0 w0 μ F H w ->
   LeavesInM Fence.wide n P fn tmps (fun e w'=>∃ u,e=.returned u/\∃ μ',ie qZ P μ0 F H0 w0 v H u w' μ') (Ds.map fun D=>{ target:=.collected D,args:=#[] }) .returning w
 | [],w,_,_,hT,hH,hS=>by
  obtain ⟨u,hu,hr⟩:=Ap hT hH hars hv;exact ⟨u,hu,u,rfl,μ,hr,hH,hS⟩
 | D :: Ds,w,hnd,hD,hT,hH,hS=>by
  obtain ⟨g1,g2,g3,g4,g5⟩:=hD D (N0 ..);have hnd:=XB.1 hnd;have hw:∀ c,c≠D->(w.putObj D (.deferred none)).heap[c]? = w.heap[c]?:=fun c hc=>World.putObj_heap_other hc;have hsz:(w.putObj D (.deferred none)).heap.size=w.heap.size:=by simp [World.putObj]
  refine ⟨fun e=>(by cases e),.inl ⟨D,_,rfl,run_takeDeferred g3,?_⟩⟩;refine tq n hars hv Ds _ hnd.2 (fun D' hD'=>?_) (hT.mono (fun _ _ h=>h) (fun _ h=>h) fun c hc=>hw c fun e=>g4 (e ▸ hc)) (Je hH g4 g5) ?_
  ·obtain ⟨k1,k2,k3,k4,k5⟩:=hD D' (Ct _ hD');exact ⟨k1,by rw [hsz]; exact k2,by rw [hw D' fun e=>hnd.1 (e ▸ hD')]; exact k3,k4,k5⟩
  ·exact ⟨hS.mu,hS.fr,by rw [hsz]; exact hS.size,fun c hc hn=>by rw [hw c zO]; exact hS.keep c hc hn,hS.rw,hS.next,hS.new,hS.rng,hS.old,hS.alv,hS.tape.trans (Tp.same rfl rfl),hS.os,hS.out⟩
def B2 {μ:Mu} {F:Nat->Prop} {w:World} (n:Nat):LR μ F w (List.replicate n .undef) (List.replicate n undef):=by
 induction n with
 | zero=>exact LR.nil
 | succ n ih=>exact LR.cons (.undef _) ih
def pi {cal:m6} (hcal:mC P cal) (hmix:P.follows .mixedOrders=true) {m:Nat} {f:Nat} {fn:Func} {afn:aw} {args:List AV} {v:AV} {H':Heap} (hf:P.funcs[f]? = some fn) (hb:fn.body.isSome=true) (hb2:∀ c,fn.body=some c->bw P c=some afn.body)
  (hars:fn.results.toList.mapM (EN P)=some afn.results) (hnt:afn.ntmps=fn.ntmps)
  (h:yo cal m afn args H=some (v,H')) {vs:List Value} (hvs:LR μ F w args vs) (hH:HR P μ F H w) (n:Nat) {fence:Fence} {rd:Bool} (hF:FenceOK fence rd) :
  CallsIn fence n P f vs.toArray w fun e w'=>∃ u,e=.returned u/\∃ μ',ie qZ P μ F H w v H' u w' μ':=by
 have key:CallsIn Fence.wide n P f vs.toArray w fun e w'=>∃ u,e=.returned u/\∃ μ',ie qZ P μ F H w v H' u w' μ':=by
  obtain ⟨c,hc⟩:=Yh.1 hb;unfold yo at h;split at h
  ·have hstart:Ko P (w.heap.size,[]) μ F H w (args++List.replicate (afn.ntmps-args.length) .undef) { tmps:=vs.toArray++Array.replicate (fn.ntmps-vs.toArray.size) undef,defers:=[] }:=by
    refine ⟨?_,hH,DM.nil⟩;have hl:=hvs.1;simp only [ZR,Array.toList_replicate,Xv];rw [<- hl,hnt];exact hvs.append (B2 _)
   refine callsIn_of_wp_marks hf hc trivial ?_;have fin:∀ (x:Ex) (T1:Tm) (H1:Heap),(x=.nrm\/x=.ret)->aI cal m false afn.body (args++List.replicate (afn.ntmps-args.length) .undef) H=some (x,T1,H1)->(ck T1 H1 afn.results).map (fun v=>(v,H1))=some (v,H') ->
     c.wpIn Fence.wide n P (bodyPostM Fence.wide n P fn fun e w'=>∃ u,e=.returned u/\∃ μ',ie qZ P μ F H w v H' u w' μ') { tmps:=vs.toArray++Array.replicate (fn.ntmps-vs.toArray.size) undef,defers:=[] } w:=by
    intro x T1 H1 hx hrun hres;simp only [Ai] at hres;obtain ⟨v',hv',hres⟩:=hres;cases hres;refine pY hcal hmix c afn.body (hb2 c hc) _ _ _ _ _ hrun Fence.wide n (w.heap.size,[]) μ F w _ _ (.inl ⟨rfl,rfl⟩) (wT _) hstart fun a' w' μ' hS' hst=>?_;obtain ⟨Ds,e1,e2,e3⟩:=hS'.hD;have e1:a'.defers=Ds.map (fun D=>({ target:=.collected D,args:=#[] }:Deferred)):=e1.trans (Wp _)
    have:=tq (tmps:=a'.tmps) (fn:=fn) n hars hv' Ds w' e2 e3 hS'.hT hS'.hH hst
    rw [<- e1] at this;rcases hx with rfl | rfl <;> exact this
   split at h
   ·rename_i T1 H1 hrun; exact fin .nrm T1 H1 (.inl rfl) hrun h
   ·rename_i T1 H1 hrun; exact fin .ret T1 H1 (.inr rfl) hrun h
   ·cases h
  ·cases h
 rcases hF with ⟨_,rfl⟩ | ⟨_,l,rfl⟩
 ·exact key
 ·exact key
def M3 (P:Program) (f:Nat) (e:Ext):Prop:=∀ H args v H',Ty H e args=some (v,H')->∀ (μ:Mu) (F:Nat->Prop) (w:World) (vs:List Value) (fence:Fence) (rd:Bool) (n:Nat),FenceOK fence rd->HR P μ F H w->LR μ F w args vs ->
 Runs fence n P ((callFunc f vs.toArray).run P w) fun u w'=>∃ μ',ie qZ P μ F H w v H' u w' μ'
def ExtOK (P:Program) (f:Nat):Ext->Prop
 | .sortF _ gs=>GJ P f gs
 | e=>M3 P f e
def ExtOK.old {P:Program} {f:Nat} {e:Ext} (h:ExtOK P f e) (hn:∀ ty gs,e ≠ .sortF ty gs):M3 P f e:=by
 cases e <;> first | exact h | exact absurd rfl (hn _ _)
def Id (P:Program) (tab:Nat->Option aw):Prop:=∀ f afn,tab f=some afn->(∀ e,afn.ext=some e->ExtOK P f e)/\((∀ e,afn.ext=some e->e.code=true)->∃ fn,P.funcs[f]? = some fn/\Qw P fn=some afn)
def CK {fn:Func} {afn:aw} (h:Qw P fn=some afn) (he:afn.ext=none):fn.body.isSome=true ∧ (∀ c,fn.body=some c → bw P c=some afn.body) ∧ fn.results.toList.mapM (EN P)=some afn.results ∧ afn.ntmps=fn.ntmps ∧ fn.name ≠ "runtime.NumGoroutine":=by
 unfold Qw at h;split at h
 ·cases h; cases he
 split at h
 ·cases h; cases he
 split at h
 ·simp only [qh,bV] at h;obtain ⟨t,ht,d,hd,h⟩:=h;split at h
  ·simp only [bV] at h;obtain ⟨n,hn,b,hb,h⟩:=h;cases h; cases he
  ·cases h
 ·simp only [qh,bV] at h;obtain ⟨b,hb,h⟩:=h;split at h
  ·cases h
  ·rename_i hnm;simp only [bV] at h;obtain ⟨rs,hrs,c,hc,h⟩:=h;cases h;exact ⟨by simp [hb],fun c' hc'=>by rw [hb] at hc'; cases hc'; exact hc,hrs,rfl,hnm⟩
def Dr {μ:Mu} {F:Nat->Prop} {w:World}:∀ (ps:List Nat) (args:List AV) (vs:List Value) (T:Tm) (tm:Array Value),LR μ F w args vs->LR μ F w T tm.toList ->
  LR μ F w (np T (ps.zip args)) ((ps.zip vs).foldl (fun (t:Array Value) (p:Nat × Value)=>t.setIfInBounds p.1 p.2) tm).toList
 | [],args,vs,T,tm,_,h=>by simpa [np] using h
 | p :: ps,[],[],T,tm,_,h=>by simpa [np] using h
 | p :: ps,[],_ :: _,T,tm,h,_=>by have:=h.1; simp at this
 | p :: ps,_ :: _,[],T,tm,h,_=>by have:=h.1; simp at this
 | p :: ps,a :: args,v :: vs,T,tm,hl,h=>by
  simp only [List.zip_cons_cons,np,WH];exact Dr ps args vs _ _ hl.tail (by rw [X9]; exact h.set p hl.head)
def qQ {f:Nat} {fn:Func} (hf:P.funcs[f]? = some fn) (hb:fn.body.isSome=true) (hn:fn.name ≠ "runtime.NumGoroutine") (args:Array Value) (w:World):(callFunc f args).run P w=.ok (.enter f args) w:=by
 obtain ⟨c,hc⟩:=Yh.1 hb;simp [callFunc,hf,hn,hc]
structure Shut (Ds:List Nat) (w w':World):Prop where
 other:∀ c,c ∉ Ds->w'.heap[c]? = w.heap[c]?
 size:w'.heap.size=w.heap.size
 tape:Tp w w'
 os:w'.os=w.os
 out:w'.output=w.output
def Shut.nil (w:World):Shut [] w w:=⟨fun _ _=>rfl,rfl,Tp.same rfl rfl,rfl,rfl⟩
def Shut.cons {D:Nat} {Ds:List Nat} {w w':World} (h:Shut Ds (w.putObj D (.deferred none)) w'):Shut (D :: Ds) w w' :=
 ⟨fun c hc=>(h.other c fun hm=>hc (Ct _ hm)).trans (World.putObj_heap_other fun e=>hc (e ▸ N0 ..)),h.size.trans (by simp [World.putObj]),(Tp.same rfl rfl).trans h.tape,h.os,h.out⟩
def Shut.hr {Ds:List Nat} {w w':World} (h:Shut Ds w w') (hH:HR P μ F H w) (hD:∀ D∈Ds,¬ F D/\∀ b L,μ b=some L->L.blk≠D):HR P μ F H w':=by
 have hF:∀ c,F c->w'.heap[c]? = w.heap[c]?:=fun c hc=>h.other c fun hm=>(hD c hm).1 hc;refine ⟨fun b L hb=>?_,fun c hc=>?_,fun b e hb=>?_,hH.inj,fun g cs hg=>(hH.gl g cs hg).mono (fun _ _ h=>h) (fun _ h=>h) hF⟩
 ·rw [h.size]; exact hH.dom b L hb
 ·rw [h.size]; exact hH.fb c hc
 ·obtain ⟨L,hL,hE⟩:=hH.ent b e hb;exact ⟨L,hL,hE.mono (fun _ _ h=>h) (fun _ h=>h) hF (h.other _ fun hm=>(hD _ hm).2 b L hL rfl) (fun hr=>hE.notF hr)⟩
def Shut.lr {Ds:List Nat} {w w':World} {as:List AV} {vs:List Value} (h:Shut Ds w w') (hl:LR μ F w as vs) (hD:∀ D∈Ds,¬ F D):LR μ F w' as vs :=
 hl.mono (fun _ _ h=>h) (fun _ h=>h) fun c hc=>h.other c fun hm=>hD c hm hc
def Shut.stp {Ds:List Nat} {w0 w w':World} {μ0:Mu} {H0:Heap} (h:Shut Ds w w') (hS:Stp qZ P μ0 F H0 w0 μ F H w) (hD:∀ D∈Ds,w0.heap.size<=D):Stp qZ P μ0 F H0 w0 μ F H w' :=
 ⟨hS.mu,hS.fr,by rw [h.size]; exact hS.size,fun c hc hn=>(h.other c fun hm=>by have:=hD c hm; omega).trans (hS.keep c hc hn),hS.rw,hS.next,hS.new,hS.rng,hS.old,hS.alv,hS.tape.trans h.tape,h.os.trans hS.os,h.out.trans hS.out⟩
def Dj {tab:Nat->Option aw} {m:Nat} (hmix:P.follows .mixedOrders=true) (htab:Id P tab) {cal:m6} {pc:Kh} (hpc:GK P pc) (ih:mC P cal):mC P (jq tab pc cal m):=by
 intro t H v H' h μ F w vs fence rd k hF hH hl hround;cases t with
 | fn f args =>
  simp only [jq] at h;split at h
  ·cases h
  ·rename_i afn hafn;obtain ⟨t1,t2⟩:=htab f afn hafn;refine ⟨fun f args e=>(by cases e),?_⟩;split at h
   ·rename_i ty gs he;exact De ih (t1 _ he) h hF hH hl k
   ·rename_i e hn he;exact (t1 e he).old hn H args v H' h μ F w vs fence rd k hF hH hl
   ·rename_i he;obtain ⟨fn,hfn,hcf⟩:=t2 fun e h=>by rw [he] at h; cases h
    obtain ⟨k1,k2,k3,k4,k5⟩:=CK hcf he;simp only [SQ,qQ hfn k1 k5,Runs];exact pi ih hmix hfn k1 k2 k3 k4 h hl hH k hF
 | ent f args =>
  simp only [jq] at h;split at h
  ·cases h
  ·rename_i afn hafn;obtain ⟨t1,t2⟩:=htab f afn hafn;split at h
   ·cases h
   ·rename_i he;obtain ⟨fn,hfn,hcf⟩:=t2 fun e h=>by rw [he] at h; cases h
    obtain ⟨k1,k2,k3,k4,k5⟩:=CK hcf he;refine ⟨fun f' args' e=>by cases e; exact qQ hfn k1 k5 _ _,?_⟩;simp only [SQ,qQ hfn k1 k5,Runs];exact pi ih hmix hfn k1 k2 k3 k4 h hl hH k hF
 | round b args =>
  refine ⟨fun f args e=>(by cases e),?_⟩;obtain ⟨L,hL⟩:=hround b args rfl;simp only [jq] at h;split at h
  ·rename_i T0 ps asg body hb;split at h
   ·rename_i hlen;obtain ⟨L',hL',hE⟩:=hH.ent b _ hb;rw [hL] at hL'; cases hL';obtain ⟨hnF,r,g1,g2,g3,g4,g5,g6,g7⟩:=hE;have hpend:r.pending=none:=by
     cases hp:r.pending with
     | none=>rfl
     | some c=>rw [hp] at g7; exact g7.elim
    have hargs:vs.toArray.size=r.params.size:=by
     have h1:=hl.1;simp only [Task.args] at h1;have h2:r.params.size=ps.length:=by rw [<- g4]; simp
     simp; omega
    simp only [SQ,hL,run_yield g1 hargs,Runs];split at h
    ·rename_i T1 H1 hasg;split at h
     ·rename_i T00 ps00 asg00 body00 hb1;split at h
      ·rename_i x T2 H2 hbody;split at h
       ·rename_i T3 ps3 asg3 body3 hb2;have key:RoundIn Fence.wide k P L.blk r.fn ((r.params.zip vs.toArray).foldl (fun tmps (t,a)=>tmps.setIfInBounds t a) r.tmps) r.assign r.body w fun e w'=>∃ u,e=.returned u/\∃ μ',ie qZ P μ F H w v H' u w' μ':=by
         have hfold:((r.params.zip vs.toArray).foldl (fun tmps (t,a)=>tmps.setIfInBounds t a) r.tmps)=(ps.zip vs).foldl (fun (t:Array Value) (p:Nat × Value)=>t.setIfInBounds p.1 p.2) r.tmps:=by
          rw [<- ZZ,Array.toList_zip,g4]
         rw [hfold];refine roundIn_of_wpIn trivial ?_;have hst0:Ko P (w.heap.size,[]) μ F H w (np T0 (ps.zip args)) { tmps:=(ps.zip vs).foldl (fun (t:Array Value) (p:Nat × Value)=>t.setIfInBounds p.1 p.2) r.tmps,defers:=[] } :=
          ⟨Dr ps args vs T0 r.tmps hl g3,hH,DM.nil⟩
         refine pY ih hmix r.assign asg g5 _ _ _ _ _ hasg (Fence.wide.inRound L.blk) k (w.heap.size,[]) μ F w _ _ (.inr ⟨rfl,_,rfl⟩) (wT _) hst0 fun a1 w1 μ1 hS1 hst1=>?_;obtain ⟨L1,hL1,hE1⟩:=hS1.hH.ent b _ hb1;rw [hst1.mu _ _ hL] at hL1; cases hL1;obtain ⟨hnF1,r1,q1,q2,q3,q4,q5,q6,q7⟩:=hE1;have hlt1:=(V4.1 q1).1;refine ⟨_,run_beginRound q1 q2,?_⟩;obtain ⟨hP1,hP2⟩:=iC (I:=qZ) (e:=.loop T00 ps00 asg00 body00 .busy none) hS1.hH hb1 rfl (hst1.mu _ _ hL) (w1.putObj L.blk (.loop { r1 with state:=.busy })) (fun c hc=>World.putObj_heap_other hc) (by simp [World.putObj]) (Tp.same rfl rfl) rfl rfl
          (fun hw=>⟨hnF1,_,World.putObj_heap_same hlt1,rfl,q3.mono (fun _ _ h=>h) (fun _ h=>h) hw,q4,q5,q6,q7⟩) rfl
         have hS1':Ko P (w.heap.size,[]) μ1 F (H1.put b (.loop T00 ps00 asg00 body00 .busy none)) (w1.putObj L.blk (.loop { r1 with state:=.busy })) T1 a1:=⟨hP2.lr hS1.hH hS1.hT,hP1,hS1.hD.stp hP2⟩
         refine pY ih hmix r.body body g6 _ _ _ _ _ hbody (Fence.wide.inRound L.blk) k (w.heap.size,[]) μ1 F _ _ _ (.inr ⟨rfl,_,rfl⟩) (Oc hst1.size hP2.size) hS1' fun a2 w2 μ2 hS2 hst2=>?_;obtain ⟨L2,hL2,hE2⟩:=hS2.hH.ent b _ hb2;rw [hst2.mu _ _ (hst1.mu _ _ hL)] at hL2; cases hL2;obtain ⟨hnF2,r2,s1,s2,s3,s4,s5,s6,s7⟩:=hE2;have hlt2:=(V4.1 s1).1;have fin:∀ (jump:Option Code) (st:LoopState) (pe:Option ACode) (bv:Bool),(if jump.isNone then LoopState.ready else .done)=st->jump.isNone=bv->(match pe,jump with | none,none=>True | some c,some c'=>bw P c'=some c | _,_=>False) ->
           some (AV.bool bv,H2.put b (.loop T3 ps3 asg3 body3 st pe))=some (v,H') ->
           ∃ u w',(Instr.endRound L.blk jump).run P w2=.ok u w'/\∃ u',Ending.returned u=.returned u'/\∃ μ',ie qZ P μ F H w v H' u' w' μ':=by
          intro jump st pe bv e1 e2 e3 e4;cases e4;subst e2;refine ⟨_,_,run_endRound jump s1,_,rfl,μ2,?_⟩;obtain ⟨z1,z2⟩:=iC (I:=qZ) (e:=.loop T3 ps3 asg3 body3 st pe) hS2.hH hb2 rfl (hst2.mu _ _ (hst1.mu _ _ hL)) (w2.putObj L.blk (.loop { r2 with state:=if jump.isNone then .ready else .done,pending:=jump })) (fun c hc=>World.putObj_heap_other hc) (by simp [World.putObj]) (Tp.same rfl rfl) rfl rfl
           (fun hw=>⟨hnF2,_,World.putObj_heap_same hlt2,e1,s3.mono (fun _ _ h=>h) (fun _ h=>h) hw,s4,s5,s6,e3⟩) rfl
          exact ⟨.bool _,z1,((hst1.trans hP2).trans hst2).trans z2⟩
         cases x with
         | nrm=>exact fin none .ready none true rfl rfl trivial h
         | ret=>exact fin (some .ret) .done (some .ret) false rfl rfl rfl h
         | exit id=>exact fin (some (.exit id)) .done (some (.exit id)) false rfl rfl rfl h
         | goto g=>exact fin (some (.goto g)) .done (some (.goto g)) false rfl rfl rfl h
        rcases hF with ⟨_,rfl⟩ | ⟨_,l,rfl⟩
        ·exact key
        ·exact key
       ·cases h
      ·cases h
     ·cases h
    ·cases h
   ·cases h
  ·cases h
def yp {tab:Nat->Option aw} {m:Nat} {pc:Kh} (hpc:GK P pc) (hmix:P.follows .mixedOrders=true) (htab:Id P tab):∀ n,mC P (kD tab pc m n)
 | 0=>fun t H v H' h=>by cases h
 | n+1=>Dj hmix htab hpc (yp hpc hmix htab n)
end
section
variable {α:Type} (Good:Nat->α->Prop)
def G0 (f:Nat):Option α->Prop
 | none=>True
 | some a=>Good f a
def G1 (f:Nat) (q:Q (Option α)):Prop:=G0 Good (8*f) q.a/\G0 Good (8*f+1) q.b/\G0 Good (8*f+2) q.c/\G0 Good (8*f+3) q.d/\G0 Good (8*f+4) q.e/\G0 Good (8*f+5) q.f/\G0 Good (8*f+6) q.g/\G0 Good (8*f+7) q.h
def G2 (f:Nat) (q:Q (Q (Option α))):Prop:=G1 Good (8*f) q.a/\G1 Good (8*f+1) q.b/\G1 Good (8*f+2) q.c/\G1 Good (8*f+3) q.d/\G1 Good (8*f+4) q.e/\G1 Good (8*f+5) q.f/\G1 Good (8*f+6) q.g/\G1 Good (8*f+7) q.h
def G3 (f:Nat) (q:Q (Q (Q (Option α)))):Prop:=G2 Good (8*f) q.a/\G2 Good (8*f+1) q.b/\G2 Good (8*f+2) q.c/\G2 Good (8*f+3) q.d/\G2 Good (8*f+4) q.e/\G2 Good (8*f+5) q.f/\G2 Good (8*f+6) q.g/\G2 Good (8*f+7) q.h
def G4 (f:Nat) (q:Q (Q (Q (Q (Option α))))):Prop:=G3 Good (8*f) q.a/\G3 Good (8*f+1) q.b/\G3 Good (8*f+2) q.c/\G3 Good (8*f+3) q.d/\G3 Good (8*f+4) q.e/\G3 Good (8*f+5) q.f/\G3 Good (8*f+6) q.g/\G3 Good (8*f+7) q.h
variable {Good}
end
def Tr.nil_get0 (b:Nat):Tr.nil.get b=none:=by
 have:∀ {α:Type} (d:D8) (x:α),Q.at d (Q.all x)=x:=fun d x=>by cases d <;> rfl
 unfold Tr.get Tr.nil;cases Nat.ble b 16777215 with
 | false=>rfl
 | true=>simp only [this]
def Tr.nil_get (n b:Nat):Heap.get (Heap.nil n) b=none:=by
 have h:Nat.ble (Nat.succ b) 0=false:=rfl;unfold Heap.nil Heap.get;simp only [h];exact Tr.nil_get0 b
def E5 (P:Program) (f:Nat) (afn:aw):Prop:=(∀ e,afn.ext=some e->ExtOK P f e)/\((∀ e,afn.ext=some e->e.code=true)->∃ fn,P.funcs[f]? = some fn/\Qw P fn=some afn)
def Le {P:Program} {f:Nat} {fn:Func} {afn:aw} (hf:P.funcs[f]? = some fn) (hc:Qw P fn=some afn) (he:afn.ext.isNone=true):E5 P f afn:=by
 refine ⟨fun e h=>?_,fun _=>⟨fn,hf,hc⟩⟩;rw [h] at he; cases he
def qE {P:Program} {f:Nat} {afn:aw} {e:Ext} (he:afn.ext=some e) (hx:e.code=false) (h:ExtOK P f e):E5 P f afn:=by
 refine ⟨fun e' h'=>?_,fun h'=>?_⟩
 ·rw [he] at h'; cases h'; exact h
 ·have:=h' e he; rw [hx] at this; cases this
def BU:Array Value->Sem Value:=fun args=>do
 let (x,y,b) ← Extern.MathBitsCarry.three "Sub64" args
 pure (Extern.MathBitsCarry.pair ((x+Extern.MathBitsCarry.m64-y-b) % Extern.MathBitsCarry.m64) (if x<y+b then 1 else 0))
def Di {P:Program} (x y b:Nat) (hb:b<=1) (w:World) :
  (BU #[.int .u64 x,.int .u64 y,.int .u64 b]).run P w =
   .ok (.tuple #[.int .u64 (((x+18446744073709551616-y-b) % 18446744073709551616:Nat):Int),.int .u64 ((if x<y+b then 1 else 0:Nat):Int)]) w:=by
 have:b=0\/b=1:=zO
 rcases this with rfl | rfl <;> rfl
def xY {μ:Mu} {F:Nat->Prop} {w:World} {vs:List Value} {a b c:Int} {k1 k2 k3:IntKind} (h:LR μ F w [.int k1 a,.int k2 b,.int k3 c] vs):vs=[.int k1 a,.int k2 b,.int k3 c]:=by
 have hl:=h.1
 match vs,hl with
 | [x,y,z],_ =>
  have h1:=h.2 0 _ x rfl rfl;have h2:=h.2 1 _ y rfl rfl;have h3:=h.2 2 _ z rfl rfl;cases h1; cases h2; cases h3; rfl
def A9 {P:Program} {μ:Mu} {F:Nat->Prop} {H:Heap} {w:World} {v:AV} {u:Value} (hH:HR P μ F H w) (hv:VR μ F w v u):ie qZ P μ F H w v H u w μ :=
 ⟨hv,hH,Stp.refl _ _ _ _ _ _⟩
def OP {H H':Heap} {args:List AV} {v:AV} (h:Ty H .add64 args=some (v,H')):∃ x y c:Nat,args=[.int .u64 (.ofNat x),.int .u64 (.ofNat y),.int .u64 (.ofNat c)]/\c<=1/\v=.tup [.int .u64 (.ofNat ((x+y+c) % 2^64)),.int .u64 (.ofNat ((x+y+c) / 2^64))]/\H'=H:=by
 unfold Ty at h;split at h
 all_goals first | contradiction | skip
 ·split at h
  ·rename_i x y c _ hc;cases h;exact ⟨x,y,c,rfl,hc,rfl,rfl⟩
  ·cases h
 all_goals cases h
def NN {H H':Heap} {args:List AV} {v:AV} (h:Ty H .sub64 args=some (v,H')):∃ x y c:Nat,args=[.int .u64 (.ofNat x),.int .u64 (.ofNat y),.int .u64 (.ofNat c)]/\c<=1/\v=.tup [.int .u64 (.ofNat ((x+2^64-y-c) % 2^64)),.int .u64 (.ofNat (if x<y+c then 1 else 0))]/\H'=H:=by
 unfold Ty at h;split at h
 all_goals first | contradiction | skip
 ·split at h
  ·rename_i x y c _ hc;cases h;exact ⟨x,y,c,rfl,hc,rfl,rfl⟩
  ·cases h
 all_goals cases h
def He {μ:Mu} {F:Nat->Prop} {w:World} (a b:Int):VR μ F w (.tup [.int .u64 a,.int .u64 b]) (.tuple #[.int .u64 a,.int .u64 b]):=by
 refine .tup _ _ rfl fun i c' u hi hu=>?_
 have:i=0\/i=1\/2<=i:=zO
 rcases this with rfl | rfl | h2
 ·simp at hi hu; subst hi; subst hu; exact .int _ _
 ·simp at hi hu; subst hi; subst hu; exact .int _ _
 ·rw [VC (by simpa using h2)] at hi; cases hi
def Ei {P:Program} {f:Nat} {fn:Func} (hf:P.funcs[f]? = some fn) (h1:(fn.name == "runtime.NumGoroutine")=false) (h2:fn.body.isNone=true) (h3:Extern.findNext fn=none) (h4:Extern.find fn=some add64Entry):ExtOK P f .add64:=by
 intro H args v H' h μ F w vs fence rd n hF hH hl;obtain ⟨x,y,c,rfl,hc,rfl,rfl⟩:=OP h
 have:=xY hl
 subst this;have key:(add64Entry #[.int .u64 (.ofNat x),.int .u64 (.ofNat y),.int .u64 (.ofNat c)]).run P w=.ok (.tuple #[.int .u64 (.ofNat ((x+y+c) % 2^64)),.int .u64 (.ofNat ((x+y+c) / 2^64))]) w:=by
  refine (run_add64 (x:Int) (y:Int) (c:Int) zO zO zO zO w).trans ?_;have e1:((x:Int)+y+c) % 18446744073709551616=Int.ofNat ((x+y+c) % 2^64):=by rw [ZH]; omega
  have e2:((x:Int)+y+c) / 18446744073709551616=Int.ofNat ((x+y+c) / 2^64):=by rw [ZH]; omega
  rw [e1,e2]
 rw [run_callFunc_extern hf h1 h2 h3 h4,key];exact ⟨μ,A9 hH (He _ _)⟩
def Eh {P:Program} {f:Nat} {fn:Func} (hf:P.funcs[f]? = some fn) (h1:(fn.name == "runtime.NumGoroutine")=false) (h2:fn.body.isNone=true) (h3:Extern.findNext fn=none) (h4:Extern.find fn=some BU):ExtOK P f .sub64:=by
 intro H args v H' h μ F w vs fence rd n hF hH hl;obtain ⟨x,y,c,rfl,hc,rfl,rfl⟩:=NN h
 have:=xY hl
 subst this;have key:(BU #[.int .u64 (.ofNat x),.int .u64 (.ofNat y),.int .u64 (.ofNat c)]).run P w=.ok (.tuple #[.int .u64 (.ofNat ((x+2^64-y-c) % 2^64)),.int .u64 (.ofNat (if x<y+c then 1 else 0))]) w :=
  Di x y c hc w
 rw [run_callFunc_extern hf h1 h2 h3 h4,key];exact ⟨μ,A9 hH (He _ _)⟩
def GlobW (w:World):Prop:=∀ g cs,Kk g=some cs->VR (fun _=>none) (fun c=>(Kk c).isSome=true) w (.dp cs 0) (.pointer (some ⟨g,0,none⟩))
def Li {P:Program} {w:World} (hG:GlobW w):HR P (fun _=>none) (fun c=>(Kk c).isSome=true) (Heap.nil 0) w:=by
 refine ⟨fun b L h=>(by cases h),fun c h=>?_,fun b e h=>?_,fun b b' e e' L L' h=>?_,hG⟩
 ·cases hc:Kk c with
  | none=>rw [hc] at h; cases h
  | some cs =>
   have:=hG c cs hc
   cases this with
   | dp _ _ _ _ _ _ _ _ hb _ _=>exact (V4.1 hb).1
 ·rw [Tr.nil_get] at h; cases h
 ·rw [Tr.nil_get] at h; cases h
def eS:Kh:=fun _ _=>none
def Sp (tab:Nat->Option aw) (t:Task) (H:Heap) (v:AV) (H':Heap):Prop:=∃ N,∀ m n,N<=m->N<=n->kD tab eS m n t H=some (v,H')
def Ans (tab:Nat->Option aw) (t:Task) (H:Heap) (Q:AV->Heap->Prop):Prop:=∃ v H',Sp tab t H v H'/\Q v H'
def M4 (tab:Nat->Option aw) (rd:Bool) (c:ACode) (T:Tm) (H:Heap) (x:Ex) (T':Tm) (H':Heap):Prop:=∃ N,∀ m n,N<=m->N<=n->aI (kD tab eS m n) m rd c T H=some (x,T',H')
def Ans.mono {tab:Nat->Option aw} {t:Task} {H:Heap} {Q Q':AV->Heap->Prop} (h:Ans tab t H Q) (hq:∀ v H',Q v H'->Q' v H'):Ans tab t H Q':=by
 obtain ⟨v,H',hb,h⟩:=h;exact ⟨v,H',hb,hq v H' h⟩
section
variable (tab:Nat->Option aw)
def iq (ev:Src->AV) (H:Heap) (id:Nat) (o:AOp) (Q:AV->Heap->Prop):Prop :=
 match o with
 | .call f args=>∃ t,ir (ev f) (args.map ev)=some t/\Ans tab t H Q
 | o=>match aM ev o with
  | some v=>Q v H
  | none=>match aZ ev H id o with
   | some (v,H')=>Q v H'
   | none=>False
def vT:Nat->List CT->Tm->Heap->(Tm->Heap->Prop)->Prop
 | _,[],T,H,Q=>Q T H
 | id,o :: os,T,H,Q =>
  match y6 T o.guard with
  | some true=>iq tab (Src.ev T) H id o.op fun v H'=>vT (id+1) os (putT T o.dst v) H' Q
  | some false=>vT (id+1) os (putT T o.dst (.tup [])) H Q
  | none=>False
def rN (rd:Bool):ACode->Tm->Heap->(Ex->Tm->Heap->Prop)->Prop
 | .skip,T,H,Q=>Q .nrm T H
 | .region ops,T,H,Q=>vT tab H.next ops T { H with next:=H.next+ops.length } (Q .nrm)
 | .seq a b,T,H,Q=>rN rd a T H fun x T' H'=>match x with
  | .nrm=>rN rd b T' H' Q
  | x=>Q x T' H'
 | .cond c a b,T,H,Q=>match c.ev T with
  | .bool true=>rN rd a T H Q
  | .bool false=>rN rd b T H Q
  | _=>False
 | .block id body,T,H,Q=>rN rd body T H fun x T' H'=>match x with
  | .exit id'=>if id'=id then Q .nrm T' H' else Q (.exit id') T' H'
  | x=>Q x T' H'
 | .exit id,T,H,Q=>Q (.exit id) T H
 | .goto l,T,H,Q=>Q (.goto l) T H
 | .ret,T,H,Q=>Q .ret T H
 | .scope a,T,H,Q=>rN rd a T H fun x T' H'=>match x with
  | .goto _=>False
  | x=>Q x T' H'
 | c,T,H,Q=>∃ x T' H',M4 tab rd c T H x T' H'/\Q x T' H'
end
section
variable {tab:Nat->Option aw}
def kX {T:Tm} {H:Heap} {id:Nat} {o:AOp} {Q:AV->Heap->Prop} (h:iq tab (Src.ev T) H id o Q):∃ v H',Q v H'/\∃ N,∀ m n,N<=m->N<=n->yB (kD tab eS m n) (Src.ev T) H id o=some (v,H'):=by
 have other:∀ (hc:∀ f args,o ≠ .call f args) (h:match aM (Src.ev T) o with | some v=>Q v H | none=>match aZ (Src.ev T) H id o with | some (v,H')=>Q v H' | none=>False),
   (∀ cal,yB cal (Src.ev T) H id o=match aM (Src.ev T) o with | some v=>some (v,H) | none=>aZ (Src.ev T) H id o)->∃ v H',Q v H'/\∃ N,∀ m n,N<=m->N<=n->yB (kD tab eS m n) (Src.ev T) H id o=some (v,H'):=by
  intro hc h e;split at h
  ·rename_i v hv;refine ⟨v,H,h,0,fun m n _ _=>?_⟩;rw [e,hv]
  ·rename_i hv;split at h
   ·rename_i v H' hh;refine ⟨v,H',h,0,fun m n _ _=>?_⟩;rw [e,hv]; exact hh
   ·exact h.elim
 cases o
 case call f args =>
  obtain ⟨t,ht,v,H',⟨N,hN⟩,hq⟩:=h;refine ⟨v,H',hq,N,fun m n hm hn=>?_⟩;simp only [yB,ht,qh,Wj];exact hN m n hm hn
 all_goals exact other (fun f args e=>by cases e) h (fun cal=>rfl)
def oZ:∀ (ops:List CT) (id:Nat) (T:Tm) (H:Heap) (Q:Tm->Heap->Prop),vT tab id ops T H Q->∃ T' H',Q T' H'/\∃ N,∀ m n,N<=m->N<=n->xu (kD tab eS m n) id ops T H=some (T',H')
 | [],id,T,H,Q,h=>⟨T,H,h,0,fun _ _ _ _=>rfl⟩
 | o :: os,id,T,H,Q,h=>by
  unfold vT at h;split at h
  ·rename_i hw;obtain ⟨v,H1,h1,N1,g1⟩:=kX h;obtain ⟨T',H',hq,N2,g2⟩:=oZ os _ _ _ _ h1;refine ⟨T',H',hq,N1+N2,fun m n hm hn=>?_⟩;unfold xu;rw [hw];simp only;rw [g1 m n zO zO];exact g2 m n zO zO
  ·rename_i hw;obtain ⟨T',H',hq,N2,g2⟩:=oZ os _ _ _ _ h;refine ⟨T',H',hq,N2,fun m n hm hn=>?_⟩;unfold xu;rw [hw];exact g2 m n hm hn
  ·exact h.elim
def eC {rd:Bool}:∀ (c:ACode) (T:Tm) (H:Heap) (Q:Ex->Tm->Heap->Prop),rN tab rd c T H Q->∃ x T' H',M4 tab rd c T H x T' H'/\Q x T' H'
 | .skip,T,H,Q,h=>⟨.nrm,T,H,⟨0,fun _ _ _ _=>rfl⟩,h⟩
 | .exit id,T,H,Q,h=>⟨.exit id,T,H,⟨0,fun _ _ _ _=>rfl⟩,h⟩
 | .goto l,T,H,Q,h=>⟨.goto l,T,H,⟨0,fun _ _ _ _=>rfl⟩,h⟩
 | .ret,T,H,Q,h=>⟨.ret,T,H,⟨0,fun _ _ _ _=>rfl⟩,h⟩
 | .region ops,T,H,Q,h=>by
  obtain ⟨T',H',hq,N,g⟩:=oZ ops _ _ _ _ h;refine ⟨.nrm,T',H',⟨N,fun m n hm hn=>?_⟩,hq⟩;simp only [aI,g m n hm hn]
 | .seq a b,T,H,Q,h=>by
  obtain ⟨x,T1,H1,⟨N1,g1⟩,h1⟩:=eC a _ _ _ h;by_cases hx:x=.nrm
  ·subst hx;obtain ⟨y,T2,H2,⟨N2,g2⟩,h2⟩:=eC b _ _ _ h1;refine ⟨y,T2,H2,⟨N1+N2,fun m n hm hn=>?_⟩,h2⟩;simp only [aI,g1 m n zO zO];exact g2 m n zO zO
  ·refine ⟨x,T1,H1,⟨N1,fun m n hm hn=>?_⟩,?_⟩
   ·simp only [aI,g1 m n hm hn]
    all_goals (cases x <;> first | rfl | exact absurd rfl hx)
   ·cases x <;> first | exact h1 | exact absurd rfl hx
 | .cond c a b,T,H,Q,h=>by
  unfold rN at h;split at h
  ·rename_i hc;obtain ⟨x,T1,H1,⟨N1,g1⟩,h1⟩:=eC a _ _ _ h;exact ⟨x,T1,H1,⟨N1,fun m n hm hn=>by simp only [aI,hc]; exact g1 m n hm hn⟩,h1⟩
  ·rename_i hc;obtain ⟨x,T1,H1,⟨N1,g1⟩,h1⟩:=eC b _ _ _ h;exact ⟨x,T1,H1,⟨N1,fun m n hm hn=>by simp only [aI,hc]; exact g1 m n hm hn⟩,h1⟩
  ·exact h.elim
 | .block id body,T,H,Q,h=>by
  obtain ⟨x,T1,H1,⟨N1,g1⟩,h1⟩:=eC body _ _ _ h;cases x with
  | exit id' =>
   simp only at h1;by_cases hi:id'=id
   ·rw [if_pos hi] at h1;exact ⟨.nrm,T1,H1,⟨N1,fun m n hm hn=>by simp only [aI,g1 m n hm hn,if_pos hi]⟩,h1⟩
   ·rw [if_neg hi] at h1;exact ⟨.exit id',T1,H1,⟨N1,fun m n hm hn=>by simp only [aI,g1 m n hm hn,if_neg hi]⟩,h1⟩
  | nrm=>exact ⟨_,T1,H1,⟨N1,fun m n hm hn=>by simp only [aI,g1 m n hm hn]⟩,h1⟩
  | goto l=>exact ⟨_,T1,H1,⟨N1,fun m n hm hn=>by simp only [aI,g1 m n hm hn]⟩,h1⟩
  | ret=>exact ⟨_,T1,H1,⟨N1,fun m n hm hn=>by simp only [aI,g1 m n hm hn]⟩,h1⟩
 | .scope a,T,H,Q,h=>by
  obtain ⟨x,T1,H1,⟨N1,g1⟩,h1⟩:=eC a _ _ _ h;cases x with
  | goto l=>exact h1.elim
  | nrm=>exact ⟨_,T1,H1,⟨N1,fun m n hm hn=>by simp only [aI,g1 m n hm hn]⟩,h1⟩
  | exit l=>exact ⟨_,T1,H1,⟨N1,fun m n hm hn=>by simp only [aI,g1 m n hm hn]⟩,h1⟩
  | ret=>exact ⟨_,T1,H1,⟨N1,fun m n hm hn=>by simp only [aI,g1 m n hm hn]⟩,h1⟩
 | .loop body,T,H,Q,h=>h
 | .rangeFunc ..,T,H,Q,h=>h
 | .draw ..,T,H,Q,h=>h
 | .drawF ..,T,H,Q,h=>h
 | .rangeM ..,T,H,Q,h=>h
 | .scopeL ..,T,H,Q,h=>h
def QC {f:Nat} {fn:aw} {args:List AV} {H:Heap} {Q:AV->Heap->Prop} (hf:tab f=some fn) (he:fn.ext=none) (hl:args.length=fn.nparams)
  (h:rN tab false fn.body (args++List.replicate (fn.ntmps-args.length) .undef) H fun x T' H'=>(x=.nrm\/x=.ret)/\∃ v,ck T' H' fn.results=some v/\Q v H'):Ans tab (.fn f args) H Q:=by
 obtain ⟨x,T',H',⟨N,g⟩,hx,v,hv,hq⟩:=eC _ _ _ _ h;refine ⟨v,H',⟨N+1,fun m n hm hn=>?_⟩,hq⟩;obtain ⟨n',rfl⟩:∃ n',n=n'+1:=⟨n-1,zO⟩
 show jq tab eS (kD tab eS m n') m (.fn f args) H=_;simp only [jq,hf,he,yo,if_pos hl];rw [g m n' zO zO];rcases hx with rfl | rfl <;> simp [hv]
def OO {f:Nat} {fn:aw} {args:List AV} {H:Heap} {Q:AV->Heap->Prop} (hf:tab f=some fn) (he:fn.ext=none) (hl:args.length=fn.nparams)
  (h:rN tab false fn.body (args++List.replicate (fn.ntmps-args.length) .undef) H fun x T' H'=>(x=.nrm\/x=.ret)/\∃ v,ck T' H' fn.results=some v/\Q v H'):Ans tab (.ent f args) H Q:=by
 obtain ⟨x,T',H',⟨N,g⟩,hx,v,hv,hq⟩:=eC _ _ _ _ h;refine ⟨v,H',⟨N+1,fun m n hm hn=>?_⟩,hq⟩;obtain ⟨n',rfl⟩:∃ n',n=n'+1:=⟨n-1,zO⟩
 show jq tab eS (kD tab eS m n') m (.ent f args) H=_;simp only [jq,hf,he,yo,if_pos hl];rw [g m n' zO zO];rcases hx with rfl | rfl <;> simp [hv]
def xG {f:Nat} {fn:aw} {e:Ext} {args:List AV} {H:Heap} {Q:AV->Heap->Prop} {v:AV} {H':Heap} (hf:tab f=some fn) (he:fn.ext=some e) (hc:e.code=false) (h:Ty H e args=some (v,H')) (hq:Q v H'):Ans tab (.fn f args) H Q:=by
 refine ⟨v,H',⟨1,fun m n hm hn=>?_⟩,hq⟩;obtain ⟨n',rfl⟩:∃ n',n=n'+1:=⟨n-1,zO⟩
 show jq tab eS (kD tab eS m n') m (.fn f args) H=_;simp only [jq,hf,he];cases e <;> first | exact h | (cases hc; done) | (exact absurd h (by unfold Ty; intro h; split at h <;> first | (rename_i q _; cases q; done) | (rename_i q; cases q; done) | (cases h; done)))
end
structure Sub (H H':Heap):Prop where
 next:H.next<=H'.next
 get:∀ b e,H.get b=some e->H'.get b=some e
def Wf (H:Heap):Prop:=∀ b e,H.get b=some e->b<H.next
def Sub.refl (H:Heap):Sub H H:=⟨wT _,fun _ _ h=>h⟩
def Sub.trans {H H' H'':Heap} (h:Sub H H') (h':Sub H' H''):Sub H H'':=⟨Oc h.next h'.next,fun b e hb=>h'.get b e (h.get b e hb)⟩
def Sub.bump (H:Heap) (k:Nat):Sub H { H with next:=H.next+k }:=⟨Vz _ _,fun _ _ h=>h⟩
def Sub.bump_r {H H':Heap} (h:Sub H H') (k:Nat):Sub H { H' with next:=H'.next+k }:=h.trans (Sub.bump H' k)
def Wf.bump {H:Heap} (h:Wf H) (k:Nat):Wf { H with next:=H.next+k }:=fun b e hb=>Vi (h b e hb) (Vz _ _)
def Wf.put {H:Heap} (h:Wf H) {b:Nat} (hb:b<H.next) (e:Ent):Wf (H.put b e):=fun c e' hc=>by
 rw [Heap.get_put] at hc;split at hc
 ·rename_i h1; subst h1; exact hb
 ·exact h c e' hc
def Wf.kill {H:Heap} (h:Wf H) (b:Nat):Wf (H.kill b):=fun c e' hc=>by
 rw [Heap.get_kill] at hc;split at hc
 ·cases hc
 ·exact h c e' hc
def Sub.put {H H':Heap} (h:Sub H H') {b:Nat} (hb:H.get b=none) (e:Ent):Sub H (H'.put b e):=⟨h.next,fun c e' hc=>by
 rw [Heap.get_put];split
 ·rename_i h1; subst h1; rw [hb] at hc; cases hc
 ·exact h.get c e' hc⟩
def Sub.kill {H H':Heap} (h:Sub H H') {b:Nat} (hb:H.get b=none):Sub H (H'.kill b):=⟨h.next,fun c e' hc=>by
 rw [Heap.get_kill];split
 ·rename_i h1; subst h1; rw [hb] at hc; cases hc
 ·exact h.get c e' hc⟩
def Wf.fresh {H:Heap} (h:Wf H) {b:Nat} (hb:H.next<=b):H.get b=none:=by
 cases hg:H.get b with
 | none=>rfl
 | some e=>have:=h b e hg; omega
def Rq:AV->Prop
 | .own _ _ n c _ _=>n<=c
 | _=>True
def Rd (H:Heap) (sz:Nat) (v:AV) (cells:List AV):Prop:=Rq v/\(∀ s,v ≠ .str s)/\∃ n,gP v=some n/\aL H sz n v=some cells
def Ef {H H':Heap} (h:Sub H H') {sz n:Nat} {v:AV} {cells:List AV} (hf:aL H sz n v=some cells):aL H' sz n v=some cells:=by
 unfold aL at hf ⊢;split at hf
 ·split at hf
  ·rename_i cs ty rw hb;rw [h.get _ _ hb]; exact hf
  ·cases hf
 ·exact hf
 ·exact hf
 ·exact hf
 ·cases hf
def Rd.mono {H H':Heap} (h:Sub H H') {sz:Nat} {v:AV} {cells:List AV} (hr:Rd H sz v cells):Rd H' sz v cells:=by
 obtain ⟨h0,h1,n,h2,h3⟩:=hr;exact ⟨h0,h1,n,h2,Ef h h3⟩
def Rd.nil (H:Heap) (sz:Nat):Rd H sz .nilSl []:=⟨trivial,fun s h=>(by cases h),0,rfl,rfl⟩
def Rd.own {H:Heap} {sz b n c:Nat} {ex:Bool} {cs:List AV} {ty:Nat} {rw:Bool} (hb:H.get b=some (.cells cs ty rw)) (hn:cs.length=n*sz) (hc:n<=c):Rd H sz (.own b 0 n c sz ex) cs:=by
 refine ⟨hc,fun s h=>(by cases h),n,rfl,?_⟩;simp only [aL,hb];rw [if_pos zS];simp [<- hn]
def Rd.length {H:Heap} {sz:Nat} {v:AV} {cells:List AV} (h:Rd H sz v cells):∃ n,gP v=some n/\cells.length=n*sz:=by
 obtain ⟨-,h1,n,h2,h3⟩:=h;refine ⟨n,h2,?_⟩;unfold aL at h3;split at h3
 ·split at h3
  ·split at h3
   ·rename_i hc; cases h3; simp; omega
   ·cases h3
  ·cases h3
 ·split at h3
  ·rename_i hc; cases h3; simp; omega
  ·cases h3
 ·split at h3
  ·rename_i hc; cases h3; simp [hc]
  ·cases h3
 ·exact absurd rfl (h1 _)
 ·cases h3
def ap (v:AV) (o:Nat):AV:=match v with
 | .own b off _ _ _ _=>.ptr b (off+o)
 | .sl cs _=>.dp cs o
 | _=>.undef
def Rd.index {H:Heap} {sz:Nat} {v:AV} {cells:List AV} (h:Rd H sz v cells) {ev:Src->AV} {x i:Src} {k:IntKind} {j:Nat} (hx:ev x=v) (hi:ev i=.int k (j:Int)) (hj:j*sz+sz<=cells.length) (hsz:0<sz):aM ev (.indexAddr sz x i)=some (ap v (j*sz)):=by
 obtain ⟨n,hn,hl⟩:=h.length;obtain ⟨-,h1,m,h2,h3⟩:=h;rw [hn] at h2; cases h2;have hjn:j<n:=by
  apply Nat.lt_of_not_le
  intro hle
  have:=Ji sz hle
  omega
 have ha:nL (.int k (j:Int))=some j:=rfl;simp only [aM,hx,hi,ha,qh,Wj];unfold aL at h3;split at h3
 ·split at h3
  ·split at h3
   ·rename_i hc;simp only [gP,VE] at hn;subst hn;show (if j<_/\_=sz then some _ else none)=_;rw [if_pos ⟨hjn,hc.1⟩];rfl
   ·cases h3
  ·cases h3
 ·split at h3
  ·simp only [gP,VE] at hn;subst hn;show (if j<_ then some _ else none)=_;rw [if_pos hjn];rfl
  ·cases h3
 ·simp only [gP,VE] at hn;omega
 ·exact absurd rfl (h1 _)
 ·cases h3
def x9 {cs:List AV} {off n o:Nat} {k:Option Nat} {w:AV} (ho:off<=cs.length) (h:cA ((cs.drop off).take n) o k=some w):cA cs (off+o) k=some w:=by
 unfold cA at h ⊢;cases k with
 | none =>
  simp only at h ⊢;rw [Vm] at h;split at h
  ·rw [Vn] at h; exact h
  ·cases h
 | some m =>
  simp only at h ⊢;split at h
  ·rename_i hle;cases h;simp only [Vu,Wc] at hle;rw [if_pos zO];congr 2
   apply Wz
   intro i;simp only [Vm,Vn];split
   ·rw [if_pos zO]; congr 1; omega
   ·rfl
  ·cases h
def Rd.load {H:Heap} {sz:Nat} {v:AV} {cells:List AV} (h:Rd H sz v cells) {o:Nat} {k:Option Nat} {w:AV} (hk:k≠some 0) (hw:cA cells o k=some w):aW H k (ap v o)=some w:=by
 obtain ⟨-,h1,n,h2,h3⟩:=h;unfold aL at h3;split at h3
 ·split at h3
  ·rename_i hb;split at h3
   ·rename_i hc;cases h3;simp only [ap,aW,hb];exact x9 zO hw
   ·cases h3
  ·cases h3
 ·split at h3
  ·cases h3;simp only [ap,aW]
   have:=x9 (off:=0) (II _) (by simpa using hw)
   simpa using this
  ·cases h3
 ·split at h3
  ·cases h3;unfold cA at hw;cases k <;> simp at hw;rename_i m;exact absurd (by rw [hw.1.2]) hk
  ·cases h3
 ·exact absurd rfl (h1 _)
 ·cases h3
def Rd.len {H:Heap} {sz:Nat} {v:AV} {cells:List AV} (h:Rd H sz v cells) {ev:Src->AV} {x:Src} (hx:ev x=v) {n:Nat} (hn:cells.length=n*sz) (hsz:0<sz):aM ev (.len x)=some (.int .i64 (n:Int)):=by
 obtain ⟨m,hm,hl⟩:=h.length
 have:m=n:=WI hsz zO
 subst this;obtain ⟨-,h1,-⟩:=h;simp only [aM,hx];cases v <;> simp only [gP,VE] at hm <;> first | (subst hm; rfl) | (cases hm; done) | skip
 exact absurd rfl (h1 _)
def Rd.slice {H:Heap} {sz:Nat} {v:AV} {cells:List AV} (h:Rd H sz v cells) {lo hi:Nat} {L U:Option AV} (hL:(L.map nL).getD (some 0)=some lo) (hU:∀ n,gP v=some n->(U.map nL).getD (some n)=some hi) (hlh:lo<=hi) (hh:hi*sz<=cells.length) (hsz:0<sz) :
  ∃ v',bE sz v L U none=some v'/\Rd H sz v' ((cells.take (hi*sz)).drop (lo*sz)):=by
 obtain ⟨n,hn,hl⟩:=h.length;have hU:=hU n hn;have hin:hi<=n:=Y1 zO hsz;have hls:lo*sz<=hi*sz:=Ji sz hlh;obtain ⟨h0,h1,m,h2,h3⟩:=h;rw [hn] at h2; cases h2;cases v with
 | own b off n' c sz' ex =>
  simp only [gP,VE] at hn;subst hn;simp only [aL] at h3;split at h3
  ·rename_i cs ty rw hb;split at h3
   ·rename_i hc;obtain ⟨rfl,-,hc3⟩:=hc;cases h3;have hnc:n'<=c:=h0;have e:(hi-lo)*sz'=hi*sz'-lo*sz':=Nat.sub_mul ..;have hns:=Ji sz' hin;have eq1:bE sz' (.own b off n' c sz' ex) L U none=(if lo<c\/lo=0 then some (.own b (off+lo*sz') (hi-lo) (c-lo) sz' ex) else if ex=true then some (.own b off (hi-lo) (c-lo) sz' true) else some (.sl [] 0)):=by
     simp only [bE,hU,hL,qh,Wj,ne_eq,not_true_eq_false,if_false];rw [if_pos ⟨zO,hlh⟩]
    have key:((cs.drop off).take (n'*sz')).take (hi*sz')=(cs.drop off).take (hi*sz'):=by
     rw [Xe,V7 hns]
    rw [key];by_cases hlc:lo<c\/lo=0
    ·refine ⟨_,eq1.trans (if_pos hlc),?_,fun s h=>(by cases h),hi-lo,rfl,?_⟩
     ·show hi-lo<=c-lo; omega
     ·simp only [aL,hb];rw [if_pos ⟨trivial,wT _,zO⟩];congr 1
      apply Wz
      intro i;simp only [Vm,Vn];by_cases hi1:i<(hi-lo)*sz'
      ·rw [if_pos hi1,if_pos zO]; congr 1; omega
      ·rw [if_neg hi1,if_neg zO]
    ·have hlo:lo=hi:=zO;subst hlo;have e0:((cs.drop off).take (lo*sz')).drop (lo*sz')=[]:=by
      apply Vp; simp
     rw [e0];cases ex with
     | true =>
      refine ⟨_,eq1.trans (by rw [if_neg hlc,if_pos rfl]),?_,fun s h=>(by cases h),lo-lo,rfl,?_⟩
      ·show lo-lo<=c-lo; omega
      ·simp only [aL,hb];rw [if_pos ⟨trivial,wT _,by simp; omega⟩]
       simp
     | false =>
      refine ⟨.sl [] 0,eq1.trans (by rw [if_neg hlc,if_neg (by simp)]),trivial,fun s h=>(by cases h),0,rfl,?_⟩;simp [aL]
   ·cases h3
  ·cases h3
 | sl cs n' =>
  simp only [gP,VE] at hn;subst hn;simp only [aL] at h3;split at h3
  ·rename_i hc;cases h3;have hle:hi*sz<=cs.length:=by have:=Ji sz hin; omega
   refine ⟨.sl ((cs.drop (lo*sz)).take ((hi-lo)*sz)) (hi-lo),?_,trivial,fun s h=>(by cases h),hi-lo,rfl,?_⟩
   ·simp only [bE,hU,hL,qh,Wj];rw [if_pos ⟨hin,hlh,hle⟩]
   ·simp only [aL];have e:(hi-lo)*sz=hi*sz-lo*sz:=Nat.sub_mul ..;rw [if_pos ⟨wT _,by simp only [Vu,Wc]; omega⟩];congr 1
    apply Wz
    intro i
    have:=Ji sz hin
    simp only [Vm,Vn];split
    ·rw [if_pos zO,if_pos zO]
    ·rw [if_neg zO]
  ·cases h3
 | nilSl =>
  simp only [gP,VE] at hn;subst hn
  have:hi=0:=zO
  subst this
  have:lo=0:=zO
  subst this;refine ⟨.nilSl,?_,trivial,fun s h=>(by cases h),0,rfl,?_⟩
  ·simp only [bE,hU,hL]; simp
  ·simp only [aL] at h3 ⊢; simp
 | str s=>exact absurd rfl (h1 s)
 | _=>simp [gP] at hn
def SE {α:Type} (o:Option α) (Q:α->Prop):Prop:=match o with
 | some v=>Q v
 | none=>False
theorem Jf {α:Type} (v:α) (Q:α->Prop):SE (some v) Q=Q v:=rfl
theorem yA {α β:Type} (o:Option α) (f:α->β) (Q:β->Prop):SE (o.map f) Q=SE o fun v=>Q (f v):=by cases o <;> rfl
def lenV:AV->Option AV
 | .own _ _ n _ _ _=>some (.int .i64 n)
 | .sl _ n=>some (.int .i64 n)
 | .nilSl=>some (.int .i64 0)
 | _=>none
def co (sz:Nat) (v i:AV):Option AV:=aM (fun s=>match s with | .t 0=>v | _=>i) (.indexAddr sz (.t 0) (.t 1))
def xv (off:Nat):AV->Option AV
 | .ptr b o=>some (.ptr b (o+off))
 | .dp cs o=>some (.dp cs (o+off))
 | _=>none
def CB (k:Option Nat) (off:Nat):AV->Option AV
 | .agg cs=>cA cs off k
 | _=>none
def Hd (c a b:AV):Option AV:=match c with
 | .bool t=>some (if t then a else b)
 | _=>none
def HP (k:IntKind):AV->Option AV
 | .int _ n=>some (.int k (k.wrap n))
 | _=>none
def Eg (i:Nat):AV->Option AV
 | .tup vs=>vs[i]?
 | _=>none
def ia (zero:List AV) (parts:List ((Nat × Nat) × AV)):Option AV:=(cX zero parts).map .agg
def yC:AV->Option AV
 | .ptr b o=>some (.ptr b o)
 | .dp cs o=>some (.dp cs o)
 | .fn (.func f) a c=>some (.fn (.func f) a c)
 | .loopv b=>some (.loopv b)
 | _=>none
def bD (sz:Nat) (v:AV) (lo hi mx:Option AV):Option AV:=match v with
 | .str _=>none
 | v=>bE sz v lo hi mx
section
variable (tab:Nat->Option aw) (ev:Src->AV) (H:Heap) (id:Nat) (Q:AV->Heap->Prop)
def Nr {o:AOp} {w:AV} (hc:∀ f args,o ≠ .call f args) (h:aM ev o=some w):iq tab ev H id o Q=Q w H:=by
 cases o
 case call f args=>exact absurd rfl (hc f args)
 all_goals
  unfold iq;simp only [h]
def gK {o:AOp} (hc:∀ f args,o ≠ .call f args) (h:aM ev o=none):iq tab ev H id o Q=SE (aZ ev H id o) fun r=>Q r.1 r.2:=by
 cases hh:aZ ev H id o with
 | none =>
  cases o
  case call f args=>exact absurd rfl (hc f args)
  all_goals
   unfold iq;simp only [h,hh];rfl
 | some r =>
  cases o
  case call f args=>exact absurd rfl (hc f args)
  all_goals
   unfold iq;simp only [h,hh];rfl
def dU {o:AOp} {v:Option AV} (hc:∀ f args,o ≠ .call f args) (h:aM ev o=v) (hn:aZ ev H id o=none):iq tab ev H id o Q=SE v fun v=>Q v H:=by
 cases v with
 | some w=>rw [Nr tab ev H id Q hc h,Jf]
 | none=>rw [gK tab ev H id Q hc h,hn]; rfl
def Ns (c a b:Src):iq tab ev H id (.pick c a b) Q=SE (Hd (ev c) (ev a) (ev b)) fun v=>Q v H :=
 dU tab ev H id Q (fun f a e=>by cases e) (by simp only [aM,Hd]; cases ev c <;> rfl) rfl
def Py (op:BinOp) (k:BK) (x y:Src):iq tab ev H id (.bin op k x y) Q=SE (bX op k (ev x) (ev y)) fun v=>Q v H :=
 dU tab ev H id Q (fun f a e=>by cases e) rfl rfl
def QO (op:UnOp) (x:Src):iq tab ev H id (.un op x) Q=SE (PL op (ev x)) fun v=>Q v H :=
 dU tab ev H id Q (fun f a e=>by cases e) rfl rfl
def Nv (k:IntKind) (x:Src):iq tab ev H id (.conv k x) Q=SE (HP k (ev x)) fun v=>Q v H :=
 dU tab ev H id Q (fun f a e=>by cases e) (by simp only [aM,HP]; cases ev x <;> rfl) rfl
def Pu (x:Src):iq tab ev H id (.len x) Q=SE (lenV (ev x)) fun v=>Q v H :=
 dU tab ev H id Q (fun f a e=>by cases e) (by simp only [aM,lenV]; cases ev x <;> rfl) rfl
def Pv (sz:Nat) (x i:Src):iq tab ev H id (.indexAddr sz x i) Q=SE (co sz (ev x) (ev i)) fun v=>Q v H :=
 dU tab ev H id Q (fun f a e=>by cases e) (by simp only [aM,co]) rfl
def QP (off:Nat) (x:Src):iq tab ev H id (.fieldAddr off x) Q=SE (xv off (ev x)) fun v=>Q v H :=
 dU tab ev H id Q (fun f a e=>by cases e) (by simp only [aM,xv]; cases ev x <;> rfl) rfl
def KM (k:Option Nat) (off:Nat) (x:Src):iq tab ev H id (.field k off x) Q=SE (CB k off (ev x)) fun v=>Q v H :=
 dU tab ev H id Q (fun f a e=>by cases e) (by simp only [aM,CB]; cases ev x <;> rfl) rfl
def Pw (i:Nat) (x:Src):iq tab ev H id (.extract i x) Q=SE (Eg i (ev x)) fun v=>Q v H :=
 dU tab ev H id Q (fun f a e=>by cases e) (by simp only [aM,Eg]; cases ev x <;> rfl) rfl
def KN (z:List AV) (ps:List ((Nat × Nat) × Src)):iq tab ev H id (.build z ps) Q=SE (ia z (ps.map fun p=>(p.1,ev p.2))) fun v=>Q v H :=
 dU tab ev H id Q (fun f a e=>by cases e) (by simp only [aM,ia,qh]; cases cX z (ps.map fun p=>(p.1,ev p.2)) <;> rfl) rfl
def KL (x:Src):iq tab ev H id (.nilCheck x) Q=SE (yC (ev x)) fun v=>Q v H :=
 dU tab ev H id Q (fun f a e=>by cases e) (by simp only [aM,yC]; cases ev x <;> rfl) rfl
def KK (sz:Nat) (x:Src) (lo hi mx:Option Src):iq tab ev H id (.slice sz x lo hi mx) Q=SE (bD sz (ev x) (lo.map ev) (hi.map ev) (mx.map ev)) fun v=>Q v H :=
 dU tab ev H id Q (fun f a e=>by cases e) (by simp only [aM,bD]; cases ev x <;> rfl) rfl
def Nu (k:Option Nat) (x:Src):iq tab ev H id (.load k x) Q=SE (aW H k (ev x)) fun v=>Q v H:=by
 rw [gK tab ev H id Q (fun f a e=>by cases e) rfl];show SE ((aW H k (ev x)).map fun v=>(v,H)) _=_;rw [yA]
def KJ (n:Nat) (x v:Src):iq tab ev H id (.store n x v) Q=SE (S2 H n (ev x) (ev v)) fun H'=>Q .undef H':=by
 rw [gK tab ev H id Q (fun f a e=>by cases e) rfl];show SE ((S2 H n (ev x) (ev v)).map fun H'=>(AV.undef,H')) _=_;rw [yA]
def KO (ty:Nat) (z:List AV):iq tab ev H id (.alloc ty z) Q=Q (.ptr id 0) (H.put id (.cells z ty true)):=by
 rw [gK tab ev H id Q (fun f a e=>by cases e) rfl]; rfl
def NL (f:Nat) (a b args:List AV) (R:Task->Prop):(∃ t,ir (.fn (.func f) a b) args=some t/\R t)=R (.fn f (a++args++b)):=by simp [ir]
def IE (b:Nat) (args:List AV) (R:Task->Prop):(∃ t,ir (.loopv b) args=some t/\R t)=R (.round b args):=by simp [ir]
def Ip (size bytes ty:Nat) (z:List AV) (x y:Src):iq tab ev H id (.append size bytes ty z x y) Q=SE (aZ ev H id (.append size bytes ty z x y)) fun r=>Q r.1 r.2 :=
 gK tab ev H id Q (fun f a e=>by cases e) rfl
def Nt (ty size bytes:Nat) (z:List AV) (l c:Src):iq tab ev H id (.mksl ty size bytes z l c) Q=SE (aZ ev H id (.mksl ty size bytes z l c)) fun r=>Q r.1 r.2 :=
 gK tab ev H id Q (fun f a e=>by cases e) rfl
def An (ty size:Nat) (z:List AV) (n:Nat) (ps:List ((Nat × Nat) × Src)):iq tab ev H id (.buildSlice ty size z n ps) Q=SE (cX z (ps.map fun p=>(p.1,ev p.2))) fun cs=>Q (.own id 0 n n size true) (H.put id (.cells cs ty true)):=by
 rw [gK tab ev H id Q (fun f a e=>by cases e) rfl];have e:aZ ev H id (.buildSlice ty size z n ps)=(cX z (ps.map fun p=>(p.1,ev p.2))).map fun cs=>(.own id 0 n n size true,H.put id (.cells cs ty true)):=by
  simp only [aZ];cases cX z (ps.map fun p=>(p.1,ev p.2)) <;> rfl
 rw [e,yA]
end
section
variable {tab:Nat->Option aw} {T:Tm} {H:Heap} {Q:Tm->Heap->Prop} {id:Nat}
def Tx (T:Tm) (i j:Nat) (v:AV) (h:i<T.length):ad (T.set i v) j=if i=j then v else ad T j:=by
 unfold ad;rw [dH,dH,Xf];by_cases hij:i=j
 ·subst hij; simp [h]
 ·simp [hij]
theorem Qr (n:Nat):Src.ev T (.t n)=ad T n:=rfl
theorem Rl (v:AV):Src.ev T (.c v)=v:=rfl
theorem iD (d:Nat) (v:AV):putT T (some d) v=T.set d v:=rfl
theorem kP (v:AV):putT T none v=T:=rfl
end
def Oo {H:Heap} {sz:Nat} {v:AV} {cells:List AV} (h:Rd H sz v cells) {k:IntKind} {j:Nat} (hj:j*sz+sz<=cells.length) (hsz:0<sz):co sz v (.int k (j:Int))=some (ap v (j*sz)) :=
 h.index (ev:=fun s=>match s with | .t 0=>v | _=>.int k (j:Int)) (x:=.t 0) (i:=.t 1) rfl rfl hj hsz
def Hv {H:Heap} {sz:Nat} {v:AV} {cells:List AV} (h:Rd H sz v cells) {n:Nat} (hn:cells.length=n*sz) (hsz:0<sz):lenV v=some (.int .i64 (n:Int)):=by
 have:=h.len (ev:=fun _=>v) (x:=.t 0) rfl hn hsz
 refine Eq.trans ?_ this;simp only [aM,lenV];cases v <;> rfl
section
variable {tab:Nat->Option aw} {T:Tm} {H:Heap} {Q:Tm->Heap->Prop} {id:Nat}
end
def ON {tab:Nat->Option aw} {f:Nat} {fn:aw} {args:List AV} {H:Heap} {Q:AV->Heap->Prop} (hf:tab f=some fn) (he:fn.ext=none) (hl:args.length=fn.nparams) (hn:fn.nparams<=fn.ntmps)
  (h:∀ T0:Tm,T0.length=fn.ntmps->(∀ i,i<args.length->ad T0 i=args.getD i .undef)->rN tab false fn.body T0 H fun x T' H'=>(x=.nrm\/x=.ret)/\∃ v,ck T' H' fn.results=some v/\Q v H'):Ans tab (.fn f args) H Q:=by
 refine QC hf he hl (h _ zS fun i hi=>?_);unfold ad;rw [dH,dH,Vw hi]
structure Sw (H H':Heap):Prop where
 sub:Sub H H'
 wf:Wf H'
def Sw.bump {H H':Heap} (h:Sw H H') (k:Nat):Sw H { H' with next:=H'.next+k }:=⟨h.sub.bump_r k,h.wf.bump k⟩
def Sw.trans {H H' H'':Heap} (h:Sw H H') (h':Sw H' H''):Sw H H'':=⟨h.sub.trans h'.sub,h'.wf⟩
def EB (v:AV) (P Q:Prop):Prop:=match v with
 | .bool true=>P
 | .bool false=>Q
 | _=>False
def Gw (b:Bool) (P Q:Prop):EB (.bool b) P Q=if b=true then P else Q:=by cases b <;> simp [EB]
section
variable {tab:Nat->Option aw} {rd:Bool} {T:Tm} {H:Heap} {Q:Ex->Tm->Heap->Prop}
theorem Nw (a b:ACode):rN tab rd (.seq a b) T H Q=rN tab rd a T H fun x T' H'=>match x with | .nrm=>rN tab rd b T' H' Q | x=>Q x T' H':=rfl
def KP (c:Src) (a b:ACode):rN tab rd (.cond c a b) T H Q=EB (c.ev T) (rN tab rd a T H Q) (rN tab rd b T H Q):=by
 show (match c.ev T with | .bool true=>rN tab rd a T H Q | .bool false=>rN tab rd b T H Q | _=>False)=_;unfold EB;split <;> rfl
theorem Ir (id:Nat) (a:ACode):rN tab rd (.block id a) T H Q=rN tab rd a T H fun x T' H'=>match x with | .exit id'=>if id'=id then Q .nrm T' H' else Q (.exit id') T' H' | x=>Q x T' H':=rfl
theorem Iq (a:ACode):rN tab rd (.scope a) T H Q=rN tab rd a T H fun x T' H'=>match x with | .goto _=>False | x=>Q x T' H':=rfl
end
section
variable (k:IntKind) (a b:Int)
def OH:bX .eql .int (.int k a) (.int k b)=some (.bool (decide (a=b))):=by
 simp only [bX,kv,if_true]; congr 2
def OD:bX .neq .int (.int k a) (.int k b)=some (.bool (!decide (a=b))):=by
 simp only [bX,kv,if_true]; congr 2
def Ia:bX .lss .int (.int k a) (.int k b)=some (.bool (decide (a<b))):=by simp only [bX,kv,if_true]
def OE:bX .leq .int (.int k a) (.int k b)=some (.bool (decide (a<=b))):=by simp only [bX,kv,if_true]
def OF:bX .gtr .int (.int k a) (.int k b)=some (.bool (decide (b<a))):=by simp only [bX,kv,if_true,gt_iff_lt,ge_iff_le]
def OG:bX .geq .int (.int k a) (.int k b)=some (.bool (decide (b<=a))):=by simp only [bX,kv,if_true,gt_iff_lt,ge_iff_le]
def CM:bX .add .int (.int k a) (.int k b)=some (.int k (k.wrap (a+b))):=by simp only [bX,kv,if_true]
def HY:bX .sub .int (.int k a) (.int k b)=some (.int k (k.wrap (a-b))):=by simp only [bX,kv,if_true]
def HZ:bX .mul .int (.int k a) (.int k b)=some (.int k (k.wrap (a*b))):=by simp only [bX,kv,if_true]
theorem Mx (j:IntKind):HP k (.int j a)=some (.int k (k.wrap a)):=rfl
theorem Jc (c:Bool) (x y:AV):Hd (.bool c) x y=some (if c=true then x else y):=rfl
theorem PJ (c:Bool):PL .not (.bool c)=some (.bool !c):=rfl
theorem OJ (c e:Bool):bX .eql .bool (.bool c) (.bool e)=some (.bool (c == e)):=rfl
theorem OI (c e:Bool):bX .neq .bool (.bool c) (.bool e)=some (.bool (!(c == e))):=rfl
end
def wrap_i64 {x:Int} (h1 : -9223372036854775808<=x) (h2:x<9223372036854775808):IntKind.i64.wrap x=x:=by
 have e:IntKind.i64.wrap x=if x % 18446744073709551616 ≥ 9223372036854775808 then x % 18446744073709551616-18446744073709551616 else x % 18446744073709551616:=by
  simp [IntKind.wrap,IntKind.signed,IntKind.bits]
 rw [e];split <;> omega
def jV {x:Int}:IntKind.u64.wrap x=x % 18446744073709551616:=by
 simp [IntKind.wrap,IntKind.signed,IntKind.bits]
def SA {x:Int} (h1:0<=x) (h2:x<18446744073709551616):IntKind.u64.wrap x=x:=by rw [jV]; omega
def Rd.notStr {H:Heap} {sz:Nat} {v:AV} {cells:List AV} (h:Rd H sz v cells) (lo hi mx:Option AV):bD sz v lo hi mx=bE sz v lo hi mx:=by
 cases v <;> first | rfl | exact absurd rfl (h.2.1 _)
theorem e9 (k:IntKind) (n:Nat):nL (.int k (n:Int))=some n:=rfl
def Rd.hi {H:Heap} {sz:Nat} {v:AV} {cells:List AV} (h:Rd H sz v cells) {k:IntKind} {hi:Nat} (hh:hi*sz<=cells.length) (hsz:0<sz):∃ v',bD sz v none (some (.int k (hi:Int))) none=some v'/\Rd H sz v' (cells.take (hi*sz)):=by
 rw [h.notStr];obtain ⟨v',h1,h2⟩:=h.slice (lo:=0) (hi:=hi) (L:=none) (U:=some (.int k (hi:Int))) rfl (fun n _=>rfl) (II _) hh hsz;exact ⟨v',h1,by simpa using h2⟩
def Rd.lo {H:Heap} {sz:Nat} {v:AV} {cells:List AV} (h:Rd H sz v cells) {k:IntKind} {lo:Nat} (hh:lo*sz<=cells.length) (hsz:0<sz):∃ v',bD sz v (some (.int k (lo:Int))) none none=some v'/\Rd H sz v' (cells.drop (lo*sz)):=by
 rw [h.notStr];obtain ⟨n,hn,hl⟩:=h.length;obtain ⟨v',h1,h2⟩:=h.slice (lo:=lo) (hi:=n) (L:=some (.int k (lo:Int))) (U:=none) rfl (fun m hm=>by rw [hn] at hm; cases hm; rfl) (Y1 zO hsz) zO hsz;refine ⟨v',h1,?_⟩;rw [<- hl,Vo] at h2; exact h2
def Rd.clip {H:Heap} {sz:Nat} {v:AV} {cells:List AV} (h:Rd H sz v cells) {k j:IntKind} {n:Nat} (hn:cells.length=n*sz) (hsz:0<sz):∃ v',bD sz v none (some (.int k (n:Int))) (some (.int j (n:Int)))=some v'/\Rd H sz v' cells:=by
 rw [h.notStr];obtain ⟨m,hm,hl⟩:=h.length
 have:m=n:=WI hsz zO
 subst this;obtain ⟨h0,h1,m',h2,h3⟩:=h;rw [hm] at h2; cases h2;cases v with
 | own b off n' c sz' ex =>
  simp only [gP,VE] at hm;subst hm;simp only [aL] at h3;split at h3
  ·rename_i cs ty rw hb;split at h3
   ·rename_i hc;obtain ⟨rfl,-,hc3⟩:=hc;have hnc:n'<=c:=h0;have e:bE sz' (.own b off n' c sz' ex) none (some (.int k (n':Int))) (some (.int j (n':Int)))=some (.own b off n' 0 sz' true)\/bE sz' (.own b off n' c sz' ex) none (some (.int k (n':Int))) (some (.int j (n':Int)))=some (.own b off n' n' sz' true):=by
     simp only [bE,e9,ne_eq,not_true_eq_false,if_false,qh,Wj,WU,WM];rw [if_pos ⟨hnc,wT _,II _⟩];by_cases h00:n'=0
     ·left; rw [if_pos h00]; simp
     ·right; rw [if_neg h00]; simp
    by_cases h00:n'=0
    ·subst h00;refine ⟨.own b off 0 0 sz' true,?_,wT _,fun s h=>(by cases h),0,rfl,?_⟩
     ·rcases e with e | e <;> exact e
     ·simp only [aL,hb];rw [if_pos ⟨trivial,wT _,zO⟩];exact h3
    ·refine ⟨.own b off n' n' sz' true,?_,wT _,fun s h=>(by cases h),n',rfl,?_⟩
     ·simp only [bE,e9,ne_eq,not_true_eq_false,if_false,qh,Wj,WU,WM];rw [if_pos ⟨hnc,wT _,II _⟩,if_neg h00]
      simp
     ·simp only [aL,hb];rw [if_pos ⟨trivial,wT _,hc3⟩];exact h3
   ·cases h3
  ·cases h3
 | sl cs n' =>
  simp only [gP,VE] at hm;subst hm;simp only [aL] at h3;split at h3
  ·rename_i hc;refine ⟨.sl (cs.take (n'*sz)) n',?_,trivial,fun s h=>(by cases h),n',rfl,?_⟩
   ·simp only [bE,e9,qh,Wj,WU,WM];rw [if_pos ⟨wT _,wT _,II _,hc.2⟩]
    simp
   ·simp only [aL];rw [if_pos ⟨wT _,by simp only [Vu]; omega⟩];rw [Xe,Nat.min_self]; exact h3
  ·cases h3
 | nilSl =>
  simp only [gP,VE] at hm;subst hm;exact ⟨.nilSl,rfl,trivial,fun s h=>(by cases h),0,rfl,h3⟩
 | str s=>exact absurd rfl (h1 s)
 | _=>simp [gP] at hm
def Q9 {H:Heap} {s:AV} {cells:List AV} (hs:Rd H 1 s cells):lenV s=some (.int .i64 (cells.length:Int)):=Hv hs zO zO
def Bld (H0 H:Heap) (sz ty:Nat) (v:AV) (cells:List AV):Prop :=
 (v=.nilSl/\cells=[])\/∃ b n,v=.own b 0 n n sz false/\H.get b=some (.cells cells ty true)/\cells.length=n*sz/\H0.get b=none
def Bld.nil {H0 H:Heap} {sz ty:Nat}:Bld H0 H sz ty .nilSl []:=.inl ⟨rfl,rfl⟩
def Bld.keep {H0 H H':Heap} {sz ty:Nat} {v:AV} {cells:List AV} (h:Bld H0 H sz ty v cells) (hk:∀ b e,H.get b=some e->H'.get b=some e):Bld H0 H' sz ty v cells:=by
 rcases h with h | ⟨b,n,h1,hb,h2⟩
 ·exact .inl h
 ·exact .inr ⟨b,n,h1,hk _ _ hb,h2⟩
def D9 (H:Heap) (b c:Nat) (e:Ent):(H.put b e).get c=if c=b then some e else H.get c:=by rw [Heap.get_put]
def Jx (H:Heap) (b c:Nat):(H.kill b).get c=if c=b then none else H.get c:=by rw [Heap.get_kill]
def fZ (v:AV):Option (List AV):=if v.cells.all AV.one=true then some v.cells else none
def Jk (x y:AV):Option AV:=match x with
 | .int k a=>Hq (.int k a) y
 | _=>none
def DJ (x y:AV):Option AV:=match x with
 | .int k a=>Hp (.int k a) y
 | _=>none
theorem Ci (k j:IntKind) (a b:Int):Jk (.int k a) (.int j b)=some (.int k (if b > a then b else a)):=rfl
theorem tj (k j:IntKind) (a b:Int):DJ (.int k a) (.int j b)=some (.int k (if b<a then b else a)):=rfl
theorem QA (f:Fn) (a b:List AV):fZ (.fn f a b)=some [.fn f a b]:=rfl
theorem OC (k:IntKind) (a:Int):fZ (.int k a)=some [.int k a]:=rfl
section
variable {tab:Nat->Option aw}
def Ke {b:Nat} {args:List AV} {T:Tm} {ps:List Nat} {asg body:ACode} {H:Heap} {Q:AV->Heap->Prop} (hb:H.get b=some (.loop T ps asg body .ready none)) (hl:args.length=ps.length)
  (h:rN tab true asg (np T (ps.zip args)) H fun x T1 H1=>x=.nrm/\H1.get b=some (.loop T ps asg body .ready none) /\
   rN tab true body T1 (H1.put b (.loop T ps asg body .busy none)) fun x _ H2=>H2.get b=some (.loop T ps asg body .busy none)/\match x with
    | .nrm=>Q (.bool true) (H2.put b (.loop T ps asg body .ready none))
    | .ret=>Q (.bool false) (H2.put b (.loop T ps asg body .done (some .ret)))
    | .exit id=>Q (.bool false) (H2.put b (.loop T ps asg body .done (some (.exit id))))
    | .goto g=>Q (.bool false) (H2.put b (.loop T ps asg body .done (some (.goto g))))):Ans tab (.round b args) H Q:=by
 obtain ⟨x,T1,H1,⟨N1,g1⟩,rfl,hb1,h2⟩:=eC _ _ _ _ h;obtain ⟨y,T2,H2,⟨N2,g2⟩,hb2,h3⟩:=eC _ _ _ _ h2;have key:∀ (v:AV) (H':Heap),Q v H'->(∀ m n,N1+N2+1<=m->N1+N2+1<=n->kD tab eS m n (.round b args) H=some (v,H'))->Ans tab (.round b args) H Q:=fun v H' hq hr=>⟨v,H',⟨_,hr⟩,hq⟩
 have run:∀ m n,N1+N2+1<=m->N1+N2+1<=n->kD tab eS m n (.round b args) H=match y with
   | .nrm=>some (.bool true,H2.put b (.loop T ps asg body .ready none))
   | .ret=>some (.bool false,H2.put b (.loop T ps asg body .done (some .ret)))
   | .exit id=>some (.bool false,H2.put b (.loop T ps asg body .done (some (.exit id))))
   | .goto g=>some (.bool false,H2.put b (.loop T ps asg body .done (some (.goto g)))):=by
  intro m n hm hn;obtain ⟨n',rfl⟩:∃ n',n=n'+1:=⟨n-1,zO⟩
  show jq tab eS (kD tab eS m n') m (.round b args) H=_;simp only [jq,hb,if_pos hl,g1 m n' zO zO,hb1,g2 m n' zO zO,hb2];cases y <;> rfl
 cases y with
 | nrm=>exact key _ _ h3 run
 | ret=>exact key _ _ h3 run
 | exit id=>exact key _ _ h3 run
 | goto g=>exact key _ _ h3 run
def BG {f:Src} {ps:List Nat} {asg body:ACode} {T:Tm} {H:Heap} {Q:Ex->Tm->Heap->Prop} {fi:Nat} {args:List AV} (hf:ir (f.ev T) [.loopv H.next]=some (.fn fi args))
  (h:Ans tab (.ent fi args) (({ H with next:=H.next+1 }:Heap).put H.next (.loop T ps asg body .ready none)) fun _ H2 =>
   (H2.get H.next=some (.loop T ps asg body .ready none)/\Q .nrm T (H2.kill H.next))\/(H2.get H.next=some (.loop T ps asg body .done (some .ret))/\Q .ret T (H2.kill H.next)) \/
   (∃ id,H2.get H.next=some (.loop T ps asg body .done (some (.exit id)))/\Q (.exit id) T (H2.kill H.next))):rN tab false (.rangeFunc f ps asg body) T H Q:=by
 obtain ⟨v,H2,⟨N,g⟩,h⟩:=h;have run:∀ (x:Ex) (r:Option (Ex × Tm × Heap)),(∀ m n,N<=m->N<=n->aI (kD tab eS m n) m false (.rangeFunc f ps asg body) T H=r)->∀ T' H',r=some (x,T',H')->M4 tab false (.rangeFunc f ps asg body) T H x T' H':=fun x r h T' H' e=>⟨N,fun m n hm hn=>(h m n hm hn).trans e⟩
 rcases h with ⟨h1,h2⟩ | ⟨h1,h2⟩ | ⟨id,h1,h2⟩
 ·refine ⟨_,_,_,run _ _ (fun m n hm hn=>?_) _ _ rfl,h2⟩;simp only [aI,Vx,if_false,hf];rw [g m n hm hn];simp only [h1]
 ·refine ⟨_,_,_,run _ _ (fun m n hm hn=>?_) _ _ rfl,h2⟩;simp only [aI,Vx,if_false,hf];rw [g m n hm hn];simp only [h1]
 ·refine ⟨_,_,_,run _ _ (fun m n hm hn=>?_) _ _ rfl,h2⟩;simp only [aI,Vx,if_false,hf];rw [g m n hm hn];simp only [h1]
def Kf {f:Nat} {fn:aw} {args:List AV} {H:Heap} {Q:AV->Heap->Prop} (hf:tab f=some fn) (he:fn.ext=none) (hl:args.length=fn.nparams) (hn:fn.nparams<=fn.ntmps)
  (h:∀ T0:Tm,T0.length=fn.ntmps->(∀ i,i<args.length->ad T0 i=args.getD i .undef)->rN tab false fn.body T0 H fun x T' H'=>(x=.nrm\/x=.ret)/\∃ v,ck T' H' fn.results=some v/\Q v H'):Ans tab (.ent f args) H Q:=by
 refine OO hf he hl (h _ zS fun i hi=>?_);unfold ad;rw [dH,dH,Vw hi]
variable (ev:Src->AV) (H:Heap) (id:Nat) (Q:AV->Heap->Prop)
def Px (ty:Nat) (x:Src):iq tab ev H id (.box ty x) Q=SE (fZ (ev x)) fun cs=>Q (.ptr id 0) (H.put id (.cells cs ty true)):=by
 rw [gK tab ev H id Q (fun f a e=>by cases e) rfl];simp only [aZ,fZ];by_cases h:(ev x).cells.all AV.one=true
 ·rw [if_pos h,if_pos h]; rfl
 ·rw [if_neg h,if_neg h]; rfl
def Pt (a b:Src):iq tab ev H id (.max [a,b]) Q=SE (Jk (ev a) (ev b)) fun v=>Q v H:=by
 refine dU tab ev H id Q (fun f a e=>by cases e) ?_ rfl;simp only [aM,Jk,wW,AO];cases ev a <;> simp <;> rfl
def Ps (a b:Src):iq tab ev H id (.min [a,b]) Q=SE (DJ (ev a) (ev b)) fun v=>Q v H:=by
 refine dU tab ev H id Q (fun f a e=>by cases e) ?_ rfl;simp only [aM,DJ,wW,AO];cases ev a <;> simp <;> rfl
end
structure WC (tab:Nat->Option aw) (rd:Bool) (c:ACode) (T:Tm) (H:Heap) (Q:Ex->Tm->Heap->Prop):Prop where
 run:rN tab rd c T H Q
structure CR (tab:Nat->Option aw) (id:Nat) (os:List CT) (T:Tm) (H:Heap) (Q:Tm->Heap->Prop):Prop where
 run:vT tab id os T H Q
structure kW (tab:Nat->Option aw) (ev:Src->AV) (H:Heap) (id:Nat) (o:AOp) (Q:AV->Heap->Prop):Prop where
 run:iq tab ev H id o Q
def qx:WC=rN:=by funext tab rd c T H Q; exact propext ⟨fun h=>h.run,fun h=>⟨h⟩⟩
def xI:CR=vT:=by funext tab rd c T H Q; exact propext ⟨fun h=>h.run,fun h=>⟨h⟩⟩
def bY:kW=iq:=by funext tab rd c T H Q; exact propext ⟨fun h=>h.run,fun h=>⟨h⟩⟩
abbrev Fb {α:Sort _} (_:α):Type:=Unit
def SC {α:Type} (o:Option α) (Q:α->Prop) (_:Fb Q):Prop:=SE o Q
def HQ (v:AV) (P Q:Prop) (_:Fb P) (_:Fb Q):Prop:=EB v P Q
def P2 (id:Nat) (H:Heap) (F:Nat->Heap->Prop) (_:Fb F):Prop:=F id H
def PF (v:AV) (F:AV->Prop) (_:Fb F):Prop:=F v
def IO (tab:Nat->Option aw) (rd:Bool) (b:ACode) (Q:Ex->Tm->Heap->Prop) (x:Ex) (T:Tm) (H:Heap):Prop:=match x with
 | .nrm=>WC tab rd b T H Q
 | x=>Q x T H
def sD (id:Nat) (Q:Ex->Tm->Heap->Prop) (x:Ex) (T:Tm) (H:Heap):Prop:=match x with
 | .exit id'=>if id'=id then Q .nrm T H else Q (.exit id') T H
 | x=>Q x T H
def Lq (Q:Ex->Tm->Heap->Prop) (x:Ex) (T:Tm) (H:Heap):Prop:=match x with
 | .goto _=>False
 | x=>Q x T H
def F2 (Inv:Nat->Tm->Heap->Prop) (k:Nat) (Q:Ex->Tm->Heap->Prop) (x:Ex) (T:Tm) (H:Heap):Prop:=match x with
 | .nrm=>∃ k',k'<k/\Inv k' T H
 | x=>Q x T H
def MG (v:AV) (args:List AV) (R:Task->Prop) (_:Fb R):Prop:=∃ t,ir v args=some t/\R t
def AnsH (tab:Nat->Option aw) (t:Task) (H:Heap) (Q:AV->Heap->Prop) (_:Fb Q):Prop:=Ans tab t H Q
def iteH (c:Prop) [Decidable c] (P Q:Prop) (_:Fb P) (_:Fb Q):Prop:=if c then P else Q
def Q3 (tab:Nat->Option aw) (rd:Bool) (body:ACode) (_:Fb body) (T:Tm) (H:Heap) (Q:Ex->Tm->Heap->Prop) (_:Fb Q):Prop:=WC tab rd (.loop body) T H Q
def rangeH (tab:Nat->Option aw) (f:Src) (ps:List Nat) (asg body:ACode) (_:Fb body) (_:Fb asg) (T:Tm) (H:Heap) (Q:Ex->Tm->Heap->Prop) (_:Fb Q):Prop:=WC tab false (.rangeFunc f ps asg body) T H Q
section
variable {tab:Nat->Option aw} {rd:Bool} {T:Tm} {H:Heap}
theorem uH {α:Type} (v:α) (Q:α->Prop):SC (some v) Q ()=Q v:=rfl
theorem B4 (id:Nat) (H:Heap) (F:Nat->Heap->Prop):P2 id H F ()=F id H:=rfl
theorem GT (v:AV) (F:AV->Prop):PF v F ()=F v:=rfl
def Gy (b:Bool) (P Q:Prop):HQ (.bool b) P Q () ()=iteH (b=true) P Q () ():=Gw b P Q
def A0 (P Q:Prop):iteH True P Q () ()=P:=if_pos trivial
def yX (P Q:Prop):iteH False P Q () ()=Q:=if_neg (fun h=>h)
def EI (f:Nat) (a b args:List AV) (R:Task->Prop):MG (.fn (.func f) a b) args R ()=R (.fn f (a++args++b)):=NL f a b args R
def zu (b:Nat) (args:List AV) (R:Task->Prop):MG (.loopv b) args R ()=R (.round b args):=IE b args R
def AnsH.use {t:Task} {H:Heap} {P Q:AV->Heap->Prop} (h:Ans tab t H P) (hq:∀ v H',P v H'->Q v H'):AnsH tab t H Q ():=h.mono hq
def AnsH.eq {t:Task} {H:Heap} {w:AV} {P:Heap->Prop} {Q:AV->Heap->Prop} (h:Ans tab t H fun v H'=>v=w/\P H') (hq:∀ H',P H'->Q w H'):AnsH tab t H Q ():=h.mono fun _ H' ⟨e,h1⟩=>e ▸ hq H' h1
def iteH.split {c:Prop} [Decidable c] {P Q:Prop} (h1:c->P) (h2:¬ c->Q):iteH c P Q () ():=by
 unfold iteH;split
 ·exact h1 ‹_›
 ·exact h2 ‹_›
end
section
variable {tab:Nat->Option aw} (ev:Src->AV) (H:Heap) (id:Nat) (Q:AV->Heap->Prop)
theorem OT (x:Src):kW tab ev H id (.mv x) Q=PF (ev x) (fun v=>Q v H) ():=by rw [bY]; rfl
theorem Nh (f:Fn) (a b:List Src):kW tab ev H id (.mkfn f a b) Q=PF (.fn f (a.map ev) (b.map ev)) (fun v=>Q v H) ():=by rw [bY]; rfl
def KI (ty:Nat) (z:List AV):kW tab ev H id (.alloc ty z) Q=Q (.ptr id 0) (H.put id (.cells z ty true)):=by rw [bY]; exact KO tab ev H id Q ty z
theorem Nf (c a b:Src):kW tab ev H id (.pick c a b) Q=SC (Hd (ev c) (ev a) (ev b)) (fun v=>Q v H) ():=by rw [bY,Ns]; rfl
theorem Fg (op:BinOp) (k:BK) (x y:Src):kW tab ev H id (.bin op k x y) Q=SC (bX op k (ev x) (ev y)) (fun v=>Q v H) ():=by rw [bY,Py]; rfl
theorem QL (op:UnOp) (x:Src):kW tab ev H id (.un op x) Q=SC (PL op (ev x)) (fun v=>Q v H) ():=by rw [bY,QO]; rfl
theorem Nm (k:IntKind) (x:Src):kW tab ev H id (.conv k x) Q=SC (HP k (ev x)) (fun v=>Q v H) ():=by rw [bY,Nv]; rfl
theorem Pn (x:Src):kW tab ev H id (.len x) Q=SC (lenV (ev x)) (fun v=>Q v H) ():=by rw [bY,Pu]; rfl
theorem Po (sz:Nat) (x i:Src):kW tab ev H id (.indexAddr sz x i) Q=SC (co sz (ev x) (ev i)) (fun v=>Q v H) ():=by rw [bY,Pv]; rfl
theorem QN (off:Nat) (x:Src):kW tab ev H id (.fieldAddr off x) Q=SC (xv off (ev x)) (fun v=>Q v H) ():=by rw [bY,QP]; rfl
theorem KE (k:Option Nat) (off:Nat) (x:Src):kW tab ev H id (.field k off x) Q=SC (CB k off (ev x)) (fun v=>Q v H) ():=by rw [bY,KM]; rfl
theorem Pp (i:Nat) (x:Src):kW tab ev H id (.extract i x) Q=SC (Eg i (ev x)) (fun v=>Q v H) ():=by rw [bY,Pw]; rfl
theorem KH (z:List AV) (ps:List ((Nat × Nat) × Src)):kW tab ev H id (.build z ps) Q=SC (ia z (ps.map fun p=>(p.1,ev p.2))) (fun v=>Q v H) ():=by rw [bY,KN]; rfl
theorem KB (x:Src):kW tab ev H id (.nilCheck x) Q=SC (yC (ev x)) (fun v=>Q v H) ():=by rw [bY,KL]; rfl
theorem Ky (sz:Nat) (x:Src) (lo hi mx:Option Src):kW tab ev H id (.slice sz x lo hi mx) Q=SC (bD sz (ev x) (lo.map ev) (hi.map ev) (mx.map ev)) (fun v=>Q v H) ():=by rw [bY,KK]; rfl
theorem Nj (k:Option Nat) (x:Src):kW tab ev H id (.load k x) Q=SC (aW H k (ev x)) (fun v=>Q v H) ():=by rw [bY,Nu]; rfl
theorem Io (size bytes ty:Nat) (z:List AV) (x y:Src):kW tab ev H id (.append size bytes ty z x y) Q=SC (aZ ev H id (.append size bytes ty z x y)) (fun r=>Q r.1 r.2) ():=by rw [bY,Ip]; rfl
theorem Ng (ty size bytes:Nat) (z:List AV) (l c:Src):kW tab ev H id (.mksl ty size bytes z l c) Q=SC (aZ ev H id (.mksl ty size bytes z l c)) (fun r=>Q r.1 r.2) ():=by rw [bY,Nt]; rfl
theorem Am (ty size:Nat) (z:List AV) (n:Nat) (ps:List ((Nat × Nat) × Src)):kW tab ev H id (.buildSlice ty size z n ps) Q=SC (cX z (ps.map fun p=>(p.1,ev p.2))) (fun cs=>Q (.own id 0 n n size true) (H.put id (.cells cs ty true))) ():=by rw [bY,An]; rfl
theorem Pq (ty:Nat) (x:Src):kW tab ev H id (.box ty x) Q=SC (fZ (ev x)) (fun cs=>Q (.ptr id 0) (H.put id (.cells cs ty true))) ():=by rw [bY,Px]; rfl
theorem Pm (a b:Src):kW tab ev H id (.max [a,b]) Q=SC (Jk (ev a) (ev b)) (fun v=>Q v H) ():=by rw [bY,Pt]; rfl
theorem Pl (a b:Src):kW tab ev H id (.min [a,b]) Q=SC (DJ (ev a) (ev b)) (fun v=>Q v H) ():=by rw [bY,Ps]; rfl
theorem Uw (n:Nat) (x v:Src):kW tab ev H id (.store n x v) Q=SC (S2 H n (ev x) (ev v)) (fun H1=>Q .undef H1) ():=by rw [bY,KJ]; rfl
theorem Np (f:Src) (args:List Src):kW tab ev H id (.call f args) Q=MG (ev f) (args.map ev) (fun t=>AnsH tab t H Q ()) ():=by rw [bY]; rfl
end
section
variable {tab:Nat->Option aw} {rd:Bool} {T:Tm} {H:Heap} {Q:Ex->Tm->Heap->Prop}
def No (c:Src) (a b:ACode):WC tab rd (.cond c a b) T H Q=HQ (c.ev T) (WC tab rd a T H Q) (WC tab rd b T H Q) () ():=by rw [qx]; exact KP c a b
theorem Im (ops:List CT):WC tab rd (.region ops) T H Q=P2 H.next { H with next:=H.next+ops.length } (fun id H'=>CR tab id ops T H' (Q .nrm)) ():=by rw [qx,xI]; rfl
def Pj (a b:ACode):WC tab rd (.seq a b) T H Q=WC tab rd a T H (IO tab rd b Q):=by
 rw [qx,Nw];congr 1
 funext x T H
 cases x <;> simp [IO,qx]
def CV (id:Nat) (a:ACode):WC tab rd (.block id a) T H Q=WC tab rd a T H (sD id Q):=by rw [qx]; exact Ir id a
def Kz (a:ACode):WC tab rd (.scope a) T H Q=WC tab rd a T H (Lq Q):=by rw [qx]; exact Iq a
theorem Nd:WC tab rd .skip T H Q=Q .nrm T H:=by rw [qx]; rfl
theorem Nl (id:Nat):WC tab rd (.exit id) T H Q=Q (.exit id) T H:=by rw [qx]; rfl
theorem Nk (id:Nat):WC tab rd (.goto id) T H Q=Q (.goto id) T H:=by rw [qx]; rfl
theorem Pk:WC tab rd .ret T H Q=Q .ret T H:=by rw [qx]; rfl
theorem Lm (b:ACode):IO tab rd b Q .nrm T H=WC tab rd b T H Q:=rfl
theorem Lk (b:ACode):IO tab rd b Q .ret T H=Q .ret T H:=rfl
theorem IN (b:ACode) (i:Nat):IO tab rd b Q (.exit i) T H=Q (.exit i) T H:=rfl
theorem IM (b:ACode) (i:Nat):IO tab rd b Q (.goto i) T H=Q (.goto i) T H:=rfl
theorem ML (i:Nat):sD i Q .nrm T H=Q .nrm T H:=rfl
theorem MK (i:Nat):sD i Q .ret T H=Q .ret T H:=rfl
theorem J4 (i j:Nat):sD i Q (.goto j) T H=Q (.goto j) T H:=rfl
theorem J5 (i j:Nat):sD i Q (.exit j) T H=iteH (j=i) (Q .nrm T H) (Q (.exit j) T H) () ():=rfl
theorem Lo:Lq Q .nrm T H=Q .nrm T H:=rfl
theorem Ln:Lq Q .ret T H=Q .ret T H:=rfl
theorem IP (i:Nat):Lq Q (.exit i) T H=Q (.exit i) T H:=rfl
theorem DL (Inv:Nat->Tm->Heap->Prop) (k:Nat):F2 Inv k Q .nrm T H = ∃ k',k'<k/\Inv k' T H:=rfl
theorem L5 (Inv:Nat->Tm->Heap->Prop) (k:Nat):F2 Inv k Q .ret T H=Q .ret T H:=rfl
theorem Jp (Inv:Nat->Tm->Heap->Prop) (k i:Nat):F2 Inv k Q (.exit i) T H=Q (.exit i) T H:=rfl
theorem Jo (Inv:Nat->Tm->Heap->Prop) (k i:Nat):F2 Inv k Q (.goto i) T H=Q (.goto i) T H:=rfl
theorem Ni (c:ACode):WC tab rd (.loop c) T H Q=Q3 tab rd c () T H Q ():=rfl
theorem KA (f:Src) (ps:List Nat) (a c:ACode):WC tab false (.rangeFunc f ps a c) T H Q=rangeH tab f ps a c () () T H Q ():=rfl
end
section
variable {tab:Nat->Option aw} {T:Tm} {H:Heap} {Q:Tm->Heap->Prop} {id:Nat}
theorem BD:CR tab id [] T H Q=Q T H:=by rw [xI]; rfl
theorem xL (d:Option Nat) (o:AOp) (os:List CT):CR tab id (⟨d,o,none⟩ :: os) T H Q=kW tab (Src.ev T) H id o fun v H'=>CR tab (id+1) os (putT T d v) H' Q:=by rw [xI,bY]; rfl
def nH {f:Nat} {fn:aw} {args:List AV} {Q:AV->Heap->Prop} (hf:tab f=some fn) (he:fn.ext=none) (hl:args.length=fn.nparams) (hn:fn.nparams<=fn.ntmps)
  (h:∀ T0:Tm,T0.length=fn.ntmps->(∀ i,i<args.length->ad T0 i=args.getD i .undef)->WC tab false fn.body T0 H fun x T' H'=>(x=.nrm\/x=.ret)/\∃ v,ck T' H' fn.results=some v/\Q v H'):Ans tab (.fn f args) H Q :=
 ON hf he hl hn fun T0 h1 h2=>(h T0 h1 h2).run
def Af {f:Nat} {fn:aw} {args:List AV} {Q:AV->Heap->Prop} (hf:tab f=some fn) (he:fn.ext=none) (hl:args.length=fn.nparams) (hn:fn.nparams<=fn.ntmps)
  (h:∀ T0:Tm,T0.length=fn.ntmps->(∀ i,i<args.length->ad T0 i=args.getD i .undef)->WC tab false fn.body T0 H fun x T' H'=>(x=.nrm\/x=.ret)/\∃ v,ck T' H' fn.results=some v/\Q v H'):Ans tab (.ent f args) H Q :=
 Kf hf he hl hn fun T0 h1 h2=>(h T0 h1 h2).run
end
section
variable {tab:Nat->Option aw}
def rangeH.use {f:Src} {ps:List Nat} {asg body:ACode} {T:Tm} {H:Heap} {Q:Ex->Tm->Heap->Prop} {fi:Nat} {args:List AV} (hf:ir (f.ev T) [.loopv H.next]=some (.fn fi args))
  (h:Ans tab (.ent fi args) (({ H with next:=H.next+1 }:Heap).put H.next (.loop T ps asg body .ready none)) fun _ H2 =>
   (H2.get H.next=some (.loop T ps asg body .ready none)/\Q .nrm T (H2.kill H.next))\/(H2.get H.next=some (.loop T ps asg body .done (some .ret))/\Q .ret T (H2.kill H.next)) \/
   (∃ id,H2.get H.next=some (.loop T ps asg body .done (some (.exit id)))/\Q (.exit id) T (H2.kill H.next))):rangeH tab f ps asg body () () T H Q ():=by
 unfold rangeH;exact ⟨BG hf h⟩
def P0 (b:Nat) (T:Tm) (ps:List Nat) (asg body:ACode) (Q:AV->Heap->Prop) (x:Ex) (_:Tm) (H2:Heap):Prop:=H2.get b=some (.loop T ps asg body .busy none)/\match x with
 | .nrm=>Q (.bool true) (H2.put b (.loop T ps asg body .ready none))
 | .ret=>Q (.bool false) (H2.put b (.loop T ps asg body .done (some .ret)))
 | .exit id=>Q (.bool false) (H2.put b (.loop T ps asg body .done (some (.exit id))))
 | .goto g=>Q (.bool false) (H2.put b (.loop T ps asg body .done (some (.goto g))))
theorem yu (b:Nat) (T T':Tm) (ps:List Nat) (asg body:ACode) (Q:AV->Heap->Prop) (H2:Heap):P0 b T ps asg body Q .nrm T' H2=(H2.get b=some (.loop T ps asg body .busy none)/\Q (.bool true) (H2.put b (.loop T ps asg body .ready none))):=rfl
def sE {b:Nat} {args:List AV} {T:Tm} {ps:List Nat} {asg body:ACode} {H:Heap} {Q:AV->Heap->Prop} (hb:H.get b=some (.loop T ps asg body .ready none)) (hl:args.length=ps.length)
  (h:WC tab true asg (np T (ps.zip args)) H fun x T1 H1=>x=.nrm/\H1.get b=some (.loop T ps asg body .ready none)/\WC tab true body T1 (H1.put b (.loop T ps asg body .busy none)) (P0 b T ps asg body Q)):Ans tab (.round b args) H Q:=by
 refine Ke hb hl ?_;simp only [qx] at h;refine Eq.mpr (congrArg (rN tab true asg (np T (ps.zip args)) H) ?_) h
 funext x T1 H1
 refine congrArg (fun p=>x=.nrm/\H1.get b=some (.loop T ps asg body .ready none)/\p) ?_;refine congrArg (rN tab true body T1 (H1.put b (.loop T ps asg body .busy none))) ?_
 funext y T2 H2
 cases y <;> rfl
end
end Go.Proofs.YthjdfjlhjnihfaaGreat.Ev
