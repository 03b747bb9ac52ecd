/- A part. -/
import Derived.Test.YtiigaeehghcjiaaGreatA0
import Derived.Test.YtiigaeehghcjiaaGreatEvMem
import Derived.Scope
import Derived.Maps.RangeRun
import Derived.Sort.Row
import Derived.Sort.Grow
import Derived.Sort.Statements
import Derived.Deep.Draws
import Derived.Laws.Externs
import Derived.Lib.Bytealg
import Derived.CallsIn
set_option linter.all false
namespace Go.Proofs.YtiigaeehghcjiaaGreat.Ev
open Go
def Jz {α β:Type} {f:α->Option β}:∀ (xs:List α) (a:List β),xs.mapM f=some a->a.length=xs.length/\∀ (i:Nat) (x:α),xs[i]? = some x->∃ y,a[i]? = some y/\f x=some y
 | [],a,h=>by simp at h; subst h; exact ⟨rfl,fun i x h=>by simp at h⟩
 | x :: xs,a,h=>by
  simp only [Yd,YS,C6,eD] at h;obtain ⟨y,hy,d,b,h⟩:=h;cases h;obtain ⟨h1,h2⟩:=Jz xs d b;refine ⟨by simp [h1],fun i c hx=>?_⟩;cases i with
  | zero=>simp at hx; subst hx; exact ⟨y,rfl,hy⟩
  | succ i=>simpa using h2 i c (by simpa using hx)
theorem getD_of {α:Type} {l:List α} {i:Nat} {x d:α} (h:l[i]? = some x):l.getD i d=x:=by rw [qf,h]; rfl
def TT (l:List DI) (i:Nat):ke :=
 let d:=l.getD i default
 { dst:=d.dst,op:=d.op,guard:=d.guard,uses:=((d.op.slots++(match d.guard with | some (t,_)=>[t] | none=>[])).eraseDups).map fun t=>(t,JF l i d.preds t),cls:=d.cls,looks:=JB l i:ke }
def IF {P:Program} {ops:Array Oper} {os:List Oper} {F:List (List Nat)} {l:List DI} {ds:List ke} (u:∀ (i:Nat) (o:Oper),os[i]? = some o->ops[i]? = some o)
  (hl:os.zipIdx.mapM (fun (o,i)=>TV P ops F o i)=some l) (z:(List.range l.length).map (TT l)=ds) (C:IG os l ds=true):uJ P ops l ds/\l.length=os.length:=by
 obtain ⟨h1,h2⟩:=Jz _ _ hl;have f:l.length=os.length:=by simpa using h1
 simp only [IG,W6] at C;obtain ⟨⟨⟨ok1,ok2⟩,w⟩,m⟩:=C;have G:ds.length=l.length:=by rw [<- z]; simp
 have E:∀ i,i<l.length->∃ o,os[i]? = some o:=fun i hi=>⟨os[i]'(f ▸ hi),zh _⟩
 have D:∀ i,i<l.length->∃ o,ops[i]? = some o/\TV P ops F o i=some (l.getD i default):=by
  intro i hi;have hx:os.zipIdx[i]? = some (os[i]'(f ▸ hi),i):=by simp [f ▸ hi]
  obtain ⟨y,hy,H⟩:=h2 i _ hx;exact ⟨_,u i _ (zh (f ▸ hi)),by rw [getD_of hy]; exact H⟩
 have B:∀ i o,i<l.length->ops[i]? = some o->os.getD i default=o:=by
  intro i o hi b;obtain ⟨J,A⟩:=E i hi
  have:=u i J A
  rw [b] at this; cases this;exact getD_of A
 have I:l.length<=ops.size:=by
  rcases YG l.length with h | h
  ·omega
  ·obtain ⟨o,b⟩:=E (l.length-1) zO
   have:=(XB.1 (u _ _ b)).1
   omega
 simp only [Jp,WT,XC,W6,W7,Yq,beq_iff_eq,decide_eq_true_eq,Yv] at ok1;simp only [Jq,WT,XC,W6,Yq,XA,bne_iff_ne,ne_eq,Yv,Option.isNone_iff_eq_none] at ok2;simp only [NV,WT,XC] at w;simp only [Jr,WT,XC,W6] at m;refine ⟨⟨I,G,fun i hi=>?_,fun i hi=>?_,fun i hi=>?_,fun i o hi b j hj=>?_,fun i o hi b p hp=>?_,fun i j r hj h1 h2=>?_,fun i j r hj h1 h2=>?_,fun i hi t j v=>?_,fun i hi t v j' s hd=>?_,fun i hi k adds hm a ha=>?_,fun i hi hc k K=>?_,fun i hi hc=>?_⟩,f⟩
 ·obtain ⟨o,b,hd⟩:=D i hi;simp only [TV,WE] at hd;obtain ⟨g,hg,hd⟩:=hd;exact ⟨o,b,by unfold fh; rw [<- hd],by rw [<- hd]; exact hg,by rw [<- hd]⟩
 ·obtain ⟨x,hx,he⟩:∃ x,ds[i]? = some x/\x.dst=fh l i/\x.op=(l.getD i default).op/\x.guard=(l.getD i default).guard/\x.cls=U0 l i:=by
   rw [<- z,Xq,Zj hi];exact ⟨_,rfl,rfl,rfl,rfl,rfl⟩
  rw [getD_of hx];exact he
 ·obtain ⟨o,b,hd⟩:=D i hi;simp only [TV,WE] at hd;obtain ⟨g,hg,hd⟩:=hd;unfold U0;rw [<- hd];simp only [Rs];split
  ·exact .inl rfl
  ·split
   ·exact .inr (.inl rfl)
   ·exact .inr (.inr rfl)
 ·have he:=B i o hi b;exact (ok1 i hi).1 j (by rw [he]; exact hj)
 ·have he:=B i o hi b;obtain ⟨j,hj,hh⟩:=(ok1 i hi).2 p hp;rw [he] at hj;exact ⟨j,hj,hh⟩
 ·rcases (ok2 j hj i r).1 with (h | h) | h
  ·exact absurd h h1
  ·exact absurd h2 h
  ·exact h
 ·rcases (ok2 j hj i r).2 with h | h
  ·rw [show (l.getD i default).cls=2 from h1,show (l.getD j default).cls=2 from h2] at h; simp at h
  ·exact h
 ·have:=w i hi (t,some j) v
  simp only [NW,W6,WT,XC,Yq,beq_iff_eq,decide_eq_true_eq,Yv,bne_iff_ne,ne_eq] at this;obtain ⟨⟨⟨c,d⟩,e⟩,n⟩:=this;refine ⟨c,d,e,fun j' s hd=>?_⟩;rcases n j' s with ((h | h) | h) | h
  ·exact absurd hd h
  ·exact .inl h
  ·exact .inr (.inl h)
  ·exact .inr (.inr h)
 ·have:=w i hi (t,none) v
  simp only [NW,WT,XC,Yq,beq_iff_eq,Yv,bne_iff_ne,ne_eq] at this;rcases this j' s with (h | h) | h
  ·exact absurd hd h
  ·exact .inl h
  ·exact .inr h
 ·have:=(m i hi).1 (k,adds) hm
  simp only [NY,WT,W6,beq_iff_eq,decide_eq_true_eq,Yv,XA,] at this;obtain ⟨⟨⟨c,d⟩,e⟩,n⟩:=this a ha;exact ⟨c,d,by simpa using e,n⟩
 ·have:=(m i hi).2
  rw [if_pos (show (l.getD i default).cls=0 from hc)] at this;simp only [NX,WT,XC,Yq,W7,W6,beq_iff_eq,decide_eq_true_eq,Yv] at this;rcases this k zO with ⟨q,hq,h | h⟩ | ⟨p,hp,rfl⟩
  ·exact .inl ⟨q,hq,h.1,h.2⟩
  ·exact .inr (.inl ⟨q,hq,h.1,h.2⟩)
  ·exact .inr (.inr ⟨p.2,hp⟩)
 ·have:=(m i hi).2
  rw [if_neg (show ¬ (l.getD i default).cls=0 by have:(l.getD i default).cls=2:=hc; omega),if_neg (show ¬ (l.getD i default).cls=1 by have:(l.getD i default).cls=2:=hc; omega)] at this;unfold Rk at this;split at this
  ·rename_i p hp;simp only [W6,WT,XC,beq_iff_eq,decide_eq_true_eq] at this;obtain ⟨⟨c,d⟩,e⟩:=this;refine ⟨p.1,p.2,hp,c,d,fun a ha=>?_⟩
   have:=e a ha
   have h1:(a∈dS l (p.1+1)) ↔ (dS l (p.1+1)).contains a=true:=by simp
   rw [h1,this]
   simp
  ·cases this
def Gm {P:Program} {ops:Array Oper} {ds:List ke} {late:List Nat} (h:J7 P ops=some (ds,late)):∃ l,uJ P ops l ds/\l.length=ops.size/\late=xq l:=by
 simp only [J7] at h;split at h
 ·cases h
 rename_i l hl;split at h
 rotate_left
 ·cases h
 rename_i b;simp only [Xb,Prod.mk.injEq] at h;obtain ⟨a,c⟩:=h;rw [a] at b;obtain ⟨G,d⟩:=IF (ops:=ops) (os:=ops.toList) (fun i o h=>by simpa using h) hl a b;exact ⟨l,G,by simpa using d,c.symm⟩
def uH {l:List DI} {ds:List ke} (a:ds.length=l.length) (hc:∀ i,i<l.length->(ds.getD i default).cls=U0 l i) :
  ∀ q,q<=l.length->((ds.take q).filter fun d=>d.cls == 2).length=((List.range q).filter fun i=>(l.getD i default).cls == 2).length
 | 0,_=>rfl
 | q+1,h=>by
  rw [TY zO,List.range_succ,XQ,XQ,WM,WM,uH a hc q zO]
  have:=hc q zO
  rw [qf,zh zO,XG] at this;congr 1;simp only [YI,Zu];rw [this,show (l.getD q default).cls=U0 l q from rfl];split <;> rfl
section
variable {P:Program} {ops:Array Oper} {l:List DI} {ds:List ke} {T0:Tm} {s:DS} {base:Nat} {F:Nat->Prop} {μ0:Mu} {H0:Heap} {w0:World} {df:List Deferred}
def OH {cal:oR} (y:oi P cal) {fence:Fence} {rd:Bool} (x:FenceOK fence rd) {n:Nat} {Q:Exit->Act->World->Prop} (G:uJ P ops l ds) (E:l.length=ops.size)
  (A:∀ i,i<l.length->T9 cal base T0 s i (ds.getD i default)) (B:∀ i,i<l.length->lu base T0 s i (ds.getD i default)=true)
  (q:∀ S k μ a w,(∀ j,j<l.length->S j=true)->Inv P l T0 s base F μ0 H0 w0 df S k μ a w->Q .normal a w) :
  ∀ (d:Nat) (b:Array Bool) (k:Nat) (μ:Mu) (a:Act) (w:World),b.size=l.length->Mv (fun j=>b.getD j false) l.length=d ->
   Inv P l T0 s base F μ0 H0 w0 df (fun j=>b.getD j false) k μ a w->wpAnyIn fence n P .any ops Q d b a w:=by
 intro d
 induction d with
 | zero =>
  intro b k μ a w c t J;have m:=GA _ t;refine ⟨?_,q _ k μ a w m J⟩
  apply List.eq_nil_iff_forall_not_mem.2
  intro j hj;have h0:=(mem_ready.1 hj).1;have hlt:j<b.size:=by
   rcases Nat.lt_or_ge j b.size with h | h
   ·exact h
   ·simp [Zr h] at h0
  have:=m j (c ▸ hlt)
  simp [hlt] at h0 this;rw [h0] at this; cases this
 | succ d C =>
  intro b k μ a w c t J;refine ⟨fun hr=>?_,fun i hi=>?_⟩
  ·refine q _ k μ a w ?_ J;intro j
   induction j using Nat.strongRecOn with
   | _ j hj =>
    intro hlt;cases f:b.getD j false with
    | true=>rfl
    | false =>
     exfalso
     obtain ⟨o,g,_⟩:=G.op j hlt
     have:j∈Region.ready .any ops b:=by
      refine mem_ready.2 ⟨?_,o,g,fun e he hb=>?_⟩
      ·have:j<b.size:=zO
       simp [this] at f ⊢; exact f
      ·have hm:e.on∈mC o:=by
        unfold mC;exact DT.2 ⟨e,WO.2 ⟨by simpa using he,hb⟩,rfl⟩
       have z:=G.back j o hlt g _ hm;exact hj e.on z zO
     rw [hr] at this; cases this
  ·obtain ⟨h0,o,g,m⟩:=mem_ready.1 hi;have hlt:i<b.size:=by
    rcases Nat.lt_or_ge i b.size with h | h
    ·exact h
    ·simp [Zr h] at h0
   have f:b.getD i false=false:=by simp [hlt] at h0 ⊢; exact h0
   have u:(fun j=>(b.setIfInBounds i true).getD j false)=add (fun j=>b.getD j false) i:=by
    funext j
    by_cases e:j=i
    ·subst e; simp [add,hlt]
    ·rw [getD_set_ne false (Ne.symm e)]; simp [add,e]
   refine LQ y x J G (A i (c ▸ hlt)) (KR (B i (c ▸ hlt)) k) (c ▸ hlt) f (fun p hp=>?_) fun a' w' μ' D v=>?_
   ·obtain ⟨j,hj,hh⟩:=G.pre i o (c ▸ hlt) g p hp;unfold mC at hj;obtain ⟨e,he,rfl⟩:=DT.1 hj;rw [WO] at he;have r:=m e (by simpa using he.1) he.2;rcases hh with rfl | hh
    ·exact r
    ·refine J.cl e.on ?_ r p hh
     have:=G.back i o (c ▸ hlt) g e.on (by unfold mC; exact DT.2 ⟨e,WO.2 he,rfl⟩)
     omega
   ·refine C _ D μ' a' w' (by simp [c]) ?_ (u ▸ v);rw [u]
    have:=J4 (S:=fun j=>b.getD j false) f l.length (c ▸ hlt)
    omega
def HR.of_heap {μ:Mu} {H:Heap} {w w':World} (h:HR P μ F H w) (a:w'.heap=w.heap):HR P μ F H w' :=
 ⟨fun b L hb=>a ▸ h.dom b L hb,fun c hc=>a ▸ h.fb c hc,fun b e hb=>let ⟨L,hL,d⟩:=h.ent b e hb; ⟨L,hL,d.mono (fun _ _ h=>h) (fun _ h=>h) (fun c _=>by rw [a]) (by rw [a]) (fun hr=>d.notF hr)⟩,h.inj,fun g cs hg=>(h.gl g cs hg).mono (fun _ _ h=>h) (fun _ h=>h) fun c _=>by rw [a]⟩
def IE {cal:oR} (aa:oi P cal) (hm:P.follows .mixedOrders=true) {fence:Fence} {rd:Bool} (U:FenceOK fence rd) {n id:Nat} {late:List Nat} {Q:Exit->Act->World->Prop} {T T':Tm} {H H':Heap} {μ:Mu} {a:Act} {w:World}
  (hc:J7 P ops=some (ds,late)) (f:Gn cal ds late T H=some (T',H')) (hT:LR μ F w T a.tmps.toList) (hH:HR P μ F H w)
  (X:∀ a' w' μ',a'.defers=a.defers->LR μ' F w' T' a'.tmps.toList->HR P μ' F H' w'->Stp sZ P μ F H w μ' F H' w'->Q .normal a' w') :
  (Code.region id ops true).wpIn fence n P Q a w:=by
 obtain ⟨l,G,r,rfl⟩:=Gm hc;unfold Gn at f;split at f
 ·cases f
 rename_i s hs;split at f
 rotate_left
 ·cases f
 rename_i af;cases f;have z:∀ d∈ds,d.cls=0\/d.cls=1\/d.cls=2:=by
  intro d hd;obtain ⟨i,hi,rfl⟩:=XH hd;have B:i<l.length:=by rw [<- G.dlen]; exact hi
  have h1:=G.cl i B;rw [<- (G.dso i B).2.2.2,getD_of (zh hi)] at h1;exact h1
 obtain ⟨k1,k2,k3,k4,k5⟩:=LS ds 0 _ _ z hs;have hcl:∀ i,i<l.length->(ds.getD i default).cls=U0 l i:=fun i hi=>(G.dso i hi).2.2.2;have p:∀ i,i<l.length->ds[i]? = some (ds.getD i default):=by
  intro i hi
  have:i<ds.length:=by rw [G.dlen]; exact hi
  rw [zh this];simp [qf,zh this]
 have Z:s.Vs.length=l.length:=by rw [k2,G.dlen]; simp
 have ae:∀ i,i<l.length->T9 cal H.next T s i (ds.getD i default):=by
  intro i hi;obtain ⟨s1,s2,v,e2,e3,e4,K⟩:=k5 i _ (p i hi);rw [Xg] at v;refine Su v e2 (z _ (WN (p i hi))) (by simpa using e3) (by simpa using e4) (fun u hu j hj=>?_) (fun h2 k adds hl=>?_)
  ·obtain ⟨t,u⟩:=u;have hj:u=some j:=hj;subst hj;exact (G.useS i hi t j hu).2.2.1
  ·have y:U0 l i=2:=(hcl i hi) ▸ h2;obtain ⟨kk,ah,C,M,N,_⟩:=G.act i hi y;rw [hl] at C; cases C;refine ⟨?_,fun a ha=>(G.look i hi k adds (by rw [hl]; exact WH ..) a ha).2.2.2⟩;rw [K,uH G.dlen hcl i zO];obtain ⟨q1,q2⟩:=Pd hi y
   have:=GW q1 M (q2.trans N.symm)
   rw [this]
   simp; omega
 have g:s.Cs.getD 0 default = { H with next:=H.next+ds.length }:=by rw [lx k1.2.1 (by simp)]; rfl
 have R:s.Cs.length=(aE l).length+1:=by
  have:=uH G.dlen hcl l.length (Jv _)
  rw [WS (by rw [G.dlen]; exact Jv _)] at this;rw [k4,this]; simp [aE]; omega
 obtain ⟨w1,m⟩:∃ w1,w1 = { w with drawn:=w.drawn+1 }:=⟨_,rfl⟩
 have V:HR P μ F H w1:=hH.of_heap (by rw [m]);have O:HR P μ F (s.Cs.getD 0 default) w1:=by rw [g]; exact V.bump _
 have ag:Stp sZ P μ F H w μ F H w1:=by
  subst m;exact ⟨fun _ _ h=>h,fun _ h=>h,Jv _,fun _ _ _=>rfl,fun b L hb hL=>.inr ⟨b,L,hb,hL,rfl⟩,Jv _,fun _ _ _ h=>h,fun b L h=>.inl ⟨b,L,h,rfl⟩,fun b e h _ _=>⟨e,h⟩,fun b e L h hL=>.inr ⟨b,e,L,h,hL,rfl⟩,Tp.draw,rfl,rfl⟩
 have E:Hh l s H.next (fun _=>false) 0=s.Cs.getD 0 default:=by
  unfold Hh
  have:D7 l (fun _=>false) 0=[]:=by simp [D7]
  rw [this]; rfl
 have D:∀ j,(Array.replicate ops.size false).getD j false=false:=by
  intro j;rcases Nat.lt_or_ge j ops.size with h | h
  ·simp [h]
  ·simp [Zr (show (Array.replicate ops.size false).size<=j by simpa using h)]
 have I:Inv P l T s H.next F μ (s.Cs.getD 0 default) w1 a.defers (fun j=>(Array.replicate ops.size false).getD j false) 0 μ a w1:=by
  have hf:(fun j=>(Array.replicate ops.size false).getD j false)=fun _=>false:=funext D;rw [hf];refine ⟨fun j _ h=>(by cases h),WG _,fun q _=>(by simp),?_,by rw [E]; exact O,fun j hj _ _=>?_,?_,fun j hj _=>kS hH (W3 _ _),by rw [E]; exact Stp.refl _ _ _ _ _ _,rfl⟩
  ·rw [Pf]; exact LR.mono (w:=w) (w':=w1) (fun _ _ h=>h) (fun _ h=>h) (fun _ _=>by rw [m]) hT
  ·rw [g];cases hg:H.get (H.next+j) with
   | none=>exact hg
   | some e =>
    obtain ⟨L,hL,_⟩:=hH.ent _ e hg;rw [kS hH (W3 _ _)] at hL; cases hL
  ·rw [g,G.dlen]; exact Jv _
 refine wpIn_region_any hm ?_;rw [<- m];refine OH aa U G r ae (fun i hi=>?_) (fun S k μ' a' w' o J=>?_) ops.size _ 0 μ a w1 (by simp [r]) ?_ I
 ·have:=Fu ds 0 af i _ (p i hi)
  rwa [Xg] at this
 ·have hk:k=(aE l).length:=by
   rcases Nat.lt_or_ge k (aE l).length with h | h
   ·have:=(J.act k h).1 (o _ (se h).1); omega
   ·have:=J.kle; omega
  subst hk;have Y:TS l T s S=gT T ds s.Vs:=by
   rw [K0 G.dlen Z (fun i hi=>(G.dso i hi).1)];unfold TS
   apply X0
   intro t _;exact zA _ o
  have ad:D7 l S (aE l).length=xq l:=by
   rw [<- QC];unfold D7
   apply ZV
   intro x hx;rw [o x (by simpa using hx)]
  have ab:s.Cs.getLastD default=s.Cs.getD (aE l).length default:=by
   rw [List.getLastD_eq_getLast?,List.getLast?_eq_getElem?,R,qf]; rfl
  have W:Hh l s H.next S (aE l).length=dJ H.next s.Es (s.Cs.getLastD default) (xq l):=by
   unfold Hh; rw [ad,ab]
  have A:=J.hr;have c:=J.st;rw [W] at A c;refine X a' w' μ' J.df (Y ▸ J.tm) A (ag.trans ?_);rw [g] at c;exact ⟨c.mu,c.fr,c.size,c.keep,c.rw,WK (W3 _ _) c.next,fun b hb _ hn=>c.new b (WP hb (W3 _ _)) zO hn,c.rng,fun b e hb hl _=>c.old b e hb (WP hl (W3 _ _)) zO,c.alv,c.tape,c.os,c.out⟩
 ·rw [J3 _ (fun j _=>D j),r]
end
section
variable {μ μ':Mu} {F:Nat->Prop} {w w':World}
def VR.back (q:∀ b L,μ b=some L->μ' b=some L) {c:AV} {v0:Value} (h0:VR μ F w c v0):∀ {v:Value},VR μ' F w' c v->VR μ F w' c v:=by
 induction h0 with
 | undef v0=>intro v h; exact .undef v
 | bool b=>intro v h; cases h; exact .bool b
 | int k n=>intro v h; cases h; exact .int k n
 | str s=>intro v h; cases h; exact .str s
 | nilPtr=>intro v h; cases h; exact .nilPtr
 | nilSl=>intro v h; cases h; exact .nilSl
 | nilFn=>intro v h; cases h; exact .nilFn
 | nilIf=>intro v h; cases h; exact .nilIf
 | nilMap=>intro v h; cases h; exact .nilMap
 | agg cs vs hl B g =>
  intro v h;cases h with
  | agg _ us A C =>
   refine .agg cs us A fun i c u hc e=>?_;obtain ⟨x,hx⟩:∃ x,vs[i]? = some x:=⟨vs[i]'(by have:=(WI.1 hc).1; omega),XN _⟩
   exact g i c x hc hx (C i c u hc e)
 | tup cs vs hl B g =>
  intro v h;cases h with
  | tup _ us A C =>
   refine .tup cs us A fun i c u hc e=>?_;obtain ⟨x,hx⟩:∃ x,vs[i]? = some x:=⟨vs[i]'(by have:=(WI.1 hc).1; omega),XN _⟩
   exact g i c x hc hx (C i c u hc e)
 | sl0 a cap =>
  intro v h;cases h with
  | sl0 a cap=>exact .sl0 a cap
  | sl _ _ cap blk off arr ty fr d j m l p=>exact .sl0 _ _
 | sl cells n cap blk off arr ty fr H hb hn I B g =>
  intro v h;cases h with
  | sl0 a cap=>exact .sl0 a cap
  | sl _ _ cap' y D r E z d j m l p =>
   refine .sl cells n cap' y D r E z d j m l fun i c u hc e=>?_;obtain ⟨x,hx⟩:∃ x,arr[off+i]? = some x:=⟨arr[off+i]'(by have:=(WI.1 hc).1; omega),XN _⟩
   exact g i c x hc hx (p i c u hc e)
 | dp cells o blk off arr ty fr H hb I B g =>
  intro v h;cases h with
  | dp _ _ y D r E z d j l p =>
   refine .dp cells o y D r E z d j l fun i c u hc e=>?_;obtain ⟨x,hx⟩:∃ x,arr[off+i]? = some x:=⟨arr[off+i]'(by have:=(WI.1 hc).1; omega),XN _⟩
   exact g i c x hc hx (p i c u hc e)
 | own b off n c sz ex L cap h1 h2 h3 h4 h5 O =>
  intro v h;cases h with
  | own _ _ _ _ _ _ L' cap' d j m l p G =>
   have:=q _ _ h1
   rw [d] at this;cases this;exact .own b off n c sz ex L cap' h1 j m l p G
 | ptr b off L h1 =>
  intro v h;cases h with
  | ptr _ _ L' d =>
   have:=q _ _ h1
   rw [d] at this;cases this;exact .ptr b off L h1
 | fn f as bs us vs h1 h2 h3 h4 J K =>
  intro v h;cases h with
  | fn _ _ _ M N d j m l =>
   refine .fn f as bs M N d (fun i c u hc e=>?_) m fun i c u hc e=>?_
   ·obtain ⟨x,hx⟩:∃ x,us[i]? = some x:=⟨us[i]'(by have:=(WI.1 hc).1; omega),XN _⟩
    exact J i c x hc hx (j i c u hc e)
   ·obtain ⟨x,hx⟩:∃ x,vs[i]? = some x:=⟨vs[i]'(by have:=(WI.1 hc).1; omega),XN _⟩
    exact K i c x hc hx (l i c u hc e)
 | ifc t x v0 hx g =>
  intro v h;cases h with
  | ifc _ _ u e=>exact .ifc t x u (g e)
 | map b L h1 =>
  intro v h;cases h with
  | map _ L' d =>
   have:=q _ _ h1
   rw [d] at this;cases this;exact .map b L h1
 | loopv b L h1 =>
  intro v h;cases h with
  | loopv _ L' d =>
   have:=q _ _ h1
   rw [d] at this;cases this;exact .loopv b L h1
def LR.back (d:∀ b L,μ b=some L->μ' b=some L) {cs:List AV} {vs0 vs:List Value} (h0:LR μ F w cs vs0) (h:LR μ' F w' cs vs):LR μ F w' cs vs:=by
 refine ⟨h.1,fun i c v hc a=>?_⟩;obtain ⟨x,hx⟩:∃ x,vs0[i]? = some x:=⟨vs0[i]'(by have:=(WI.1 hc).1; have:=h0.1; omega),zh _⟩
 exact (h0.2 i c x hc hx).back d (h.2 i c v hc a)
end
def LM:Ex->Exit
 | .nrm=>.normal
 | .exit i=>.exit i
 | .goto l=>.goto l
 | .ret=>.ret
def DM (B:Nat × List Deferred) (μ:Mu) (F:Nat->Prop) (w:World) (ds:List Deferred):Prop :=
 ∃ Ds:List Nat,ds=Ds.map (fun D=>{ target:=.collected D,args:=#[] })++B.2/\Ds.Nodup /\
  ∀ D∈Ds,B.1<=D/\D<w.heap.size/\w.heap[D]? = some (.deferred (some []))/\¬ F D/\∀ b L,μ b=some L->L.blk≠D
section
variable {P:Program} {μ:Mu} {F:Nat->Prop} {H:Heap} {w:World} {T:Tm} {a:Act} {B:Nat × List Deferred}
def DM.nil {B:Nat × List Deferred}:DM B μ F w B.2:=⟨[],rfl,List.nodup_nil,fun D h=>by cases h⟩
def DM.stp {I:Nat->Prop} {μ':Mu} {H':Heap} {w':World} {ds:List Deferred} (h:DM B μ F w ds) (a:Stp I P μ F H w μ' F H' w'):DM B μ' F w' ds:=by
 obtain ⟨Ds,h1,h2,h3⟩:=h;refine ⟨Ds,h1,h2,fun D hD=>?_⟩;obtain ⟨f,c,g,i,d⟩:=h3 D hD;refine ⟨f,WP c a.size,?_,i,fun b L hb=>?_⟩
 ·rw [a.keep D c fun b L _ hL=>d b L hL]; exact g
 ·rcases a.rng b L hb with ⟨b0,L0,h0,e⟩ | hge
  ·rw [<- e]; exact d b0 L0 h0
  ·omega
structure Mw (P:Program) (B:Nat × List Deferred) (μ:Mu) (F:Nat->Prop) (H:Heap) (w:World) (T:Tm) (a:Act):Prop where
 hT:LR μ F w T a.tmps.toList
 hH:HR P μ F H w
 hD:DM B μ F w a.defers
def lY (P:Program) (rd:Bool) (c:Code) (T:Tm) (H:Heap) (x:Ex) (T':Tm) (H':Heap):Prop :=
 ∀ (fence:Fence) (n:Nat) (B:Nat × List Deferred) (μ:Mu) (F:Nat->Prop) (w:World) (a:Act) (Q:Exit->Act->World->Prop),FenceOK fence rd->B.1<=w.heap.size->Mw P B μ F H w T a ->
  (∀ a' w' μ',Mw P B μ' F H' w' T' a'->Stp sZ P μ F H w μ' F H' w'->Q (LM x) a' w')->c.wpIn fence n P Q a w
def DM.back {μ':Mu} {ds:List Deferred} (a:∀ b L,μ b=some L->μ' b=some L) (h:DM B μ' F w ds):DM B μ F w ds:=by
 obtain ⟨Ds,h1,h2,h3⟩:=h;exact ⟨Ds,h1,h2,fun D hD=>⟨(h3 D hD).1,(h3 D hD).2.1,(h3 D hD).2.2.1,(h3 D hD).2.2.2.1,fun b L hb=>(h3 D hD).2.2.2.2 b L (a b L hb)⟩⟩
def DM.keep {w':World} {ds:List Deferred} (h:DM B μ F w ds) (hs:w.heap.size<=w'.heap.size) (f:∀ (D:Nat),w.heap[D]? = some (.deferred (some []))->w'.heap[D]? = w.heap[D]?):DM B μ F w' ds:=by
 obtain ⟨Ds,h1,h2,h3⟩:=h;refine ⟨Ds,h1,h2,fun D hD=>?_⟩;obtain ⟨b,c,a,d,e⟩:=h3 D hD;exact ⟨b,WP c hs,(f D a).trans a,d,e⟩
def DE {H:Heap} (hH:HR P μ F H w) {b:Nat} {e:Ent} (h:H.ro.get b=some e):∃ e0,H.get b=some e0/\e0.ro=some e:=by
 rw [Heap.get_ro] at h;split at h
 ·cases hg:H.get b with
  | none=>rw [hg] at h; cases h
  | some e0=>rw [hg] at h; exact ⟨e0,rfl,h⟩
 ·rename_i hlt;obtain ⟨L,hL,_⟩:=hH.ent b e h
  have:=(hH.dom b L hL).1
  omega
def Tt {H:Heap} (hH:HR P μ F H w) {b:Nat}:¬ H.ro.rwAt b:=by
 rintro ⟨e,h,hr⟩;obtain ⟨e0,-,h0⟩:=DE hH h;cases e0 <;> simp only [Ent.ro] at h0 <;> first | (cases h0; done) | (simp only [Xb] at h0; subst h0; cases hr)
def Tu {H:Heap} (hH:HR P μ F H w):HR P μ F H.ro w:=by
 refine ⟨hH.dom,hH.fb,fun b e h=>?_,fun b b' e e' L L' h h' hL d hb=>?_,hH.gl⟩
 ·obtain ⟨e0,h0,he⟩:=DE hH h;obtain ⟨L,hL,a⟩:=hH.ent b e0 h0;refine ⟨L,hL,?_⟩;cases e0 <;> simp only [Ent.ro] at he <;> first | (cases he; done) | (simp only [Xb] at he; subst he)
  ·obtain ⟨arr,fr,h1,h2,h3,h4,h5,f,g⟩:=a;exact ⟨arr,fr,h1,h2,h3,h4,h5,fun h=>(by cases h),fun _=>trivial⟩
  ·exact a.2
  ·exact a
 ·obtain ⟨e0,h0,-⟩:=DE hH h;obtain ⟨c,h1,-⟩:=DE hH h';exact hH.inj b b' e0 c L L' h0 h1 hL d hb
def Qe {I:Nat->Prop} {H H2 H':Heap} {μ':Mu} {w':World} (hH:HR P μ F H w) (h2:∀ b,H2.get b=H.ro.get b) (a:Stp I P μ F H2 w μ' F H' w'):∀ c,c<w.heap.size->w'.heap[c]? = w.heap[c]? :=
 fun c hc=>a.keep c hc fun b L ⟨e,he,hr⟩ _=>absurd ⟨e,h2 b ▸ he,hr⟩ (Tt hH)
def AI {cal:oR} {m:Nat} {rd:Bool} {c:Code} {ac:ACode} (hc:∀ T H x T' H',aM cal m rd ac T H=some (x,T',H')->lY P rd c T H x T' H') :
  ∀ (k:Nat) (T:Tm) (H:Heap) (x:Ex) (T':Tm) (H':Heap),AJ (aM cal m rd ac) k T H=some (x,T',H') ->
  ∀ (fence:Fence) (n:Nat) (B:Nat × List Deferred) (μ:Mu) (F:Nat->Prop) (w:World) (a:Act) (Q:Exit->Act->World->Prop),FenceOK fence rd->B.1<=w.heap.size->Mw P B μ F H w T a ->
  (∀ a' w' μ',Mw P B μ' F H' w' T' a'->Stp sZ P μ F H w μ' F H' w'->Q (LM x) a' w')->x ≠ .nrm/\Code.roundsIn fence n P c Q k a w
 | 0,T,H,x,T',H',h=>by cases h
 | k+1,T,H,x,T',H',h=>by
  intro fence n B μ F w a Q f d j i;simp only [AJ] at h;split at h
  ·rename_i T1 l h1;refine ⟨?_,?_⟩
   ·
    have key:∀ (k:Nat) (T:Tm) (H:Heap) (x:Ex) (T':Tm) (H':Heap),AJ (aM cal m rd ac) k T H=some (x,T',H')->x ≠ .nrm:=by
     intro k
     induction k with
     | zero=>intro T H x T' H' h; cases h
     | succ k q =>
      intro T H x T' H' h;simp only [AJ] at h;split at h
      ·exact q _ _ _ _ _ h
      ·rename_i hne;intro e;subst e;exact hne _ _ h
    exact key _ _ _ _ _ _ h
   ·rw [roundsIn_succ];refine hc T H _ _ _ h1 fence n B μ F w a _ f d j fun a' w' μ' g b=>?_;exact (AI hc k T1 l x T' H' h fence n B μ' F w' a' Q f (WK d b.size) g fun a2 w2 μ2 o p=>i a2 w2 μ2 o (b.trans p)).2
  ·rename_i hne;have hx:x ≠ .nrm:=fun e=>by subst e; exact hne _ _ h
   refine ⟨hx,?_⟩;rw [roundsIn_succ];refine hc T H _ _ _ h fence n B μ F w a _ f d j fun a' w' μ' g b=>?_
   have:=i a' w' μ' g b
   cases x <;> first | exact this | exact absurd rfl hx
def FL (hH:HR P μ F H w) (o:Obj):HR P μ F H (w.alloc o)/\Stp sZ P μ F H w μ F H (w.alloc o):=by
 have a:∀ c,c<w.heap.size->(w.alloc o).heap[c]? = w.heap[c]?:=fun c hc=>qa _ _ hc;have f:(w.alloc o).heap.size=w.heap.size+1:=by simp
 refine ⟨⟨fun b L hb=>?_,fun c hc=>?_,fun b e hb=>?_,hH.inj,fun g cs hg=>(hH.gl g cs hg).mono (fun _ _ h=>h) (fun _ h=>h) fun c hc=>a c (hH.fb c hc)⟩,⟨fun _ _ h=>h,fun _ h=>h,zO,fun c hc _=>a c hc,fun b L hb hL=>.inr ⟨b,L,hb,hL,rfl⟩,Jv _,fun _ _ _ h=>h,fun b L h=>.inl ⟨b,L,h,rfl⟩,fun b e h _ _=>⟨e,h⟩,fun b e L h hL=>.inr ⟨b,e,L,h,hL,rfl⟩,Tp.same rfl rfl,rfl,rfl⟩⟩
 ·have:=hH.dom b L hb; exact ⟨this.1,zO⟩
 ·have:=hH.fb c hc; omega
 ·obtain ⟨L,hL,d⟩:=hH.ent b e hb;exact ⟨L,hL,d.mono (fun _ _ h=>h) (fun _ h=>h) (fun c hc=>a c (hH.fb c hc)) (a _ (hH.dom b L hL).2) (fun hr=>d.notF hr)⟩
def xD (a b:Code):bD P (.seq a b)=(do some (.seq (<- bD P a) (<- bD P b))):=by rw [bD]
def AG {c:Code} {ac:ACode} (h:bD P c=some ac):(ac=.ret->c=.ret)/\(∀ id,ac=.exit id->c=.exit id)/\(∀ l,ac=.goto l->c=.goto l):=by
 have no:∀ {ac:ACode},ac ≠ .ret->(∀ id,ac ≠ .exit id)->(∀ l,ac ≠ .goto l)->(ac=.ret->c=.ret)/\(∀ id,ac=.exit id->c=.exit id)/\(∀ l,ac=.goto l->c=.goto l) :=
  fun h1 h2 h3=>⟨fun h=>absurd h h1,fun id h=>absurd h (h2 id),fun l h=>absurd h (h3 l)⟩
 cases c with
 | ret=>cases h; exact ⟨fun _=>rfl,fun id h=>(by cases h),fun l h=>(by cases h)⟩
 | exit id=>cases h; exact ⟨fun h=>(by cases h),fun id h=>(by cases h; rfl),fun l h=>(by cases h)⟩
 | goto l=>cases h; exact ⟨fun h=>(by cases h),fun id h=>(by cases h),fun l h=>(by cases h; rfl)⟩
 | skip=>cases h; exact no (fun h=>by cases h) (fun id h=>by cases h) (fun l h=>by cases h)
 | label l=>cases h; exact no (fun h=>by cases h) (fun id h=>by cases h) (fun l h=>by cases h)
 | refuse w=>cases h; exact no (fun h=>by cases h) (fun id h=>by cases h) (fun l h=>by cases h)
 | region i ops d =>
  simp only [bD] at h;split at h
  ·split at h
   ·cases h; exact no (fun h=>by cases h) (fun id h=>by cases h) (fun l h=>by cases h)
   ·cases h; exact no (fun h=>by cases h) (fun id h=>by cases h) (fun l h=>by cases h)
  ·simp only [WE] at h;obtain ⟨_,_,h⟩:=h;subst h; exact no (fun h=>by cases h) (fun id h=>by cases h) (fun l h=>by cases h)
 | seq e g =>
  have he:=xD (P:=P) e g
  ·rw [he] at h;simp only [C6,eD] at h;obtain ⟨_,_,_,_,h⟩:=h;cases h; exact no (fun h=>by cases h) (fun id h=>by cases h) (fun l h=>by cases h)
 | cond c a b =>
  simp only [bD,C6,eD] at h;obtain ⟨_,_,_,_,_,_,h⟩:=h;cases h; exact no (fun h=>by cases h) (fun id h=>by cases h) (fun l h=>by cases h)
 | block i a =>
  simp only [bD,C6,eD] at h;obtain ⟨_,_,h⟩:=h;cases h; exact no (fun h=>by cases h) (fun id h=>by cases h) (fun l h=>by cases h)
 | loop a =>
  simp only [bD,C6,eD] at h;obtain ⟨_,_,h⟩:=h;cases h; exact no (fun h=>by cases h) (fun id h=>by cases h) (fun l h=>by cases h)
 | scope a =>
  simp only [bD,C6,eD] at h;obtain ⟨_,_,h⟩:=h;cases h;unfold DB;split
  ·split
   ·exact no (fun h=>by cases h) (fun id h=>by cases h) (fun l h=>by cases h)
   ·exact no (fun h=>by cases h) (fun id h=>by cases h) (fun l h=>by cases h)
  ·exact no (fun h=>by cases h) (fun id h=>by cases h) (fun l h=>by cases h)
 | rangeFunc f ps a b =>
  simp only [bD,C6,eD] at h;obtain ⟨_,_,_,_,_,_,h⟩:=h;cases h; exact no (fun h=>by cases h) (fun id h=>by cases h) (fun l h=>by cases h)
theorem Qf {c:Code} (h:bD P c=some .ret):c=.ret:=(AG h).1 rfl
theorem OB {c:Code} {id:Nat} (h:bD P c=some (.exit id)):c=.exit id:=(AG h).2.1 id rfl
theorem Ow {c:Code} {id:Nat} (h:bD P c=some (.goto id)):c=.goto id:=(AG h).2.2 id rfl
def qC {cal:oR} (aj:oi P cal) {fence:Fence} (y:FenceOK fence false) {n:Nat} {g:Operand} {ps:Array Tmp} {A body:Code} {s:Src} {t a2:ACode} (hs:bW g=some s) (h1:bD P A=some t) (h2:bD P body=some a2)
  {fi:Nat} {args:List AV} {v:AV} {H2:Heap} (p:jd (s.ev T) [.loopv H.next]=some (.fn fi args))
  (av:cal (.ent fi args) (({ H with next:=H.next+1 }:Heap).put H.next (.loop T ps.toList t a2 .ready none))=some (v,H2)) (hB:B.1<=w.heap.size) (f:Mw P B μ F H w T a) {Q:Exit->Act->World->Prop}
  (ak:∀ T' o k l st j,H2.get H.next=some (.loop T' o k l st j)->st ≠ .busy/\∀ (r:Option Code),(match j,r with | none,none=>True | some c,some c'=>bD P c'=some c | _,_=>False) ->
   ∀ a' w' μ',Mw P B μ' F (H2.kill H.next) w' T a'->Stp sZ P μ F H w μ' F (H2.kill H.next) w'->(match r with | none=>Q .normal a' w' | some c=>c.wpIn fence n P Q a' w'))
  (al:∃ T' o k l st j,H2.get H.next=some (.loop T' o k l st j)):(Code.rangeFunc g ps A body).wpIn fence n P Q a w:=by
 refine wpIn_rangeFunc fun fn _=>?_;have ar:fence.round=none:=by
  rcases y with ⟨_,rfl⟩ | ⟨h,_⟩; · rfl
  ·cases h
 obtain ⟨ad,V⟩:=FL f.hH (.deferred (some []));obtain ⟨i,m⟩:∃ i:Loop,i = { state:=.ready,pending:=none,fn,tmps:=a.tmps,params:=ps,assign:=A,body,defers:=w.heap.size }:=⟨_,rfl⟩
 have aw:(w.alloc (.deferred (some []))).heap.size=w.heap.size+1:=by simp
 have Z:μ H.next=none:=kS f.hH (Jv _)
 obtain ⟨X,d⟩:=pd (I:=fun b=>b=H.next) (ad.bump 1) Z (ZG _) (.loop i) (.loop T ps.toList t a2 .ready none) 0 0 (fun w' M hn J=>by
  refine ⟨J,i,hn,by rw [m],?_,by rw [m],by rw [m]; exact h1,by rw [m]; exact h2,by rw [m]; trivial⟩;rw [m];exact ((V.lr f.hH f.hT).mono (jA Z) (fun _ h=>h) M)) rfl (w.alloc (.deferred (some []))) rfl (Tp.same rfl rfl) rfl rfl
 rw [aw] at X d;have E:Stp sZ P μ F H w (μ.upd H.next ⟨w.heap.size+1,0,0⟩) F (({ H with next:=H.next+1 }:Heap).put H.next (.loop T ps.toList t a2 .ready none)) ((w.alloc (.deferred (some []))).alloc (.loop i)) :=
  V.trans ⟨d.mu,d.fr,d.size,d.keep,d.rw,WK (Nat.le_succ _) d.next,fun b hb _ hn=>d.new b (Nat.lt_succ_of_lt hb) (fun e=>by have e:b=H.next:=e; omega) hn,d.rng,fun b e hb hl _=>d.old b e hb (Nat.lt_succ_of_lt hl) (fun e=>by have e:b=H.next:=e; omega),d.alv,d.tape,d.os,d.out⟩
 have af:DM B (μ.upd H.next ⟨w.heap.size+1,0,0⟩) F ((w.alloc (.deferred (some []))).alloc (.loop i)) ([{ target:=.collected w.heap.size,args:=#[] }]++a.defers):=by
  obtain ⟨Ds,S,e2,e3⟩:=f.hD.stp E;obtain ⟨ab,f1,f2,f3⟩:=f.hD;have hlt:∀ D∈Ds,D<w.heap.size:=by
   intro D hD;have hm:({ target:=.collected D,args:=#[] }:Deferred)∈ab.map (fun D=>({ target:=.collected D,args:=#[] }:Deferred)):=by
    rw [<- List.append_cancel_right (S.symm.trans f1)];exact DT.2 ⟨D,hD,rfl⟩
   obtain ⟨R,ae,he⟩:=DT.1 hm
   have:R=D:=by injection he with he _; injection he
   subst this;exact (f3 R ae).2.1
  refine ⟨w.heap.size :: Ds,by simp [S],Y3.2 ⟨fun h=>Nat.lt_irrefl _ (hlt _ h),e2⟩,fun D hD=>?_⟩;rcases WV.1 hD with rfl | hD
  ·refine ⟨hB,by rw [World.size_alloc,World.size_alloc]; omega,?_,fun h=>by have:=f.hH.fb _ h; omega,fun b L hb=>?_⟩
   ·rw [qa _ _ (by simp)]; exact World.alloc_heap_new w _
   ·by_cases e:b=H.next
    ·subst e; simp at hb; subst hb; simp
    ·rw [cx _ e] at hb; have:=(f.hH.dom b L hb).2; omega
  ·exact e3 D hD
 have hv:=aR f.hT hs;have K:=E.vr f.hH hv;have aq:LR (μ.upd H.next ⟨w.heap.size+1,0,0⟩) F ((w.alloc (.deferred (some []))).alloc (.loop i)) [.loopv H.next] [.func (.yield (w.heap.size+1)) #[] #[]]:=LR.cons (.loopv _ _ (upd_same _ _)) LR.nil
 generalize ax:s.ev T=fv at p K
 cases fv <;> simp only [jd] at p <;> first | (cases p; done) | skip
 rename_i ff first cap
 cases ff <;> simp only at p <;> first | (cases p; done) | skip
 cases p
 generalize ao:a.eval g=gv at K
 cases K with
 | fn _ _ _ us N k1 k2 k3 k4 =>
 have hl:=((LR.of_agg k1 k2).append aq).append (LR.of_agg k3 k4);obtain ⟨z,aa⟩:=aj _ _ _ _ av _ F _ _ fence false (n-1) y X hl (fun b args e=>by cases e);have z:=z _ _ rfl;simp only [nE,z,Runs] at aa;refine ⟨w.heap.size+1,[{ target:=.collected w.heap.size,args:=#[] }],(w.alloc (.deferred (some []))).alloc (.loop i),{ target:=.fn (.func fi) N,args:=us ++ #[.func (.yield (w.heap.size+1)) #[] #[]] },(w.alloc (.deferred (some []))).alloc (.loop i),
  _,_,_,?_,?_,fun f' _=>y.fn f',?_,y.depth n,aa.mono fun e O ⟨u,he,μ3,q⟩=>?_⟩
 ·rw [ar,m]; exact run_enterLoop_outer _ _ _ _ _
 ·have e:(#[Operand.const (Value.func (.yield (w.heap.size+1)) #[] #[])]).map a.eval = #[Value.func (.yield (w.heap.size+1)) #[] #[]]:=by simp only [List.map_toArray,SA,WF]; rfl
  simp only [resolve,ao,Deferred.ofValue,e,Sem.run_pure]
 ·have e:(us ++ #[Value.func (.yield (w.heap.size+1)) #[] #[]]++N)=(us.toList++[Value.func (.yield (w.heap.size+1)) #[] #[]]++N.toList).toArray:=by apply Array.ext'; simp
  simp only [invoke,e];exact z
 ·subst he;obtain ⟨T',o,k,l,st,j,G⟩:=al;obtain ⟨ah,am⟩:=ak T' o k l st j G;obtain ⟨L,hL,hE⟩:=q.heap.ent _ _ G;have W:=q.stp.mu _ _ (upd_same (μ:=μ) H.next ⟨w.heap.size+1,0,0⟩);rw [W] at hL; cases hL;obtain ⟨J,r,C,g2,g3,g4,g5,g6,U⟩:=hE;simp only at C;have hlt:=(XB.1 C).1;obtain ⟨q1,q2⟩:=jj (I:=sZ) (e:=.loop T' o k l .exhausted j) q.heap G rfl W (O.putObj (w.heap.size+1) (.loop { r with state:=.exhausted })) (fun c hc=>World.putObj_heap_other hc) (by simp [World.putObj]) (Tp.same rfl rfl) rfl rfl
   (fun M=>⟨J,_,World.putObj_heap_same hlt,rfl,g3.mono (fun _ _ h=>h) (fun _ h=>h) M,g4,g5,g6,U⟩) rfl
  obtain ⟨q3,q4⟩:=uA (I:=sZ) q1 H.next
  have Y:∀ x,((H2.put H.next (.loop T' o k l .exhausted j)).kill H.next).get x=(H2.kill H.next).get x:=by
   intro x; simp only [Heap.get_kill,Heap.get_put]; split <;> rfl
  have q5:=q3.congr (H2:=H2.kill H.next) rfl Y;have q6:Stp sZ P μ F H w μ3 F (H2.kill H.next) (O.putObj (w.heap.size+1) (.loop { r with state:=.exhausted })) :=
   (E.trans (q.stp.trans (q2.trans q4))).congr rfl fun x e he=>⟨e,by rw [Y]; exact he,rfl⟩
  refine ⟨r.pending,_,run_endLoop C (by rw [g2]; exact ah),?_⟩;have ag:Mw P B μ3 F (H2.kill H.next) (O.putObj (w.heap.size+1) (.loop { r with state:=.exhausted })) T { a with defers:=[{ target:=.collected w.heap.size,args:=#[] }]++a.defers } :=
   ⟨q6.lr f.hH f.hT,q5,(af.stp q.stp).stp (q2.trans q4)⟩
  exact am r.pending U _ _ μ3 ag q6
def cE {P:Program} {b:Frame} {a:Act} {k:List Item} {cs:List Frame} {w:World} {c:Code}:step P (lone (b.atR a (.code (.scope c) :: k)) cs w)=.next (lone (b.atR a (.code c :: .inScope c :: k)) cs w) :=
 step_lone_go (by simp [stepG,stepG.exec,Frame.atR])
def oo {P:Program} {b:Frame} {a:Act} {k:List Item} {cs:List Frame} {w:World} {c:Code}:step P (lone (b.atR a (.inScope c :: k)) cs w)=.next (lone (b.atR a k) cs w) :=
 step_lone_go (by simp [stepG,stepG.exec,Frame.atR])
def Hj {P:Program} {F:Fence} {n:Nat} {a:Act} {w:World} {Q:Exit->Act->World->Prop} {c:Code} (h:c.wpIn F n P (Exit.noGoto Q) a w):(Code.scope c).wpIn F n P Q a w:=by
 intro b k cs o hb hr;have h0:(lone (b.atR a (.code (.scope c) :: k)) cs w).fenced P F:=fenced_calm hb hr rfl;obtain ⟨e,f,g,hq,d⟩:=h b (.inScope c :: k) cs o hb hr;cases e with
 | normal=>exact ⟨.normal,f,g,hq,.head h0 cE (StepsIn.trans d (.one (fenced_calm hb hr rfl) oo))⟩
 | exit j =>
  have hx:exitTo j (.inScope c :: k)=exitTo j k:=by simp [exitTo]
  exact ⟨.exit j,f,g,hq,fun p i=>.head h0 cE (d.1 p (by rw [hx]; exact i)),
   fun m i=>let ⟨q,h1,h2⟩:=d.2 m (by rw [hx]; exact i); ⟨q,h1,.head h0 cE h2⟩⟩
 | goto l=>exact hq.elim
 | ret=>exact ⟨_,f,g,hq,.of_steps (.one h0 cE) d⟩
 | panic r=>exact ⟨_,f,g,hq,.of_steps (.one h0 cE) d⟩
 | outgrown=>exact ⟨_,f,g,hq,.of_steps (.one h0 cE) d⟩
def zP {cal:oR} {m:Nat} {rd:Bool} {T:Tm} {H:Heap}:aM cal m rd Jd T H=none:=by
 unfold Jd;simp only [aM];split <;> rfl
def Oq (l:Nat) (J:Act->World->Prop) (Q:Exit->Act->World->Prop):Exit->Act->World->Prop
 | .goto l',a,w=>l'=l/\J a w
 | e,a,w=>Q e a w
def EY (F:Fence) (n:Nat) (P:Program) (c rest:Code) (Q:Exit->Act->World->Prop) (a:Act) (w:World):Prop :=
 ∀ (b:Frame) (k:List Item) (cs:List Frame),b.roundOf=F.round->F.fn b.fn->F.room (cs.length+1+n) ->
  ∃ e a' w',Q e a' w'/\ArrivesIn (Machine.fenced P F) P (lone (b.atR a (.code rest :: .inScope c :: k)) cs w) b k cs e a' w'
def KU {P:Program} {F:Fence} {n:Nat} {a:Act} {w:World} {Q:Exit->Act->World->Prop} {c rest:Code} {l:Nat} (s:findLabel c l=some rest) (h:rest.wpIn F n P (Oq l (EY F n P c rest Q) Q) a w):EY F n P c rest Q a w:=by
 intro b k cs m hb hr;have hg:gotoIn l (.inScope c :: k)=some (.code rest :: .inScope c :: k):=by simp [gotoIn,s]
 obtain ⟨e,f,g,hq,d⟩:=h b (.inScope c :: k) cs m hb hr;cases e with
 | normal=>exact ⟨.normal,f,g,hq,StepsIn.trans d (.one (fenced_calm hb hr rfl) oo)⟩
 | exit j =>
  have hx:exitTo j (.inScope c :: k)=exitTo j k:=by simp [exitTo]
  exact ⟨.exit j,f,g,hq,fun v i=>d.1 v (by rw [hx]; exact i),fun u i=>d.2 u (by rw [hx]; exact i)⟩
 | goto l' =>
  obtain ⟨rfl,q⟩:=hq;obtain ⟨p,o,x,t,r⟩:=q b k cs m hb hr;exact ⟨p,o,x,t,.of_steps (d.1 _ hg) r⟩
 | ret=>exact ⟨_,f,g,hq,d⟩
 | panic y=>exact ⟨_,f,g,hq,d⟩
 | outgrown=>exact ⟨_,f,g,hq,d⟩
def E6 {P:Program} {F:Fence} {n:Nat} {a:Act} {w:World} {Q:Exit->Act->World->Prop} {c rest:Code} {l:Nat} (s:findLabel c l=some rest) (h:c.wpIn F n P (Oq l (EY F n P c rest Q) Q) a w):(Code.scope c).wpIn F n P Q a w:=by
 intro b k cs m hb hr;have hg:gotoIn l (.inScope c :: k)=some (.code rest :: .inScope c :: k):=by simp [gotoIn,s]
 have h0:(lone (b.atR a (.code (.scope c) :: k)) cs w).fenced P F:=fenced_calm hb hr rfl;obtain ⟨e,f,g,hq,d⟩:=h b (.inScope c :: k) cs m hb hr;cases e with
 | normal=>exact ⟨.normal,f,g,hq,.head h0 cE (StepsIn.trans d (.one (fenced_calm hb hr rfl) oo))⟩
 | exit j =>
  have hx:exitTo j (.inScope c :: k)=exitTo j k:=by simp [exitTo]
  exact ⟨.exit j,f,g,hq,fun v i=>.head h0 cE (d.1 v (by rw [hx]; exact i)),
   fun u i=>let ⟨x,h1,h2⟩:=d.2 u (by rw [hx]; exact i); ⟨x,h1,.head h0 cE h2⟩⟩
 | goto l' =>
  obtain ⟨rfl,q⟩:=hq;obtain ⟨p,o,y,t,r⟩:=q b k cs m hb hr;exact ⟨p,o,y,t,.of_steps (.head h0 cE (d.1 _ hg)) r⟩
 | ret=>exact ⟨_,f,g,hq,.of_steps (.one h0 cE) d⟩
 | panic z=>exact ⟨_,f,g,hq,.of_steps (.one h0 cE) d⟩
 | outgrown=>exact ⟨_,f,g,hq,.of_steps (.one h0 cE) d⟩
def yc {cal:oR} {m:Nat} {rd:Bool} {c rest:Code} {i:ACode} {l:Nat} (p:findLabel c l=some rest) (hc:∀ T H x T' H',aM cal m rd i T H=some (x,T',H')->lY P rd rest T H x T' H') :
  ∀ (k:Nat) (T:Tm) (H:Heap) (x:Ex) (T':Tm) (H':Heap),JJ l (aM cal m rd i) k T H=some (x,T',H') ->
  ∀ (fence:Fence) (n:Nat) (B:Nat × List Deferred) (μ:Mu) (F:Nat->Prop) (w:World) (a:Act) (Q:Exit->Act->World->Prop),FenceOK fence rd->B.1<=w.heap.size->Mw P B μ F H w T a ->
  (∀ a' w' μ',Mw P B μ' F H' w' T' a'->Stp sZ P μ F H w μ' F H' w'->Q (LM x) a' w')->EY fence n P c rest Q a w
 | 0,T,H,x,T',H',h=>by cases h
 | k+1,T,H,x,T',H',h=>by
  intro fence n B μ F w a Q f d o j;simp only [JJ] at h;refine KU p ?_;split at h
  ·rename_i l' T1 q h1;split at h
   ·rename_i e;subst e;refine hc T H _ _ _ h1 fence n B μ F w a _ f d o fun a' w' μ' g b=>⟨rfl,?_⟩
    exact yc p hc k T1 q x T' H' h fence n B μ' F w' a' Q f (WK d b.size) g fun a2 w2 μ2 r s=>j a2 w2 μ2 r (b.trans s)
   ·cases h
  ·rename_i hne;refine hc T H _ _ _ h fence n B μ F w a _ f d o fun a' w' μ' g b=>?_
   have:=j a' w' μ' g b
   cases x with
   | goto l'=>exact absurd h (hne _ _ _)
   | _=>exact this
def KL {cal:oR} {m:Nat} {rd:Bool} {g i:Code} {f a2:ACode} (h1:∀ T H x T' H',aM cal m rd f T H=some (x,T',H')->lY P rd g T H x T' H') (h2:∀ T H x T' H',aM cal m rd a2 T H=some (x,T',H')->lY P rd i T H x T' H')
  (T:Tm) (H:Heap) (x:Ex) (T':Tm) (H':Heap) (h:aM cal m rd (.seq f a2) T H=some (x,T',H')):lY P rd (.seq g i) T H x T' H':=by
 intro fence n B μ F w a Q d c k j;simp only [aM] at h;refine wpIn_seq ?_;split at h
 ·rename_i T1 l p;refine h1 T H _ _ _ p fence n B μ F w a _ d c k fun a' w' μ' e b=>?_;exact h2 T1 l _ _ _ h fence n B μ' F w' a' Q d (WK c b.size) e fun a2 w2 μ2 o q=>j a2 w2 μ2 o (b.trans q)
 ·rename_i hne;refine h1 T H _ _ _ h fence n B μ F w a _ d c k fun a' w' μ' e b=>?_
  have:=j a' w' μ' e b
  cases x <;> first | exact this | exact absurd h (hne _ _)
def Lx {c:Code} {ac:ACode} (h:bD P c=some ac):(∃ e g,c=.seq e g)\/(∃ l,c=.label l)\/∀ l,bR ac l=none:=by
 cases c with
 | seq e g=>exact .inl ⟨e,g,rfl⟩
 | label l=>exact .inr (.inl ⟨l,rfl⟩)
 | ret=>cases h; exact .inr (.inr fun l=>rfl)
 | exit id=>cases h; exact .inr (.inr fun l=>rfl)
 | goto l=>cases h; exact .inr (.inr fun l=>rfl)
 | skip=>cases h; exact .inr (.inr fun l=>rfl)
 | refuse w=>cases h; exact .inr (.inr fun l=>rfl)
 | region i ops d =>
  right; right
  simp only [bD] at h;split at h
  ·split at h
   ·cases h; exact fun l=>rfl
   ·cases h; exact fun l=>rfl
  ·simp only [WE] at h;obtain ⟨_,_,h⟩:=h;subst h; exact fun l=>rfl
 | cond c a b =>
  simp only [bD,C6,eD] at h;obtain ⟨_,_,_,_,_,_,h⟩:=h;cases h; exact .inr (.inr fun l=>rfl)
 | block i a =>
  simp only [bD,C6,eD] at h;obtain ⟨_,_,h⟩:=h;cases h; exact .inr (.inr fun l=>rfl)
 | loop a =>
  simp only [bD,C6,eD] at h;obtain ⟨_,_,h⟩:=h;cases h; exact .inr (.inr fun l=>rfl)
 | rangeFunc f ps a b =>
  simp only [bD,C6,eD] at h;obtain ⟨_,_,_,_,_,_,h⟩:=h;cases h; exact .inr (.inr fun l=>rfl)
 | scope a =>
  right; right
  simp only [bD,C6,eD] at h;obtain ⟨a',_,h⟩:=h;cases h;unfold DB;split
  ·rename_i k j;split
   ·intro l;cases a' <;> first | rfl | (simp [Eh] at j; done)
   ·exact fun l=>rfl
  ·exact fun l=>rfl
def F3 {cal:oR} {m:Nat} {rd:Bool} {N:Nat} (z:∀ o:Code,SizeOf.sizeOf o<N->∀ (ac:ACode),bD P o=some ac->∀ (T:Tm) (H:Heap) (x:Ex) (T':Tm) (H':Heap),aM cal m rd ac T H=some (x,T',H')->lY P rd o T H x T' H') (l:Nat) :
  ∀ (b:Code),SizeOf.sizeOf b<N->∀ (c:ACode),bD P b=some c->(bR c l=none->findLabel b l=none)/\∀ d,bR c l=some d->∃ rest,findLabel b l=some rest/\∀ T H x T' H',aM cal m rd d T H=some (x,T',H')->lY P rd rest T H x T' H':=by
 intro b;have other:∀ c:ACode,(∀ l,bR c l=none)->findLabel b l=none->(bR c l=none->findLabel b l=none)/\∀ d,bR c l=some d->∃ rest,findLabel b l=some rest/\∀ T H x T' H',aM cal m rd d T H=some (x,T',H')->lY P rd rest T H x T' H' :=
  fun c h1 h2=>⟨fun _=>h2,fun d h=>by rw [h1] at h; cases h⟩
 induction b with
 | label l' =>
  intro j c hc;cases hc;simp only [bR,findLabel];refine ⟨fun h=>?_,fun d h=>?_⟩
  ·split at h
   ·cases h
   ·rename_i e; rw [if_neg e]
  ·split at h
   ·rename_i e;cases h;rw [if_pos e];exact ⟨_,rfl,fun T H x T' H' h fence n B μ F w a Q G E u t=>by cases h; exact wpIn_skip (t a w μ u (Stp.refl _ _ _ _ _ _))⟩
   ·cases h
 | seq i g A C =>
  intro j c hc;have D:∀ f a2,bD P i=some f->bD P g=some a2->(bR (.seq f a2) l=none->findLabel (.seq i g) l=none)/\∀ d,bR (.seq f a2) l=some d->∃ rest,findLabel (.seq i g) l=some rest/\∀ T H x T' H',aM cal m rd d T H=some (x,T',H')->lY P rd rest T H x T' H':=by
   intro f a2 h1 h2;have s:=A (fun c h1 h2=>⟨fun _=>h2,fun d h=>by rw [h1] at h; cases h⟩) (by simp at j; omega) f h1;have y:=C (fun c h1 h2=>⟨fun _=>h2,fun d h=>by rw [h1] at h; cases h⟩) (by simp at j; omega) a2 h2;cases k:bR f l with
   | none =>
    have p:bR (.seq f a2) l=bR a2 l:=by simp only [bR,k]
    have q:findLabel (.seq i g) l=findLabel g l:=by simp only [findLabel,s.1 k]
    rw [p,q];exact y
   | some r =>
    obtain ⟨rest,hr,v⟩:=s.2 r k;have p:bR (.seq f a2) l=some (.seq r a2):=by simp only [bR,k]
    have q:findLabel (.seq i g) l=some (.seq rest g):=by simp only [findLabel,hr]
    rw [p,q];refine ⟨fun h=>(by cases h),fun d h=>?_⟩;cases h;exact ⟨_,rfl,KL v (z g (by simp at j; omega) a2 h2)⟩
  have he:=xD (P:=P) i g
  ·rw [he] at hc;simp only [C6,eD] at hc;obtain ⟨f,h1,a2,h2,hc⟩:=hc;cases hc;exact D f a2 h1 h2
 | _ =>
  intro j c hc;rcases Lx hc with ⟨_,_,h⟩ | ⟨_,h⟩ | h
  ·cases h
  ·cases h
  ·exact other c h rfl
def rK {cal:oR} (L:oi P cal) (af:P.follows .mixedOrders=true) {m:Nat} {rd:Bool}:∀ (c:Code) (ac:ACode),bD P c=some ac->∀ (T:Tm) (H:Heap) (x:Ex) (T':Tm) (H':Heap),aM cal m rd ac T H=some (x,T',H')->lY P rd c T H x T' H':=by
 intro c
 induction hk:SizeOf.sizeOf c using Nat.strongRecOn generalizing c with
 | _ k t =>
 have t:∀ y:Code,SizeOf.sizeOf y<SizeOf.sizeOf c->∀ (ac:ACode),bD P y=some ac->∀ (T:Tm) (H:Heap) (x:Ex) (T':Tm) (H':Heap),aM cal m rd ac T H=some (x,T',H')->lY P rd y T H x T' H':=fun y h=>t (SizeOf.sizeOf y) (hk ▸ h) y rfl;cases c with
 | skip =>
  intro ac hc T H x T' H' h fence n B μ F w a Q i o d f;cases hc; cases h;exact wpIn_skip (f a w μ d (Stp.refl _ _ _ _ _ _))
 | label l =>
  intro ac hc T H x T' H' h fence n B μ F w a Q i o d f;cases hc;simp only [aM] at h;cases h;exact wpIn_label (f a w μ d (Stp.refl _ _ _ _ _ _))
 | exit id =>
  intro ac hc T H x T' H' h fence n B μ F w a Q i o d f;cases hc; cases h;exact wpIn_exit (f a w μ d (Stp.refl _ _ _ _ _ _))
 | goto l =>
  intro ac hc T H x T' H' h fence n B μ F w a Q i o d f;cases hc; cases h;exact wpIn_goto (f a w μ d (Stp.refl _ _ _ _ _ _))
 | ret =>
  intro ac hc T H x T' H' h fence n B μ F w a Q i o d f;cases hc; cases h;exact wpIn_ret (f a w μ d (Stp.refl _ _ _ _ _ _))
 | refuse aq =>
  intro ac hc T H x T' H' h;cases hc;rw [zP] at h; cases h
 | scope b =>
  have aj:=t;have t:=t b (by simp);intro ac hc T H x T' H' h fence n B μ F w a Q i o d f;simp only [bD,C6,eD] at hc;obtain ⟨z,hb,hc⟩:=hc;have aa:aM cal m rd (.scope z) T H=some (x,T',H')->(Code.scope b).wpIn fence n P Q a w:=by
   intro h;simp only [aM] at h;refine Hj ?_;split at h
   ·cases h
   ·rename_i hne;refine t z hb T H _ _ _ h fence n B μ F w a _ i o d fun a' w' μ' u j=>?_
    have:=f a' w' μ' u j
    cases x with
    | goto l=>exact absurd h (hne _ _ _)
    | _=>exact this
  cases hc;unfold DB at h;split at h
  ·rename_i l hl;split at h
   ·rename_i ar ad;obtain ⟨rest,Z,ag⟩:=(F3 aj l b (by simp) z hb).2 ar ad;simp only [aM] at h;refine E6 Z ?_;split at h
    ·rename_i l' T1 G h1;split at h
     ·rename_i e;subst e;refine t z hb T H _ _ _ h1 fence n B μ F w a _ i o d fun a' w' μ' u j=>⟨rfl,?_⟩
      exact yc Z ag m T1 G x T' H' h fence n B μ' F w' a' Q i (WK o j.size) u fun a2 w2 μ2 O W=>f a2 w2 μ2 O (j.trans W)
     ·cases h
    ·rename_i hne;refine t z hb T H _ _ _ h fence n B μ F w a _ i o d fun a' w' μ' u j=>?_
     have:=f a' w' μ' u j
     cases x with
     | goto l=>exact absurd h (hne _ _ _)
     | _=>exact this
   ·exact aa h
  ·exact aa h
 | region id ops draw =>
  intro ac hc T H x T' H' h fence n B μ F w a Q i o d f;simp only [bD] at hc;cases draw with
  | true =>
   simp only [if_true] at hc;split at hc
   ·rename_i p V;obtain ⟨ds,late⟩:=p;cases hc;simp only [aM] at h;split at h
    ·rename_i T1 G A;cases h;refine IE L af i V A d.hT d.hH fun a' w' μ' hd R N j=>?_;exact f a' w' μ' ⟨R,N,hd ▸ d.hD.stp j⟩ j
    ·cases h
   ·cases hc;rw [zP] at h; cases h
  | false =>
   simp only [Xs,if_false,WE] at hc;obtain ⟨rs,V,rfl⟩:=hc;simp only [aM] at h;split at h
   ·rename_i T1 G A;cases h;refine DG L i V A d.hT d.hH fun a' w' μ' hd R N j=>?_;exact f a' w' μ' ⟨R,N,hd ▸ d.hD.stp j⟩ j
   ·cases h
 | seq D E =>
  have M:=t D zS;have X:=t E zS;intro ac hc T H x T' H' h;have ak:∀ C a2,bD P D=some C->bD P E=some a2->aM cal m rd (.seq C a2) T H=some (x,T',H')->lY P rd (.seq D E) T H x T' H':=by
   intro C a2 h1 h2 h fence n B μ F w a Q i o d f;simp only [aM] at h;refine wpIn_seq ?_;split at h
   ·rename_i T1 G A;refine M C h1 T H _ _ _ A fence n B μ F w a _ i o d fun a' w' μ' u j=>?_;exact X a2 h2 T1 G _ _ _ h fence n B μ' F w' a' Q i (WK o j.size) u fun a2 w2 μ2 O W=>f a2 w2 μ2 O (j.trans W)
   ·rename_i hne;refine M C h1 T H _ _ _ h fence n B μ F w a _ i o d fun a' w' μ' u j=>?_
    have:=f a' w' μ' u j
    cases x <;> first | exact this | exact absurd h (hne _ _)
  have he:=xD (P:=P) D E
  ·rw [he] at hc;simp only [C6,eD] at hc;obtain ⟨C,h1,a2,h2,hc⟩:=hc;cases hc;exact ak C a2 h1 h2 h
 | cond c D E =>
  have M:=t D zS;have X:=t E zS;intro ac hc T H x T' H' h fence n B μ F w a Q i o d f;simp only [bD,C6,eD] at hc;obtain ⟨s,hs,C,h1,a2,h2,hc⟩:=hc;cases hc;simp only [aM] at h;have I:=aR d.hT hs;split at h
  ·rename_i e;rw [e] at I
   generalize S:a.eval c=cv at I
   cases I;exact wpIn_cond_true S (M C h1 T H _ _ _ h fence n B μ F w a Q i o d f)
  ·rename_i e;rw [e] at I
   generalize S:a.eval c=cv at I
   cases I;exact wpIn_cond_false S (X a2 h2 T H _ _ _ h fence n B μ F w a Q i o d f)
  ·cases h
 | block id b =>
  have t:=t b zS;intro ac hc T H x T' H' h fence n B μ F w a Q i o d f;simp only [bD,C6,eD] at hc;obtain ⟨z,hb,hc⟩:=hc;cases hc;simp only [aM] at h;refine wpIn_block ?_;split at h
  ·rename_i ao T1 G A;split at h
   ·rename_i e;cases h;refine t z hb T H _ _ _ A fence n B μ F w a _ i o d fun a' w' μ' u j=>?_
    have:=f a' w' μ' u j
    simp only [LM,Exit.inBlock,e,if_true];exact this
   ·rename_i e;cases h;refine t z hb T H _ _ _ A fence n B μ F w a _ i o d fun a' w' μ' u j=>?_
    have:=f a' w' μ' u j
    simp only [LM,Exit.inBlock,e,if_false];exact this
  ·rename_i hne;refine t z hb T H _ _ _ h fence n B μ F w a _ i o d fun a' w' μ' u j=>?_
   have:=f a' w' μ' u j
   cases x <;> first | exact this | exact absurd h (hne _ _ _)
 | loop b =>
  have t:=t b (by simp);intro ac hc T H x T' H' h fence n B μ F w a Q i o d f;simp only [bD,C6,eD] at hc;obtain ⟨z,hb,hc⟩:=hc;cases hc;simp only [aM] at h;exact wpIn_loop_rounds m (AI (t z hb) m T H x T' H' h fence n B μ F w a Q i o d f).2
 | rangeFunc g ps ab body =>
  intro ac hc T H x T' H' h fence n B μ F w a Q i o d f;simp only [bD,C6,eD] at hc;obtain ⟨s,hs,C,h1,a2,h2,hc⟩:=hc;cases hc;simp only [aM] at h;split at h
  ·cases h
  rename_i U;have U:rd=false:=by simpa using U
  subst U;split at h
  ·rename_i fi args ht;split at h
   ·rename_i v H2 A;split at h
    ·rename_i T0 am b1 b2 K;cases h;refine qC L i hs h1 h2 ht A o d (fun T' al D E st pe hg=>?_) ⟨_,_,_,_,_,_,K⟩;rw [K] at hg; cases hg;refine ⟨by simp,fun r hr a' w' μ' u j=>?_⟩;cases r with
     | none=>exact f a' w' μ' u j
     | some c=>exact hr.elim
    ·rename_i T0 am b1 b2 pc K;have fin:∀ (Y:Ex) (cc:Code),Y=x->T'=T->H'=H2.kill H.next->(∀ y,bD P y=some pc->y=cc)->(∀ (a':Act) (w':World),Q (LM Y) a' w'->cc.wpIn fence n P Q a' w')->(Code.rangeFunc g ps ab body).wpIn fence n P Q a w:=by
      intro Y cc e1 e2 e3 ae ah;subst e1; subst e2; subst e3;refine qC L i hs h1 h2 ht A o d (fun T' al D E st pe hg=>?_) ⟨_,_,_,_,_,_,K⟩;rw [K] at hg; cases hg;refine ⟨by simp,fun r hr a' w' μ' u j=>?_⟩;cases r with
      | none=>exact hr.elim
      | some c =>
       have:=ae c hr
       subst this;exact ah _ _ (f a' w' μ' u j)
     split at h
     ·cases h; exact fin .ret .ret rfl rfl rfl (fun y J=>Qf J) (fun a' w' q=>wpIn_ret q)
     ·cases h; exact fin (.exit _) (.exit _) rfl rfl rfl (fun y J=>OB J) (fun a' w' q=>wpIn_exit q)
     ·cases h; exact fin (.goto _) (.goto _) rfl rfl rfl (fun y J=>Ow J) (fun a' w' q=>wpIn_goto q)
     ·cases h
    ·cases h
   ·cases h
  ·cases h
end
def IX (_:Program) (_:Mo):Prop:=True
end Go.Proofs.YtiigaeehghcjiaaGreat.Ev
namespace Go.Proofs.YtiigaeehghcjiaaGreat.Ev
open Go
open Go.Sort
def Ua {α:Type} (enc:α->Value):Prop:=∀ x,(enc x).oneCell'=true
def QB {α:Type} (a:α->α->Int) (x y:α):Bool:=decide (a x y<0)
def mU {α:Type} [Inhabited α] (enc:α->Value) (w:World) (blk off m:Nat) (a:Array α) (os:Array Obj):World:=grow (putRow enc (Sort.ahead w m) blk off a) os
def Rz {α:Type} [Inhabited α] (P:Program) (g:Nat) (b:Array Value) (enc:α->Value) (c:α->α->Int) (blk off size:Nat) (w:World):Prop :=
 ∀ (m:Nat) (os:Array Obj) (a:Array α),a.size=size->∀ x y:α,
  Calls P g (#[enc x,enc y]++b) (mU enc w blk off m a os) fun e w'=>e=.returned (.int .i64 (c x y))/\∃ q d,w'=grow ((mU enc w blk off m a os).drewN q) d
def Pg (P:Program) (S:Nat) (gs:List Nat):Prop :=
 (∃ fn,P.funcs[S]? = some fn ∧ fn.body.isSome=true ∧ fn.name ≠ "runtime.NumGoroutine") ∧ Pl ∧
 (∀ g∈gs,∀ args w,(callFunc g args).run P w=.ok (.enter g args) w) /\
 (∀ (p:Option Addr) (cap:Nat) (c:Value) (w:World),Calls P S #[.slice p 0 cap,c] w fun e w'=>e=.returned (.tuple #[])/\w'=w) /\
 ∀ (k:Nat) (enc:Fin (k+1)->Value) (a:Fin (k+1)->Fin (k+1)->Int) (g:Nat) (b:Array Value) (blk cap:Nat) (w:World),g∈gs->Ua enc->SWO (QB a)->(∀ x y,QB a x y=false->QB a y x=false->x=y) ->
  Rz P g b enc a blk 0 (k+1) w->Holds enc w blk 0 (List.finRange (k+1)).toArray->blk<w.heap.size->k+1<4611686018427387904 ->
  Calls P S #[.slice (some ⟨blk,0,none⟩) (k+1:Nat) cap,.func (.func g) #[] b] w fun e w'=>e=.returned (.tuple #[])/\∃ m os,w'=mU enc w blk 0 m ((List.finRange (k+1)).mergeSort fun x y=>!(QB a) y x).toArray os
def Hk {W w':World} (hs:W.heap.size<=w'.heap.size) (f:∀ c,c<W.heap.size->w'.heap[c]? = W.heap[c]?) (j:w'.tape=W.tape) (hd:W.drawn<=w'.drawn) (g:w'.os=W.os) (hp:w'.output=W.output) :
  w'=grow (W.drewN (w'.drawn-W.drawn)) (w'.heap.extract W.heap.size w'.heap.size):=by
 obtain ⟨h1,t1,d1,a,p1⟩:=w';obtain ⟨h,t,d,o,p⟩:=W;simp only at *;subst j; subst g; subst hp;unfold grow World.drewN;have b:h1=h++h1.extract h.size h1.size:=by
  apply Array.ext_getElem?
  intro i;by_cases hi:i<h.size
  ·rw [XT hi]; exact f i hi
  ·rw [Array.getElem?_append_right zO,Array.getElem?_extract];by_cases hj:i<h1.size
   ·rw [if_pos zO]; congr 1; omega
   ·rw [if_neg zO];exact Zr zO
 have e:d1=d+(d1-d):=zO;show (⟨h1,t1,d1,a,p1⟩:World)=⟨h++h1.extract h.size h1.size,t1,d+(d1-d),a,p1⟩;rw [<- b,<- e]
section
variable {P:Program} {μ:Mu} {F:Nat->Prop} {H:Heap} {w:World}
def It (hH:HR P μ F H w) (os:Array Obj):HR P μ F H (grow w os)/\Stp sZ P μ F H w μ F H (grow w os):=by
 have a:∀ c,c<w.heap.size->(grow w os).heap[c]? = w.heap[c]?:=fun c hc=>by
  show (w.heap++os)[c]? = _;rw [XT hc]
 have f:w.heap.size<=(grow w os).heap.size:=by
  show _<=(w.heap++os).size
  simp
 refine ⟨⟨fun b L hb=>?_,fun c hc=>?_,fun b e hb=>?_,hH.inj,fun g cs hg=>(hH.gl g cs hg).mono (fun _ _ h=>h) (fun _ h=>h) fun c hc=>a c (hH.fb c hc)⟩,⟨fun _ _ h=>h,fun _ h=>h,f,fun c hc _=>a c hc,fun b L hb hL=>.inr ⟨b,L,hb,hL,rfl⟩,Jv _,fun _ _ _ h=>h,fun b L h=>.inl ⟨b,L,h,rfl⟩,fun b e h _ _=>⟨e,h⟩,fun b e L h hL=>.inr ⟨b,e,L,h,hL,rfl⟩,Tp.same rfl rfl,rfl,rfl⟩⟩
 ·have:=hH.dom b L hb; exact ⟨this.1,zO⟩
 ·have:=hH.fb c hc; omega
 ·obtain ⟨L,hL,d⟩:=hH.ent b e hb;exact ⟨L,hL,d.mono (fun _ _ h=>h) (fun _ h=>h) (fun c hc=>a c (hH.fb c hc)) (a _ (hH.dom b L hL).2) (fun hr=>d.notF hr)⟩
def rM {f:Nat} {fn:Func} {vs:Array Value} {a:Fence} {rd:Bool} {n:Nat} {R:Value → World → Prop} (d:P.funcs[f]? = some fn) (hb:fn.body.isSome=true) (hn:fn.name ≠ "runtime.NumGoroutine") (b:FenceOK a rd)
  (h:Calls P f vs w fun e w'=>∃ u,e=.returned u/\R u w'):Runs a n P ((callFunc f vs).run P w) R:=by
 have hr:(callFunc f vs).run P w=.ok (.enter f vs) w:=by
  obtain ⟨c,hc⟩:=ZK.1 hb;simp [callFunc,d,hn,hc]
 rw [hr];unfold Runs;simp only;have key:CallsIn Fence.wide n P f vs w fun e w'=>∃ u,e=.returned u/\R u w':=callsIn_wide.2 h;rcases b with ⟨_,rfl⟩ | ⟨_,l,rfl⟩
 ·exact key
 ·exact key
def Ah {α:Type} [Inhabited α] (enc:α->Value) (w:World) (blk off m:Nat) (a:Array α) (os:Array Obj):(∀ c,c<w.heap.size->c≠blk->(mU enc w blk off m a os).heap[c]? = w.heap[c]?)/\w.heap.size<=(mU enc w blk off m a os).heap.size:=by
 have e:(mU enc w blk off m a os).heap=w.heap.modify blk (onCells (putCells enc off a))++os:=rfl;rw [e];refine ⟨fun c hc hne=>?_,by simp⟩;rw [XT (by simpa using hc),YD,if_neg (Ne.symm hne)]
def CO {cal:oR} {g:Nat} {caps:List AV} {D:Heap} {x:AV}:∀ {l:List AV} {cs:List Int},rL cal g caps D x l=some cs->cs.length=l.length/\∀ (j:Nat) (y:AV),l[j]? = some y->∃ a,cal (.fn g ([x,y]++caps)) D=some (.int .i64 (cs.getD j 0),a)
 | [],cs,h=>by
  simp only [rL,Xb] at h;subst h;exact ⟨rfl,fun j y h=>by simp at h⟩
 | y :: l,cs,h=>by
  simp only [rL] at h;split at h
  ·rename_i c a d h1 h2;cases h;obtain ⟨k1,k2⟩:=CO h2;refine ⟨by simp [k1],fun j z b=>?_⟩;cases j with
   | zero=>simp at b; subst b; exact ⟨a,h1⟩
   | succ j=>exact k2 j z (by simpa using b)
  ·cases h
def A5 {cal:oR} {g:Nat} {caps:List AV} {D:Heap} {all:List AV}:∀ {l:List AV} {M:List (List Int)},sU cal g caps D all l=some M->∀ (i:Nat) (x:AV),l[i]? = some x->rL cal g caps D x all=some (M.getD i [])
 | [],M,h,i,x,hx=>by simp at hx
 | x :: l,M,h,i,z,a=>by
  simp only [sU] at h;split at h
  ·rename_i r b h1 h2;cases h;cases i with
   | zero=>simp at a; subst a; exact h1
   | succ i=>exact A5 h2 i z (by simpa using a)
  ·cases h
def Fq {cal:oR} (ah:oi P cal) {S ty:Nat} {gs:List Nat} (hS:Pg P S gs) {args:List AV} {v:AV} {H':Heap} (h:Ci cal ty gs H args=some (v,H')) {vs:List Value} {fence:Fence} {rd:Bool} (C:FenceOK fence rd) (hH:HR P μ F H w) (hl:LR μ F w args vs) (n:Nat) :
  Runs fence n P ((callFunc S vs.toArray).run P w) fun u w'=>∃ μ',iS sZ P μ F H w v H' u w' μ':=by
 obtain ⟨⟨fn,J,hb,hn⟩,ar,am,aa,aA⟩:=hS;have O:∀ {a b:AV},LR μ F w [a,b] vs->∃ x y,vs=[x,y]/\VR μ F w a x/\VR μ F w b y:=fun {a b} h=>by
  have h1:=h.1
  match vs,h1 with
  | [x,y],_=>exact ⟨x,y,rfl,h.head,h.tail.head⟩
 unfold Ci at h;split at h
 ·cases h;obtain ⟨x,y,rfl,hx,hy⟩:=O hl;cases hx;refine rM J hb hn C ((aa none 0 y w).mono ?_);rintro e w' ⟨rfl,rfl⟩;exact ⟨_,rfl,μ,.tup [] #[] rfl (fun i c v h=>by simp at h),hH,Stp.refl _ _ _ _ _ _⟩
 ·rename_i b off len c sz ex g caps;split at h
  ·rename_i hz;cases h;subst hz;obtain ⟨x,y,rfl,hx,hy⟩:=O hl;cases hx with
   | own _ _ _ _ _ _ L cap Q o2 o3 o4 o5 o6 =>
   refine rM J hb hn C ((aa _ cap y w).mono ?_);rintro e w' ⟨rfl,rfl⟩;exact ⟨_,rfl,μ,.tup [] #[] rfl (fun i c v h=>by simp at h),hH,Stp.refl _ _ _ _ _ _⟩
  split at h
  ·rename_i cs aD N;split at h
   ·rename_i hc;obtain ⟨rfl,rfl,rfl,aG,h0,af,hg,ab⟩:=hc;split at h
    ·rename_i M hM;split at h
     ·rename_i s;cases h;obtain ⟨x,y,rfl,hx,hy⟩:=O hl;obtain ⟨L,hL,hE⟩:=hH.ent b _ N;cases hx with
      | own _ _ _ _ _ _ L' cap Q o2 o3 o4 o5 o6 =>
      rw [hL] at Q; cases Q;cases hy with
      | fn _ _ _ us ub q1 q2 q3 q4 =>
      obtain rfl:us = #[]:=Zk (by simpa using q1.symm);obtain ⟨arr,fr,B,a2,a3,a4,a5,a6,-⟩:=hE;obtain ⟨Z,rfl⟩:=a6 rfl;have ag:=(hH.dom b L hL).2;obtain ⟨k,rfl⟩:∃ k,len=k+1:=⟨len-1,zO⟩
      obtain ⟨enc,al⟩:∃ enc:Fin (k+1)->Value,enc=fun i=>arr[i.val]!:=⟨_,rfl⟩
      have Y:∀ i:Fin (k+1),arr[i.val]? = some (enc i):=fun i=>by
       have hi:i.val<arr.size:=by have:=i.isLt; omega
       rw [al,XN hi];simp [hi]
      have r:∀ i:Fin (k+1),cs[i.val]? = some (cs.getD i.val .undef):=fun i=>by
       have hi:i.val<cs.length:=by have:=i.isLt; omega
       rw [zh hi];simp [hi]
      have A:∀ i:Fin (k+1),VR μ F w (cs.getD i.val .undef) (enc i):=fun i=>a5 _ _ _ (r i) (Y i);obtain ⟨l,X⟩:∃ l:Fin (k+1)->Fin (k+1)->Int,l=fun i j=>(M.getD i.val []).getD j.val 0:=⟨_,rfl⟩
      have hlt:∀ i j,QB l i j=JA M i.val j.val:=fun i j=>by rw [X]; rfl
      obtain ⟨w1,w2,w3⟩:=s;have hT:∀ x y,QB l x y=false->QB l y x=false->x=y:=fun x y f d=>by
       rw [hlt] at f d;rcases w2 _ x.isLt _ y.isLt with e | e
       ·exact Fin.ext e
       ·rw [f,d] at e; cases e
      have aB:SWO (QB l):=by
       refine ⟨fun x=>by rw [hlt]; exact w1 _ x.isLt,fun x y z f d=>?_,fun x y z f d=>?_⟩
       ·rw [hlt] at *; exact w3 _ x.isLt _ y.isLt _ z.isLt f d
       ·rw [hlt] at *;cases ad:JA M x.val z.val with
        | false=>rfl
        | true =>
         rcases w2 _ x.isLt _ y.isLt with e | e
         ·rw [<- e,ad] at d; cases d
         ·rw [f] at e;have e3:JA M y.val x.val=true:=by simpa using e.symm
          rw [w3 _ y.isLt _ x.isLt _ z.isLt e3 ad] at d; cases d
      have aw:Ua enc:=fun i=>by
       refine (A i).oneCell ?_;rw [WT] at ab;exact ab _ (WN (r i))
      have aj:Rz P g ub enc l L.blk 0 (k+1) w:=by
       intro m os T aE x y;obtain ⟨W,hW⟩:∃ W,W=mU enc w L.blk 0 m T os:=⟨_,rfl⟩
       rw [<- hW];obtain ⟨E,G⟩:=Ah enc w L.blk 0 m T os;rw [<- hW] at E G;have o:∀ c,F c->W.heap[c]? = w.heap[c]?:=fun c hc=>E c (hH.fb c hc) fun e=>Z (e ▸ hc);have V:HR P μ F (H.kill b) W:=by
        have K:∀ b' e',(H.kill b).get b'=some e'->b'≠b/\H.get b'=some e':=fun b' e' h=>by
         rw [Heap.get_kill] at h;split at h
         ·cases h
         ·exact ⟨by assumption,h⟩
        refine ⟨fun b' L' h'=>⟨(hH.dom b' L' h').1,WP (hH.dom b' L' h').2 G⟩,fun c hc=>WP (hH.fb c hc) G,fun b' e' h'=>?_,fun b1 b2 f d L1 L2 h1 h2=>hH.inj b1 b2 f d L1 L2 (K _ _ h1).2 (K _ _ h2).2,fun g cs hg=>(hH.gl g cs hg).mono (fun _ _ h=>h) (fun _ h=>h) o⟩;obtain ⟨hne,h'⟩:=K b' e' h';obtain ⟨L',D,U⟩:=hH.ent b' e' h';exact ⟨L',D,U.mono (fun _ _ h=>h) (fun _ h=>h) o (E _ (hH.dom b' L' D).2 fun e=>hne (hH.inj b' b e' _ L' L h' N D hL e)) (fun hr=>U.notF hr)⟩
       have hD:=Tu V;have ay:=A5 hM x.val _ (r x);obtain ⟨D',az⟩:=(CO ay).2 y.val _ (r y);have hargs:LR μ F W ([cs.getD x.val .undef,cs.getD y.val .undef]++caps) ([enc x,enc y]++ub.toList):=by
        refine LR.cons ((A x).mono (fun _ _ h=>h) (fun _ h=>h) o) (LR.cons ((A y).mono (fun _ _ h=>h) (fun _ h=>h) o) ⟨by simpa using q3,fun i c v hc t=>?_⟩);exact (q4 i c v hc (by simpa using t)).mono (fun _ _ h=>h) (fun _ h=>h) o
       have run:=(ah _ _ _ _ az μ F W _ Fence.wide false 0 (.inl ⟨rfl,rfl⟩) hD hargs (fun b args h=>by cases h)).2;have ae:([enc x,enc y]++ub.toList).toArray = #[enc x,enc y]++ub:=by
        apply Array.ext'
        simp
       simp only [nE,ae,am g hg,Runs] at run;refine (callsIn_wide.1 run).mono ?_;rintro e R ⟨u,rfl,μ',hd⟩;obtain ⟨dv,dh,ds⟩:=hd;cases dv;refine ⟨by rw [X],R.drawn-W.drawn,R.heap.extract W.heap.size R.heap.size,?_⟩;exact Hk ds.size (Qe V (fun b=>rfl) ds) ds.tape.1 (ds.tape.2 ar) ds.os ds.out
      have ao:Holds enc w L.blk 0 (List.finRange (k+1)).toArray:=by
       intro j hj;have hj:j<k+1:=by simpa using hj
       have f:(List.finRange (k+1)).toArray[j]! = ⟨j,hj⟩:=by
        simp [hj]
       rw [f,Xg,qh B];exact ⟨Y ⟨j,hj⟩,by simp [World.frozen?,B]⟩
      have ak:=aA k enc l g ub L.blk cap w hg aw aB hT aj ao ag af;refine rM J hb hn C (ak.mono ?_);rintro e w' ⟨rfl,m,os,rfl⟩;have aq:((List.finRange (k+1)).mergeSort fun x y=>!(QB l) y x)=lO M (k+1):=by
       unfold lO;congr 1
       funext x y
       rw [hlt]
      rw [aq];obtain ⟨q,s⟩:∃ q,q=lO M (k+1):=⟨_,rfl⟩
      have av:q.length=k+1:=by rw [s]; unfold lO; rw [Z5,List.length_finRange]
      rw [<- s];obtain ⟨p1,p2⟩:=jj (I:=sZ) (e:=.cells (q.map fun i=>cs.getD i.val .undef) aD true) hH N rfl hL (putRow enc (Sort.ahead w m) L.blk 0 q.toArray) (fun c hc=>by
        show (w.heap.modify L.blk _)[c]? = _;rw [YD,if_neg (Ne.symm hc)]) (by show (w.heap.modify L.blk _).size=_; simp) ⟨rfl,fun _=>W3 _ _⟩ rfl rfl
       (fun o=>by
        refine ⟨putCells enc 0 q.toArray arr,(0,0),?_,by simp [putCells,a2],a3,by simp [putCells,av]; omega,fun i c v hc t=>?_,fun _=>⟨Z,rfl⟩,fun h=>by cases h⟩
        ·show (w.heap.modify L.blk _)[L.blk]? = _;rw [YD,if_pos rfl,B]; rfl
        ·rw [Xq,WE] at hc;obtain ⟨p,hp,rfl⟩:=hc;obtain ⟨hi,ax⟩:=WI.1 hp;have aC:v=enc p:=by
          simp only [putCells,Array.getElem?_mapIdx,WE] at t;obtain ⟨z,hz,rfl⟩:=t;rw [if_pos ⟨WG _,by simpa using hi⟩];congr 1;simp [hi,ax]
         rw [aC];exact (A p).mono (fun _ _ h=>h) (fun _ h=>h) o) rfl
      obtain ⟨r1,r2⟩:=It p1 os;exact ⟨_,rfl,μ,.tup [] #[] rfl (fun i c v h=>by simp at h),r1,p2.trans r2⟩
     ·cases h
    ·cases h
   ·cases h
  ·cases h
 ·cases h
end
section
variable {P:Program} {μ:Mu} {F:Nat->Prop} {H:Heap} {w:World} {T:Tm} {a:Act} {B:Nat}
def HG {tmps:Array Value} {r:ResultVar} {c:Nat × Option (Option Nat)} {v:AV} (hT:LR μ F w T tmps.toList) (hH:HR P μ F H w) (hr:GK P r=some c) (h:o0 T H c=some v) :
  ∃ u,((match r with | .tmp t=>pure (tmps.getD t undef) | .cell a t=>do loadVar t (<- asAddr (tmps.getD a undef)):Sem Value)).run P w=.ok u w/\VR μ F w v u:=by
 have hg:=fun t=>JO (a:=⟨tmps,[]⟩) hT t;cases r with
 | tmp t=>cases hr; cases h; exact ⟨_,rfl,hg t⟩
 | cell a t =>
  simp only [GK,C6,eD] at hr;obtain ⟨k,f,hr⟩:=hr;cases hr;simp only [o0] at h;have hx:=hg a;split at h
  ·rename_i b o e;rw [e] at hx;obtain ⟨L,hL,hp⟩:=DN hx;split at h
   ·rename_i cs ty rw hb;obtain ⟨arr,fr,h1,h2,h3,h4,h5,g,i⟩:=gw hH hb hL;obtain ⟨u,d,hr⟩:=Ec (o:=o) (off:=0) h1 zO (by simpa using h5) f h;rw [Xg] at d;simp only at hp;refine ⟨u,?_,hr⟩;simp only [Sem.run_bind,hp,asAddr,Sem.run_pure,Result.andThen_ok,d]
   ·cases h
  ·cases h
def tp {tmps:Array Value} (hT:LR μ F w T tmps.toList) (hH:HR P μ F H w):∀ (c:List ResultVar) (b:List (Nat × Option (Option Nat))) (vs:List AV),c.mapM (GK P)=some b->b.mapM (o0 T H)=some vs ->
  ∃ us:List Value,(c.mapM fun | .tmp t=>pure (tmps.getD t undef) | .cell a t=>do loadVar t (<- asAddr (tmps.getD a undef)):Sem (List Value)).run P w=.ok us w/\LR μ F w vs us
 | [],b,vs,h,h'=>by simp at h; subst h; simp at h'; subst h'; exact ⟨[],by simp,LR.nil⟩
 | r :: c,b,vs,h,h'=>by
  simp only [Yd,YS,C6,eD] at h;obtain ⟨x,hx,xs,g,h⟩:=h;cases h;simp only [Yd,YS,C6,eD] at h';obtain ⟨y,hy,j,i,h'⟩:=h';cases h';obtain ⟨u,e,hr⟩:=HG hT hH hx hy;obtain ⟨us,f,d⟩:=tp hT hH c xs j g i;refine ⟨u :: us,?_,LR.cons hr d⟩;simp only [Yd,Sem.run_bind,e,Result.andThen_ok,f,Sem.run_pure]
def BP {fn:Func} {tmps:Array Value} {b:List (Nat × Option (Option Nat))} {v:AV} (hT:LR μ F w T tmps.toList) (hH:HR P μ F H w) (d:fn.results.toList.mapM (GK P)=some b) (h:cp T H b=some v) :
  ∃ u,(results fn tmps).run P w=.ok u w/\VR μ F w v u:=by
 simp only [cp,C6,eD] at h;obtain ⟨vs,k,h⟩:=h;obtain ⟨us,j,hr⟩:=tp hT hH _ _ _ d k;have hm:(fn.results.mapM fun | .tmp t=>pure (tmps.getD t undef) | .cell a t=>do loadVar t (<- asAddr (tmps.getD a undef)):Sem (Array Value)).run P w=.ok us.toArray w:=by
  rw [Array.mapM_eq_mapM_toList];simp only [Sem.run_map,j,Result.andThen_ok]
 have f:(results fn tmps).run P w=.ok (if h:us.toArray.size=1 then us.toArray[0] else .tuple us.toArray) w:=by
  unfold results;simp only [Sem.run_bind];exact (congrArg (fun r:Result (Array Value)=>r.andThen fun a w'=>Sem.run P (pure (if h:a.size=1 then a[0] else Value.tuple a)) w') hm)
 refine ⟨_,f,?_⟩;split at h
 ·cases h
  match us,hr with
  | [u],hr=>exact hr.head
  | [],hr=>have:=hr.1; simp at this
  | _ :: _ :: _,hr=>have:=hr.1; simp at this
 ·rename_i hne;cases h;have hl:=hr.1;have h1:us.toArray.size≠1:=by
   intro e;simp at e
   match vs,hl with
   | [v],_=>exact hne v rfl
   | [],hl=>simp at hl; omega
   | _ :: _ :: _,hl=>simp at hl; omega
  rw [dif_neg h1];exact .tup _ _ (by simpa using hl) fun i c u hc g=>hr.2 i c u hc (by simpa using g)
def Le (hH:HR P μ F H w) {D:Nat} {o:Obj} (f:¬ F D) (hn:∀ b L,μ b=some L->L.blk≠D):HR P μ F H (w.putObj D o):=by
 have a:∀ c,c≠D->(w.putObj D o).heap[c]? = w.heap[c]?:=fun c hc=>World.putObj_heap_other hc;have i:(w.putObj D o).heap.size=w.heap.size:=by simp [World.putObj]
 refine ⟨fun b L hb=>?_,fun c hc=>?_,fun b e hb=>?_,hH.inj,fun g cs hg=>(hH.gl g cs hg).mono (fun _ _ h=>h) (fun _ h=>h) fun c hc=>a c fun e=>f (e ▸ hc)⟩
 ·rw [i]; exact hH.dom b L hb
 ·rw [i]; exact hH.fb c hc
 ·obtain ⟨L,hL,d⟩:=hH.ent b e hb;exact ⟨L,hL,d.mono (fun _ _ h=>h) (fun _ h=>h) (fun c hc=>a c fun e=>f (e ▸ hc)) (a _ (hn b L hL)) (fun hr=>d.notF hr)⟩
def vD {fn:Func} {tmps:Array Value} {i:List (Nat × Option (Option Nat))} {v:AV} {μ0:Mu} {H0:Heap} {w0:World} (n:Nat) (l:fn.results.toList.mapM (GK P)=some i) (o:cp T H i=some v) :
  ∀ (Ds:List Nat) (w:World),Ds.Nodup->(∀ D∈Ds,w0.heap.size<=D/\D<w.heap.size/\w.heap[D]? = some (.deferred (some []))/\¬ F D/\∀ b L,μ b=some L->L.blk≠D) ->
   LR μ F w T tmps.toList->HR P μ F H w->Stp sZ P μ0 F H0 w0 μ F H w ->
   LeavesInM Fence.wide n P fn tmps (fun e w'=>∃ u,e=.returned u/\∃ μ',iS sZ P μ0 F H0 w0 v H u w' μ') (Ds.map fun D=>{ target:=.collected D,args:=#[] }) .returning w
 | [],w,_,_,hT,hH,a=>by
  obtain ⟨u,r,hr⟩:=BP hT hH l o;exact ⟨u,r,u,rfl,μ,hr,hH,a⟩
 | D :: Ds,w,d,hD,hT,hH,a=>by
  obtain ⟨y,z,p,j,q⟩:=hD D (WH ..);have d:=Y3.1 d;have f:∀ c,c≠D->(w.putObj D (.deferred none)).heap[c]? = w.heap[c]?:=fun c hc=>World.putObj_heap_other hc;have m:(w.putObj D (.deferred none)).heap.size=w.heap.size:=by simp [World.putObj]
  refine ⟨fun e=>(by cases e),.inl ⟨D,_,rfl,run_takeDeferred p,?_⟩⟩;refine vD n l o Ds _ d.2 (fun g k=>?_) (hT.mono (fun _ _ h=>h) (fun _ h=>h) fun c hc=>f c fun e=>j (e ▸ hc)) (Le hH j q) ?_
  ·obtain ⟨k1,k2,s,t,x⟩:=hD g (SO _ k);exact ⟨k1,by rw [m]; exact k2,by rw [f g fun e=>d.1 (e ▸ k)]; exact s,t,x⟩
  ·exact ⟨a.mu,a.fr,by rw [m]; exact a.size,fun c hc hn=>by rw [f c zO]; exact a.keep c hc hn,a.rw,a.next,a.new,a.rng,a.old,a.alv,a.tape.trans (Tp.same rfl rfl),a.os,a.out⟩
def DF {μ:Mu} {F:Nat->Prop} {w:World} (n:Nat):LR μ F w (List.replicate n .undef) (List.replicate n undef):=by
 induction n with
 | zero=>exact LR.nil
 | succ n a=>exact LR.cons (.undef _) a
def qW {cal:oR} (r:oi P cal) (t:P.follows .mixedOrders=true) {m:Nat} {f:Nat} {fn:Func} {afn:au} {args:List AV} {v:AV} {H':Heap} (s:P.funcs[f]? = some fn) (hb:fn.body.isSome=true) (q:∀ c,fn.body=some c->bD P c=some afn.body)
  (p:fn.results.toList.mapM (GK P)=some afn.results) (y:afn.ntmps=fn.ntmps)
  (h:Ae cal m afn args H=some (v,H')) {vs:List Value} (j:LR μ F w args vs) (hH:HR P μ F H w) (n:Nat) {fence:Fence} {rd:Bool} (o:FenceOK fence rd) :
  CallsIn fence n P f vs.toArray w fun e w'=>∃ u,e=.returned u/\∃ μ',iS sZ P μ F H w v H' u w' μ':=by
 have key:CallsIn Fence.wide n P f vs.toArray w fun e w'=>∃ u,e=.returned u/\∃ μ',iS sZ P μ F H w v H' u w' μ':=by
  obtain ⟨c,hc⟩:=ZK.1 hb;unfold Ae at h;split at h
  ·have A:Mw P (w.heap.size,[]) μ F H w (args++List.replicate (afn.ntmps-args.length) .undef) { tmps:=vs.toArray++Array.replicate (fn.ntmps-vs.toArray.size) undef,defers:=[] }:=by
    refine ⟨?_,hH,DM.nil⟩;have hl:=j.1;simp only [Array.toList_append,Array.toList_replicate,Y2];rw [<- hl,y];exact j.append (DF _)
   refine callsIn_of_wp_marks s hc trivial ?_;have fin:∀ (x:Ex) (T1:Tm) (a:Heap),(x=.nrm\/x=.ret)->aM cal m false afn.body (args++List.replicate (afn.ntmps-args.length) .undef) H=some (x,T1,a)->(cp T1 a afn.results).map (fun v=>(v,a))=some (v,H') ->
     c.wpIn Fence.wide n P (bodyPostM Fence.wide n P fn fun e w'=>∃ u,e=.returned u/\∃ μ',iS sZ P μ F H w v H' u w' μ') { tmps:=vs.toArray++Array.replicate (fn.ntmps-vs.toArray.size) undef,defers:=[] } w:=by
    intro x T1 a hx b d;simp only [WE] at d;obtain ⟨C,B,d⟩:=d;cases d;refine rK r t c afn.body (q c hc) _ _ _ _ _ b Fence.wide n (w.heap.size,[]) μ F w _ _ (.inl ⟨rfl,rfl⟩) (Jv _) A fun a' w' μ' i z=>?_;obtain ⟨Ds,g,k,e3⟩:=i.hD;have g:a'.defers=Ds.map (fun D=>({ target:=.collected D,args:=#[] }:Deferred)):=g.trans (Xx _)
    have:=vD (tmps:=a'.tmps) (fn:=fn) n p B Ds w' k e3 i.hT i.hH z
    rw [<- g] at this;rcases hx with rfl | rfl <;> exact this
   split at h
   ·rename_i T1 a b; exact fin .nrm T1 a (.inl rfl) b h
   ·rename_i T1 a b; exact fin .ret T1 a (.inr rfl) b h
   ·cases h
  ·cases h
 rcases o with ⟨_,rfl⟩ | ⟨_,l,rfl⟩
 ·exact key
 ·exact key
def Po (P:Program) (f:Nat) (e:Ext):Prop:=∀ H args v H',vL H e args=some (v,H')->∀ (μ:Mu) (F:Nat->Prop) (w:World) (vs:List Value) (fence:Fence) (rd:Bool) (n:Nat),FenceOK fence rd->HR P μ F H w->LR μ F w args vs ->
 Runs fence n P ((callFunc f vs.toArray).run P w) fun u w'=>∃ μ',iS sZ P μ F H w v H' u w' μ'
def ExtOK (P:Program) (f:Nat):Ext->Prop
 | .sortF _ gs=>Pg P f gs
 | e=>Po P f e
def ExtOK.old {P:Program} {f:Nat} {e:Ext} (h:ExtOK P f e) (hn:∀ ty gs,e ≠ .sortF ty gs):Po P f e:=by
 cases e <;> first | exact h | exact absurd rfl (hn _ _)
def Kd (P:Program) (tab:Nat->Option au):Prop:=∀ f afn,tab f=some afn->(∀ e,afn.ext=some e->ExtOK P f e)/\((∀ e,afn.ext=some e->e.code=true)->∃ fn,P.funcs[f]? = some fn/\SX P fn=some afn)
def EJ {fn:Func} {afn:au} (h:SX P fn=some afn) (he:afn.ext=none):fn.body.isSome=true ∧ (∀ c,fn.body=some c → bD P c=some afn.body) ∧ fn.results.toList.mapM (GK P)=some afn.results ∧ afn.ntmps=fn.ntmps ∧ fn.name ≠ "runtime.NumGoroutine":=by
 unfold SX at h;split at h
 ·cases h; cases he
 split at h
 ·cases h; cases he
 split at h
 ·simp only [C6,eD] at h;obtain ⟨t,i,d,hd,h⟩:=h;split at h
  ·simp only [eD] at h;obtain ⟨n,hn,b,hb,h⟩:=h;cases h; cases he
  ·cases h
 ·simp only [C6,eD] at h;obtain ⟨b,hb,h⟩:=h;split at h
  ·cases h
  ·rename_i e;simp only [eD] at h;obtain ⟨j,f,c,hc,h⟩:=h;cases h;exact ⟨by simp [hb],fun g a=>by rw [hb] at a; cases a; exact hc,f,rfl,e⟩
def FF {μ:Mu} {F:Nat->Prop} {w:World}:∀ (ps:List Nat) (args:List AV) (vs:List Value) (T:Tm) (tm:Array Value),LR μ F w args vs->LR μ F w T tm.toList ->
  LR μ F w (pa T (ps.zip args)) ((ps.zip vs).foldl (fun (t:Array Value) (p:Nat × Value)=>t.setIfInBounds p.1 p.2) tm).toList
 | [],args,vs,T,tm,_,h=>by simpa [pa] using h
 | p :: ps,[],[],T,tm,_,h=>by simpa [pa] using h
 | p :: ps,[],_ :: _,T,tm,h,_=>by have:=h.1; simp at this
 | p :: ps,_ :: _,[],T,tm,h,_=>by have:=h.1; simp at this
 | p :: ps,a :: args,v :: vs,T,tm,hl,h=>by
  simp only [List.zip_cons_cons,pa,Ym];exact FF ps args vs _ _ hl.tail (by rw [Zy]; exact h.set p hl.head)
def sP {f:Nat} {fn:Func} (a:P.funcs[f]? = some fn) (hb:fn.body.isSome=true) (hn:fn.name ≠ "runtime.NumGoroutine") (args:Array Value) (w:World):(callFunc f args).run P w=.ok (.enter f args) w:=by
 obtain ⟨c,hc⟩:=ZK.1 hb;simp [callFunc,a,hn,hc]
structure Shut (Ds:List Nat) (w w':World):Prop where
 other:∀ c,c ∉ Ds->w'.heap[c]? = w.heap[c]?
 size:w'.heap.size=w.heap.size
 tape:Tp w w'
 os:w'.os=w.os
 out:w'.output=w.output
def Shut.nil (w:World):Shut [] w w:=⟨fun _ _=>rfl,rfl,Tp.same rfl rfl,rfl,rfl⟩
def Shut.cons {D:Nat} {Ds:List Nat} {w w':World} (h:Shut Ds (w.putObj D (.deferred none)) w'):Shut (D :: Ds) w w' :=
 ⟨fun c hc=>(h.other c fun hm=>hc (SO _ hm)).trans (World.putObj_heap_other fun e=>hc (e ▸ WH ..)),h.size.trans (by simp [World.putObj]),(Tp.same rfl rfl).trans h.tape,h.os,h.out⟩
def Shut.hr {Ds:List Nat} {w w':World} (h:Shut Ds w w') (hH:HR P μ F H w) (hD:∀ D∈Ds,¬ F D/\∀ b L,μ b=some L->L.blk≠D):HR P μ F H w':=by
 have d:∀ c,F c->w'.heap[c]? = w.heap[c]?:=fun c hc=>h.other c fun hm=>(hD c hm).1 hc;refine ⟨fun b L hb=>?_,fun c hc=>?_,fun b e hb=>?_,hH.inj,fun g cs hg=>(hH.gl g cs hg).mono (fun _ _ h=>h) (fun _ h=>h) d⟩
 ·rw [h.size]; exact hH.dom b L hb
 ·rw [h.size]; exact hH.fb c hc
 ·obtain ⟨L,hL,a⟩:=hH.ent b e hb;exact ⟨L,hL,a.mono (fun _ _ h=>h) (fun _ h=>h) d (h.other _ fun hm=>(hD _ hm).2 b L hL rfl) (fun hr=>a.notF hr)⟩
def Shut.lr {Ds:List Nat} {w w':World} {as:List AV} {vs:List Value} (h:Shut Ds w w') (hl:LR μ F w as vs) (hD:∀ D∈Ds,¬ F D):LR μ F w' as vs :=
 hl.mono (fun _ _ h=>h) (fun _ h=>h) fun c hc=>h.other c fun hm=>hD c hm hc
def Shut.stp {Ds:List Nat} {w0 w w':World} {μ0:Mu} {H0:Heap} (h:Shut Ds w w') (a:Stp sZ P μ0 F H0 w0 μ F H w) (hD:∀ D∈Ds,w0.heap.size<=D):Stp sZ P μ0 F H0 w0 μ F H w' :=
 ⟨a.mu,a.fr,by rw [h.size]; exact a.size,fun c hc hn=>(h.other c fun hm=>by have:=hD c hm; omega).trans (a.keep c hc hn),a.rw,a.next,a.new,a.rng,a.old,a.alv,a.tape.trans h.tape,h.os.trans a.os,h.out.trans a.out⟩
def Fw {tab:Nat->Option au} {m:Nat} (y:P.follows .mixedOrders=true) (ab:Kd P tab) {cal:oR} {pc:Mo} (aC:IX P pc) (q:oi P cal):oi P (kh tab pc cal m):=by
 intro t H v H' h μ F w vs fence rd k n hH hl ax;cases t with
 | fn f args =>
  simp only [kh] at h;split at h
  ·cases h
  ·rename_i afn B;obtain ⟨t1,K⟩:=ab f afn B;refine ⟨fun f args e=>(by cases e),?_⟩;split at h
   ·rename_i ty gs he;exact Fq q (t1 _ he) h n hH hl k
   ·rename_i e hn he;exact (t1 e he).old hn H args v H' h μ F w vs fence rd k n hH hl
   ·rename_i he;obtain ⟨fn,i,C⟩:=K fun e h=>by rw [he] at h; cases h
    obtain ⟨k1,k2,G,J,z⟩:=EJ C he;simp only [nE,sP i k1 z,Runs];exact qW q y i k1 k2 G J h hl hH k n
 | ent f args =>
  simp only [kh] at h;split at h
  ·cases h
  ·rename_i afn B;obtain ⟨t1,K⟩:=ab f afn B;split at h
   ·cases h
   ·rename_i he;obtain ⟨fn,i,C⟩:=K fun e h=>by rw [he] at h; cases h
    obtain ⟨k1,k2,G,J,z⟩:=EJ C he;refine ⟨fun f' az e=>by cases e; exact sP i k1 z _ _,?_⟩;simp only [nE,sP i k1 z,Runs];exact qW q y i k1 k2 G J h hl hH k n
 | round b args =>
  refine ⟨fun f args e=>(by cases e),?_⟩;obtain ⟨L,hL⟩:=ax b args rfl;simp only [kh] at h;split at h
  ·rename_i T0 ps af body hb;split at h
   ·rename_i aA;obtain ⟨L',V,hE⟩:=hH.ent b _ hb;rw [hL] at V; cases V;obtain ⟨aB,r,g1,g2,g3,T,g5,g6,U⟩:=hE;have aD:r.pending=none:=by
     cases hp:r.pending with
     | none=>rfl
     | some c=>rw [hp] at U; exact U.elim
    have hargs:vs.toArray.size=r.params.size:=by
     have h1:=hl.1;simp only [Task.args] at h1;have h2:r.params.size=ps.length:=by rw [<- T]; simp
     simp; omega
    simp only [nE,hL,run_yield g1 hargs,Runs];split at h
    ·rename_i T1 H1 al;split at h
     ·rename_i M ad O R Z;split at h
      ·rename_i x T2 H2 am;split at h
       ·rename_i N ae Q S aa;have key:RoundIn Fence.wide k P L.blk r.fn ((r.params.zip vs.toArray).foldl (fun tmps (t,a)=>tmps.setIfInBounds t a) r.tmps) r.assign r.body w fun e w'=>∃ u,e=.returned u/\∃ μ',iS sZ P μ F H w v H' u w' μ':=by
         have ao:((r.params.zip vs.toArray).foldl (fun tmps (t,a)=>tmps.setIfInBounds t a) r.tmps)=(ps.zip vs).foldl (fun (t:Array Value) (p:Nat × Value)=>t.setIfInBounds p.1 p.2) r.tmps:=by
          rw [<- Array.foldl_toList,Array.toList_zip,T]
         rw [ao];refine roundIn_of_wpIn trivial ?_;have ay:Mw P (w.heap.size,[]) μ F H w (pa T0 (ps.zip args)) { tmps:=(ps.zip vs).foldl (fun (t:Array Value) (p:Nat × Value)=>t.setIfInBounds p.1 p.2) r.tmps,defers:=[] } :=
          ⟨FF ps args vs T0 r.tmps hl g3,hH,DM.nil⟩
         refine rK q y r.assign af g5 _ _ _ _ _ al (Fence.wide.inRound L.blk) k (w.heap.size,[]) μ F w _ _ (.inr ⟨rfl,_,rfl⟩) (Jv _) ay fun a1 w1 μ1 o j=>?_;obtain ⟨L1,W,ag⟩:=o.hH.ent b _ Z;rw [j.mu _ _ hL] at W; cases W;obtain ⟨av,r1,q1,q2,q3,q4,q5,q6,q7⟩:=ag;have aq:=(XB.1 q1).1;refine ⟨_,run_beginRound q1 q2,?_⟩;obtain ⟨aj,s⟩:=jj (I:=sZ) (e:=.loop M ad O R .busy none) o.hH Z rfl (j.mu _ _ hL) (w1.putObj L.blk (.loop { r1 with state:=.busy })) (fun c hc=>World.putObj_heap_other hc) (by simp [World.putObj]) (Tp.same rfl rfl) rfl rfl
          (fun E=>⟨av,_,World.putObj_heap_same aq,rfl,q3.mono (fun _ _ h=>h) (fun _ h=>h) E,q4,q5,q6,q7⟩) rfl
         have ak:Mw P (w.heap.size,[]) μ1 F (H1.put b (.loop M ad O R .busy none)) (w1.putObj L.blk (.loop { r1 with state:=.busy })) T1 a1:=⟨s.lr o.hH o.hT,aj,o.hD.stp s⟩
         refine rK q y r.body body g6 _ _ _ _ _ am (Fence.wide.inRound L.blk) k (w.heap.size,[]) μ1 F _ _ _ (.inr ⟨rfl,_,rfl⟩) (WK j.size s.size) ak fun a2 w2 μ2 Y D=>?_;obtain ⟨L2,X,ah⟩:=Y.hH.ent b _ aa;rw [D.mu _ _ (j.mu _ _ hL)] at X; cases X;obtain ⟨aw,r2,s1,s2,s3,s4,s5,s6,s7⟩:=ah;have ar:=(XB.1 s1).1;have fin:∀ (d:Option Code) (st:LoopState) (A:Option ACode) (bv:Bool),(if d.isNone then LoopState.ready else .done)=st->d.isNone=bv->(match A,d with | none,none=>True | some c,some c'=>bD P c'=some c | _,_=>False) ->
           some (AV.bool bv,H2.put b (.loop N ae Q S st A))=some (v,H') ->
           ∃ u w',(Instr.endRound L.blk d).run P w2=.ok u w'/\∃ u',Ending.returned u=.returned u'/\∃ μ',iS sZ P μ F H w v H' u' w' μ':=by
          intro d st A bv e1 e2 e3 e4;cases e4;subst e2;refine ⟨_,_,run_endRound d s1,_,rfl,μ2,?_⟩;obtain ⟨z1,z2⟩:=jj (I:=sZ) (e:=.loop N ae Q S st A) Y.hH aa rfl (D.mu _ _ (j.mu _ _ hL)) (w2.putObj L.blk (.loop { r2 with state:=if d.isNone then .ready else .done,pending:=d })) (fun c hc=>World.putObj_heap_other hc) (by simp [World.putObj]) (Tp.same rfl rfl) rfl rfl
           (fun E=>⟨aw,_,World.putObj_heap_same ar,e1,s3.mono (fun _ _ h=>h) (fun _ h=>h) E,s4,s5,s6,e3⟩) rfl
          exact ⟨.bool _,z1,((j.trans s).trans D).trans z2⟩
         cases x with
         | nrm=>exact fin none .ready none true rfl rfl trivial h
         | ret=>exact fin (some .ret) .done (some .ret) false rfl rfl rfl h
         | exit id=>exact fin (some (.exit id)) .done (some (.exit id)) false rfl rfl rfl h
         | goto g=>exact fin (some (.goto g)) .done (some (.goto g)) false rfl rfl rfl h
        rcases n with ⟨_,rfl⟩ | ⟨_,l,rfl⟩
        ·exact key
        ·exact key
       ·cases h
      ·cases h
     ·cases h
    ·cases h
   ·cases h
  ·cases h
def Af {tab:Nat->Option au} {m:Nat} {d:Mo} (b:IX P d) (a:P.follows .mixedOrders=true) (c:Kd P tab):∀ n,oi P (mp tab d m n)
 | 0=>fun t H v H' h=>by cases h
 | n+1=>Fw a c b (Af b a c n)
end
section
variable {α:Type} (Good:Nat->α->Prop)
def G0 (f:Nat):Option α->Prop
 | none=>True
 | some a=>Good f a
def G1 (f:Nat) (q:Q (Option α)):Prop:=G0 Good (8*f) q.a/\G0 Good (8*f+1) q.b/\G0 Good (8*f+2) q.c/\G0 Good (8*f+3) q.d/\G0 Good (8*f+4) q.e/\G0 Good (8*f+5) q.f/\G0 Good (8*f+6) q.g/\G0 Good (8*f+7) q.h
def G2 (f:Nat) (q:Q (Q (Option α))):Prop:=G1 Good (8*f) q.a/\G1 Good (8*f+1) q.b/\G1 Good (8*f+2) q.c/\G1 Good (8*f+3) q.d/\G1 Good (8*f+4) q.e/\G1 Good (8*f+5) q.f/\G1 Good (8*f+6) q.g/\G1 Good (8*f+7) q.h
def G3 (f:Nat) (q:Q (Q (Q (Option α)))):Prop:=G2 Good (8*f) q.a/\G2 Good (8*f+1) q.b/\G2 Good (8*f+2) q.c/\G2 Good (8*f+3) q.d/\G2 Good (8*f+4) q.e/\G2 Good (8*f+5) q.f/\G2 Good (8*f+6) q.g/\G2 Good (8*f+7) q.h
def G4 (f:Nat) (q:Q (Q (Q (Q (Option α))))):Prop:=G3 Good (8*f) q.a/\G3 Good (8*f+1) q.b/\G3 Good (8*f+2) q.c/\G3 Good (8*f+3) q.d/\G3 Good (8*f+4) q.e/\G3 Good (8*f+5) q.f/\G3 Good (8*f+6) q.g/\G3 Good (8*f+7) q.h
variable {Good}
end
def Tr.nil_get0 (b:Nat):Tr.nil.get b=none:=by
 have:∀ {α:Type} (d:D8) (x:α),Q.at d (Q.all x)=x:=fun d x=>by cases d <;> rfl
 unfold Tr.get Tr.nil;cases Nat.ble b 16777215 with
 | false=>rfl
 | true=>simp only [this]
def Tr.nil_get (n b:Nat):Heap.get (Heap.nil n) b=none:=by
 have h:Nat.ble (Nat.succ b) 0=false:=rfl;unfold Heap.nil Heap.get;simp only [h];exact Tr.nil_get0 b
def GX (P:Program) (f:Nat) (afn:au):Prop:=(∀ e,afn.ext=some e->ExtOK P f e)/\((∀ e,afn.ext=some e->e.code=true)->∃ fn,P.funcs[f]? = some fn/\SX P fn=some afn)
def Nm {P:Program} {f:Nat} {fn:Func} {afn:au} (a:P.funcs[f]? = some fn) (hc:SX P fn=some afn) (he:afn.ext.isNone=true):GX P f afn:=by
 refine ⟨fun e h=>?_,fun _=>⟨fn,a,hc⟩⟩;rw [h] at he; cases he
def sw {P:Program} {f:Nat} {afn:au} {e:Ext} (he:afn.ext=some e) (hx:e.code=false) (h:ExtOK P f e):GX P f afn:=by
 refine ⟨fun e' h'=>?_,fun h'=>?_⟩
 ·rw [he] at h'; cases h'; exact h
 ·have:=h' e he; rw [hx] at this; cases this
def Dx:Array Value->Sem Value:=fun args=>do
 let (x,y,b) ← Extern.MathBitsCarry.three "Sub64" args
 pure (Extern.MathBitsCarry.pair ((x+Extern.MathBitsCarry.m64-y-b) % Extern.MathBitsCarry.m64) (if x<y+b then 1 else 0))
def Fv {P:Program} (x y b:Nat) (hb:b<=1) (w:World) :
  (Dx #[.int .u64 x,.int .u64 y,.int .u64 b]).run P w =
   .ok (.tuple #[.int .u64 (((x+18446744073709551616-y-b) % 18446744073709551616:Nat):Int),.int .u64 ((if x<y+b then 1 else 0:Nat):Int)]) w:=by
 have:b=0\/b=1:=zO
 rcases this with rfl | rfl <;> rfl
def zH {μ:Mu} {F:Nat->Prop} {w:World} {vs:List Value} {a b c:Int} {k1 k2 d:IntKind} (h:LR μ F w [.int k1 a,.int k2 b,.int d c] vs):vs=[.int k1 a,.int k2 b,.int d c]:=by
 have hl:=h.1
 match vs,hl with
 | [x,y,z],_ =>
  have h1:=h.2 0 _ x rfl rfl;have h2:=h.2 1 _ y rfl rfl;have h3:=h.2 2 _ z rfl rfl;cases h1; cases h2; cases h3; rfl
def CI {P:Program} {μ:Mu} {F:Nat->Prop} {H:Heap} {w:World} {v:AV} {u:Value} (hH:HR P μ F H w) (a:VR μ F w v u):iS sZ P μ F H w v H u w μ :=
 ⟨a,hH,Stp.refl _ _ _ _ _ _⟩
def Rc {H H':Heap} {args:List AV} {v:AV} (h:vL H .add64 args=some (v,H')):∃ x y c:Nat,args=[.int .u64 (.ofNat x),.int .u64 (.ofNat y),.int .u64 (.ofNat c)]/\c<=1/\v=.tup [.int .u64 (.ofNat ((x+y+c) % 2^64)),.int .u64 (.ofNat ((x+y+c) / 2^64))]/\H'=H:=by
 unfold vL at h;split at h
 all_goals first | contradiction | skip
 ·split at h
  ·rename_i x y c _ hc;cases h;exact ⟨x,y,c,rfl,hc,rfl,rfl⟩
  ·cases h
 all_goals cases h
def P9 {H H':Heap} {args:List AV} {v:AV} (h:vL H .sub64 args=some (v,H')):∃ x y c:Nat,args=[.int .u64 (.ofNat x),.int .u64 (.ofNat y),.int .u64 (.ofNat c)]/\c<=1/\v=.tup [.int .u64 (.ofNat ((x+2^64-y-c) % 2^64)),.int .u64 (.ofNat (if x<y+c then 1 else 0))]/\H'=H:=by
 unfold vL at h;split at h
 all_goals first | contradiction | skip
 ·split at h
  ·rename_i x y c _ hc;cases h;exact ⟨x,y,c,rfl,hc,rfl,rfl⟩
  ·cases h
 all_goals cases h
def Jl {μ:Mu} {F:Nat->Prop} {w:World} (a b:Int):VR μ F w (.tup [.int .u64 a,.int .u64 b]) (.tuple #[.int .u64 a,.int .u64 b]):=by
 refine .tup _ _ rfl fun i d u hi c=>?_
 have:i=0\/i=1\/2<=i:=zO
 rcases this with rfl | rfl | h2
 ·simp at hi c; subst hi; subst c; exact .int _ _
 ·simp at hi c; subst hi; subst c; exact .int _ _
 ·rw [Xa (by simpa using h2)] at hi; cases hi
def Gh {P:Program} {f:Nat} {fn:Func} (d:P.funcs[f]? = some fn) (h1:(fn.name == "runtime.NumGoroutine")=false) (h2:fn.body.isNone=true) (h3:Extern.findNext fn=none) (h4:Extern.find fn=some add64Entry):ExtOK P f .add64:=by
 intro H args v H' h μ F w vs fence rd n e hH hl;obtain ⟨x,y,c,rfl,hc,rfl,rfl⟩:=Rc h
 have:=zH hl
 subst this;have key:(add64Entry #[.int .u64 (.ofNat x),.int .u64 (.ofNat y),.int .u64 (.ofNat c)]).run P w=.ok (.tuple #[.int .u64 (.ofNat ((x+y+c) % 2^64)),.int .u64 (.ofNat ((x+y+c) / 2^64))]) w:=by
  refine (run_add64 (x:Int) (y:Int) (c:Int) zO zO zO zO w).trans ?_;have a:((x:Int)+y+c) % 18446744073709551616=Int.ofNat ((x+y+c) % 2^64):=by rw [Int.ofNat_eq_natCast]; omega
  have b:((x:Int)+y+c) / 18446744073709551616=Int.ofNat ((x+y+c) / 2^64):=by rw [Int.ofNat_eq_natCast]; omega
  rw [a,b]
 rw [run_callFunc_extern d h1 h2 h3 h4,key];exact ⟨μ,CI hH (Jl _ _)⟩
def Gg {P:Program} {f:Nat} {fn:Func} (a:P.funcs[f]? = some fn) (h1:(fn.name == "runtime.NumGoroutine")=false) (h2:fn.body.isNone=true) (h3:Extern.findNext fn=none) (h4:Extern.find fn=some Dx):ExtOK P f .sub64:=by
 intro H args v H' h μ F w vs fence rd n b hH hl;obtain ⟨x,y,c,rfl,hc,rfl,rfl⟩:=P9 h
 have:=zH hl
 subst this;have key:(Dx #[.int .u64 (.ofNat x),.int .u64 (.ofNat y),.int .u64 (.ofNat c)]).run P w=.ok (.tuple #[.int .u64 (.ofNat ((x+2^64-y-c) % 2^64)),.int .u64 (.ofNat (if x<y+c then 1 else 0))]) w :=
  Fv x y c hc w
 rw [run_callFunc_extern a h1 h2 h3 h4,key];exact ⟨μ,CI hH (Jl _ _)⟩
def GlobW (w:World):Prop:=∀ g cs,Mr g=some cs->VR (fun _=>none) (fun c=>(Mr c).isSome=true) w (.dp cs 0) (.pointer (some ⟨g,0,none⟩))
def Nt {P:Program} {w:World} (a:GlobW w):HR P (fun _=>none) (fun c=>(Mr c).isSome=true) (Heap.nil 0) w:=by
 refine ⟨fun b L h=>(by cases h),fun c h=>?_,fun b e h=>?_,fun b b' e e' L L' h=>?_,a⟩
 ·cases hc:Mr c with
  | none=>rw [hc] at h; cases h
  | some cs =>
   have:=a c cs hc
   cases this with
   | dp _ _ _ _ _ _ _ _ hb _ _=>exact (XB.1 hb).1
 ·rw [Tr.nil_get] at h; cases h
 ·rw [Tr.nil_get] at h; cases h
def fe:Mo:=fun _ _=>none
def UZ (tab:Nat->Option au) (t:Task) (H:Heap) (v:AV) (H':Heap):Prop:=∃ N,∀ m n,N<=m->N<=n->mp tab fe m n t H=some (v,H')
def Ans (tab:Nat->Option au) (t:Task) (H:Heap) (Q:AV->Heap->Prop):Prop:=∃ v H',UZ tab t H v H'/\Q v H'
def Pp (tab:Nat->Option au) (rd:Bool) (c:ACode) (T:Tm) (H:Heap) (x:Ex) (T':Tm) (H':Heap):Prop:=∃ N,∀ m n,N<=m->N<=n->aM (mp tab fe m n) m rd c T H=some (x,T',H')
def Ans.mono {tab:Nat->Option au} {t:Task} {H:Heap} {Q a:AV->Heap->Prop} (h:Ans tab t H Q) (hq:∀ v H',Q v H'->a v H'):Ans tab t H a:=by
 obtain ⟨v,H',hb,h⟩:=h;exact ⟨v,H',hb,hq v H' h⟩
section
variable (tab:Nat->Option au)
def jc (ev:Src->AV) (H:Heap) (id:Nat) (o:AOp) (Q:AV->Heap->Prop):Prop :=
 match o with
 | .call f args=>∃ t,jd (ev f) (args.map ev)=some t/\Ans tab t H Q
 | o=>match aT ev o with
  | some v=>Q v H
  | none=>match bj ev H id o with
   | some (v,H')=>Q v H'
   | none=>False
def xR:Nat->List EZ->Tm->Heap->(Tm->Heap->Prop)->Prop
 | _,[],T,H,Q=>Q T H
 | id,o :: os,T,H,Q =>
  match b9 T o.guard with
  | some true=>jc tab (Src.ev T) H id o.op fun v H'=>xR (id+1) os (putT T o.dst v) H' Q
  | some false=>xR (id+1) os (putT T o.dst (.tup [])) H Q
  | none=>False
def tV (rd:Bool):ACode->Tm->Heap->(Ex->Tm->Heap->Prop)->Prop
 | .skip,T,H,Q=>Q .nrm T H
 | .region ops,T,H,Q=>xR tab H.next ops T { H with next:=H.next+ops.length } (Q .nrm)
 | .seq a b,T,H,Q=>tV rd a T H fun x T' H'=>match x with
  | .nrm=>tV rd b T' H' Q
  | x=>Q x T' H'
 | .cond c a b,T,H,Q=>match c.ev T with
  | .bool true=>tV rd a T H Q
  | .bool false=>tV rd b T H Q
  | _=>False
 | .block id body,T,H,Q=>tV rd body T H fun x T' H'=>match x with
  | .exit d=>if d=id then Q .nrm T' H' else Q (.exit d) T' H'
  | x=>Q x T' H'
 | .exit id,T,H,Q=>Q (.exit id) T H
 | .goto l,T,H,Q=>Q (.goto l) T H
 | .ret,T,H,Q=>Q .ret T H
 | .scope a,T,H,Q=>tV rd a T H fun x T' H'=>match x with
  | .goto _=>False
  | x=>Q x T' H'
 | c,T,H,Q=>∃ x T' H',Pp tab rd c T H x T' H'/\Q x T' H'
end
section
variable {tab:Nat->Option au}
def mQ {T:Tm} {H:Heap} {id:Nat} {o:AOp} {Q:AV->Heap->Prop} (h:jc tab (Src.ev T) H id o Q):∃ v H',Q v H'/\∃ N,∀ m n,N<=m->N<=n->Ao (mp tab fe m n) (Src.ev T) H id o=some (v,H'):=by
 have other:∀ (hc:∀ f args,o ≠ .call f args) (h:match aT (Src.ev T) o with | some v=>Q v H | none=>match bj (Src.ev T) H id o with | some (v,H')=>Q v H' | none=>False),
   (∀ cal,Ao cal (Src.ev T) H id o=match aT (Src.ev T) o with | some v=>some (v,H) | none=>bj (Src.ev T) H id o)->∃ v H',Q v H'/\∃ N,∀ m n,N<=m->N<=n->Ao (mp tab fe m n) (Src.ev T) H id o=some (v,H'):=by
  intro hc h e;split at h
  ·rename_i v a;refine ⟨v,H,h,0,fun m n _ _=>?_⟩;rw [e,a]
  ·rename_i a;split at h
   ·rename_i v H' hh;refine ⟨v,H',h,0,fun m n _ _=>?_⟩;rw [e,a]; exact hh
   ·exact h.elim
 cases o
 case call f args =>
  obtain ⟨t,c,v,H',⟨N,b⟩,hq⟩:=h;refine ⟨v,H',hq,N,fun m n hm hn=>?_⟩;simp only [Ao,c,C6,Xr];exact b m n hm hn
 all_goals exact other (fun f args e=>by cases e) h (fun cal=>rfl)
def qM:∀ (ops:List EZ) (id:Nat) (T:Tm) (H:Heap) (Q:Tm->Heap->Prop),xR tab id ops T H Q->∃ T' H',Q T' H'/\∃ N,∀ m n,N<=m->N<=n->yU (mp tab fe m n) id ops T H=some (T',H')
 | [],id,T,H,Q,h=>⟨T,H,h,0,fun _ _ _ _=>rfl⟩
 | o :: os,id,T,H,Q,h=>by
  unfold xR at h;split at h
  ·rename_i c;obtain ⟨v,f,h1,d,e⟩:=mQ h;obtain ⟨T',H',hq,a,b⟩:=qM os _ _ _ _ h1;refine ⟨T',H',hq,d+a,fun m n hm hn=>?_⟩;unfold yU;rw [c];simp only;rw [e m n zO zO];exact b m n zO zO
  ·rename_i c;obtain ⟨T',H',hq,a,b⟩:=qM os _ _ _ _ h;refine ⟨T',H',hq,a,fun m n hm hn=>?_⟩;unfold yU;rw [c];exact b m n hm hn
  ·exact h.elim
def eJ {rd:Bool}:∀ (c:ACode) (T:Tm) (H:Heap) (Q:Ex->Tm->Heap->Prop),tV tab rd c T H Q->∃ x T' H',Pp tab rd c T H x T' H'/\Q x T' H'
 | .skip,T,H,Q,h=>⟨.nrm,T,H,⟨0,fun _ _ _ _=>rfl⟩,h⟩
 | .exit id,T,H,Q,h=>⟨.exit id,T,H,⟨0,fun _ _ _ _=>rfl⟩,h⟩
 | .goto l,T,H,Q,h=>⟨.goto l,T,H,⟨0,fun _ _ _ _=>rfl⟩,h⟩
 | .ret,T,H,Q,h=>⟨.ret,T,H,⟨0,fun _ _ _ _=>rfl⟩,h⟩
 | .region ops,T,H,Q,h=>by
  obtain ⟨T',H',hq,N,g⟩:=qM ops _ _ _ _ h;refine ⟨.nrm,T',H',⟨N,fun m n hm hn=>?_⟩,hq⟩;simp only [aM,g m n hm hn]
 | .seq a b,T,H,Q,h=>by
  obtain ⟨x,T1,f,⟨d,e⟩,h1⟩:=eJ a _ _ _ h;by_cases hx:x=.nrm
  ·subst hx;obtain ⟨y,T2,H2,⟨j,k⟩,h2⟩:=eJ b _ _ _ h1;refine ⟨y,T2,H2,⟨d+j,fun m n hm hn=>?_⟩,h2⟩;simp only [aM,e m n zO zO];exact k m n zO zO
  ·refine ⟨x,T1,f,⟨d,fun m n hm hn=>?_⟩,?_⟩
   ·simp only [aM,e m n hm hn]
    all_goals (cases x <;> first | rfl | exact absurd rfl hx)
   ·cases x <;> first | exact h1 | exact absurd rfl hx
 | .cond c a b,T,H,Q,h=>by
  unfold tV at h;split at h
  ·rename_i hc;obtain ⟨x,T1,f,⟨d,e⟩,h1⟩:=eJ a _ _ _ h;exact ⟨x,T1,f,⟨d,fun m n hm hn=>by simp only [aM,hc]; exact e m n hm hn⟩,h1⟩
  ·rename_i hc;obtain ⟨x,T1,f,⟨d,e⟩,h1⟩:=eJ b _ _ _ h;exact ⟨x,T1,f,⟨d,fun m n hm hn=>by simp only [aM,hc]; exact e m n hm hn⟩,h1⟩
  ·exact h.elim
 | .block id body,T,H,Q,h=>by
  obtain ⟨x,T1,f,⟨d,e⟩,h1⟩:=eJ body _ _ _ h;cases x with
  | exit i =>
   simp only at h1;by_cases hi:i=id
   ·rw [if_pos hi] at h1;exact ⟨.nrm,T1,f,⟨d,fun m n hm hn=>by simp only [aM,e m n hm hn,if_pos hi]⟩,h1⟩
   ·rw [if_neg hi] at h1;exact ⟨.exit i,T1,f,⟨d,fun m n hm hn=>by simp only [aM,e m n hm hn,if_neg hi]⟩,h1⟩
  | nrm=>exact ⟨_,T1,f,⟨d,fun m n hm hn=>by simp only [aM,e m n hm hn]⟩,h1⟩
  | goto l=>exact ⟨_,T1,f,⟨d,fun m n hm hn=>by simp only [aM,e m n hm hn]⟩,h1⟩
  | ret=>exact ⟨_,T1,f,⟨d,fun m n hm hn=>by simp only [aM,e m n hm hn]⟩,h1⟩
 | .scope a,T,H,Q,h=>by
  obtain ⟨x,T1,f,⟨d,e⟩,h1⟩:=eJ a _ _ _ h;cases x with
  | goto l=>exact h1.elim
  | nrm=>exact ⟨_,T1,f,⟨d,fun m n hm hn=>by simp only [aM,e m n hm hn]⟩,h1⟩
  | exit l=>exact ⟨_,T1,f,⟨d,fun m n hm hn=>by simp only [aM,e m n hm hn]⟩,h1⟩
  | ret=>exact ⟨_,T1,f,⟨d,fun m n hm hn=>by simp only [aM,e m n hm hn]⟩,h1⟩
 | .loop body,T,H,Q,h=>h
 | .rangeFunc ..,T,H,Q,h=>h
 | .draw ..,T,H,Q,h=>h
 | .drawF ..,T,H,Q,h=>h
 | .rangeM ..,T,H,Q,h=>h
 | .scopeL ..,T,H,Q,h=>h
def S6 {f:Nat} {fn:au} {args:List AV} {H:Heap} {Q:AV->Heap->Prop} (a:tab f=some fn) (he:fn.ext=none) (hl:args.length=fn.nparams)
  (h:tV tab false fn.body (args++List.replicate (fn.ntmps-args.length) .undef) H fun x T' H'=>(x=.nrm\/x=.ret)/\∃ v,cp T' H' fn.results=some v/\Q v H'):Ans tab (.fn f args) H Q:=by
 obtain ⟨x,T',H',⟨N,g⟩,hx,v,b,hq⟩:=eJ _ _ _ _ h;refine ⟨v,H',⟨N+1,fun m n hm hn=>?_⟩,hq⟩;obtain ⟨n',rfl⟩:∃ n',n=n'+1:=⟨n-1,zO⟩
 show kh tab fe (mp tab fe m n') m (.fn f args) H=_;simp only [kh,a,he,Ae,if_pos hl];rw [g m n' zO zO];rcases hx with rfl | rfl <;> simp [b]
def Rb {f:Nat} {fn:au} {args:List AV} {H:Heap} {Q:AV->Heap->Prop} (a:tab f=some fn) (he:fn.ext=none) (hl:args.length=fn.nparams)
  (h:tV tab false fn.body (args++List.replicate (fn.ntmps-args.length) .undef) H fun x T' H'=>(x=.nrm\/x=.ret)/\∃ v,cp T' H' fn.results=some v/\Q v H'):Ans tab (.ent f args) H Q:=by
 obtain ⟨x,T',H',⟨N,g⟩,hx,v,b,hq⟩:=eJ _ _ _ _ h;refine ⟨v,H',⟨N+1,fun m n hm hn=>?_⟩,hq⟩;obtain ⟨n',rfl⟩:∃ n',n=n'+1:=⟨n-1,zO⟩
 show kh tab fe (mp tab fe m n') m (.ent f args) H=_;simp only [kh,a,he,Ae,if_pos hl];rw [g m n' zO zO];rcases hx with rfl | rfl <;> simp [b]
def zk {f:Nat} {fn:au} {e:Ext} {args:List AV} {H:Heap} {Q:AV->Heap->Prop} {v:AV} {H':Heap} (a:tab f=some fn) (he:fn.ext=some e) (hc:e.code=false) (h:vL H e args=some (v,H')) (hq:Q v H'):Ans tab (.fn f args) H Q:=by
 refine ⟨v,H',⟨1,fun m n hm hn=>?_⟩,hq⟩;obtain ⟨n',rfl⟩:∃ n',n=n'+1:=⟨n-1,zO⟩
 show kh tab fe (mp tab fe m n') m (.fn f args) H=_;simp only [kh,a,he];cases e <;> first | exact h | (cases hc; done) | (exact absurd h (by unfold vL; intro h; split at h <;> first | (rename_i q _; cases q; done) | (rename_i q; cases q; done) | (cases h; done)))
end
structure Sub (H H':Heap):Prop where
 next:H.next<=H'.next
 get:∀ b e,H.get b=some e->H'.get b=some e
def Wf (H:Heap):Prop:=∀ b e,H.get b=some e->b<H.next
def Sub.refl (H:Heap):Sub H H:=⟨Jv _,fun _ _ h=>h⟩
def Sub.trans {H H' H'':Heap} (h:Sub H H') (h':Sub H' H''):Sub H H'':=⟨WK h.next h'.next,fun b e hb=>h'.get b e (h.get b e hb)⟩
def Sub.bump (H:Heap) (k:Nat):Sub H { H with next:=H.next+k }:=⟨W3 _ _,fun _ _ h=>h⟩
def Sub.bump_r {H H':Heap} (h:Sub H H') (k:Nat):Sub H { H' with next:=H'.next+k }:=h.trans (Sub.bump H' k)
def Wf.bump {H:Heap} (h:Wf H) (k:Nat):Wf { H with next:=H.next+k }:=fun b e hb=>WP (h b e hb) (W3 _ _)
def Wf.put {H:Heap} (h:Wf H) {b:Nat} (hb:b<H.next) (e:Ent):Wf (H.put b e):=fun c e' hc=>by
 rw [Heap.get_put] at hc;split at hc
 ·rename_i h1; subst h1; exact hb
 ·exact h c e' hc
def Wf.kill {H:Heap} (h:Wf H) (b:Nat):Wf (H.kill b):=fun c e' hc=>by
 rw [Heap.get_kill] at hc;split at hc
 ·cases hc
 ·exact h c e' hc
def Sub.put {H H':Heap} (h:Sub H H') {b:Nat} (hb:H.get b=none) (e:Ent):Sub H (H'.put b e):=⟨h.next,fun c e' hc=>by
 rw [Heap.get_put];split
 ·rename_i h1; subst h1; rw [hb] at hc; cases hc
 ·exact h.get c e' hc⟩
def Sub.kill {H H':Heap} (h:Sub H H') {b:Nat} (hb:H.get b=none):Sub H (H'.kill b):=⟨h.next,fun c e' hc=>by
 rw [Heap.get_kill];split
 ·rename_i h1; subst h1; rw [hb] at hc; cases hc
 ·exact h.get c e' hc⟩
def Wf.fresh {H:Heap} (h:Wf H) {b:Nat} (hb:H.next<=b):H.get b=none:=by
 cases hg:H.get b with
 | none=>rfl
 | some e=>have:=h b e hg; omega
def TU:AV->Prop
 | .own _ _ n c _ _=>n<=c
 | _=>True
def Rd (H:Heap) (sz:Nat) (v:AV) (cells:List AV):Prop:=TU v/\(∀ s,v ≠ .str s)/\∃ n,gJ v=some n/\aK H sz n v=some cells
def Ge {H H':Heap} (h:Sub H H') {sz n:Nat} {v:AV} {cells:List AV} (a:aK H sz n v=some cells):aK H' sz n v=some cells:=by
 unfold aK at a ⊢;split at a
 ·split at a
  ·rename_i cs ty rw hb;rw [h.get _ _ hb]; exact a
  ·cases a
 ·exact a
 ·exact a
 ·exact a
 ·cases a
def Rd.mono {H H':Heap} (h:Sub H H') {sz:Nat} {v:AV} {cells:List AV} (hr:Rd H sz v cells):Rd H' sz v cells:=by
 obtain ⟨h0,h1,n,h2,h3⟩:=hr;exact ⟨h0,h1,n,h2,Ge h h3⟩
def Rd.nil (H:Heap) (sz:Nat):Rd H sz .nilSl []:=⟨trivial,fun s h=>(by cases h),0,rfl,rfl⟩
def Rd.own {H:Heap} {sz b n c:Nat} {ex:Bool} {cs:List AV} {ty:Nat} {rw:Bool} (hb:H.get b=some (.cells cs ty rw)) (hn:cs.length=n*sz) (hc:n<=c):Rd H sz (.own b 0 n c sz ex) cs:=by
 refine ⟨hc,fun s h=>(by cases h),n,rfl,?_⟩;simp only [aK,hb];rw [if_pos zS];simp [<- hn]
def Rd.length {H:Heap} {sz:Nat} {v:AV} {cells:List AV} (h:Rd H sz v cells):∃ n,gJ v=some n/\cells.length=n*sz:=by
 obtain ⟨-,h1,n,h2,h3⟩:=h;refine ⟨n,h2,?_⟩;unfold aK at h3;split at h3
 ·split at h3
  ·split at h3
   ·rename_i hc; cases h3; simp; omega
   ·cases h3
  ·cases h3
 ·split at h3
  ·rename_i hc; cases h3; simp; omega
  ·cases h3
 ·split at h3
  ·rename_i hc; cases h3; simp [hc]
  ·cases h3
 ·exact absurd rfl (h1 _)
 ·cases h3
def az (v:AV) (o:Nat):AV:=match v with
 | .own b off _ _ _ _=>.ptr b (off+o)
 | .sl cs _=>.dp cs o
 | _=>.undef
def Rd.index {H:Heap} {sz:Nat} {v:AV} {cells:List AV} (h:Rd H sz v cells) {ev:Src->AV} {x i:Src} {k:IntKind} {j:Nat} (hx:ev x=v) (hi:ev i=.int k (j:Int)) (hj:j*sz+sz<=cells.length) (c:0<sz):aT ev (.indexAddr sz x i)=some (az v (j*sz)):=by
 obtain ⟨n,hn,hl⟩:=h.length;obtain ⟨-,h1,m,h2,h3⟩:=h;rw [hn] at h2; cases h2;have a:j<n:=by
  apply Nat.lt_of_not_le
  intro b
  have:=WJ sz b
  omega
 have ha:qm (.int k (j:Int))=some j:=rfl;simp only [aT,hx,hi,ha,C6,Xr];unfold aK at h3;split at h3
 ·split at h3
  ·split at h3
   ·rename_i hc;simp only [gJ,Xb] at hn;subst hn;show (if j<_/\_=sz then some _ else none)=_;rw [if_pos ⟨a,hc.1⟩];rfl
   ·cases h3
  ·cases h3
 ·split at h3
  ·simp only [gJ,Xb] at hn;subst hn;show (if j<_ then some _ else none)=_;rw [if_pos a];rfl
  ·cases h3
 ·simp only [gJ,Xb] at hn;omega
 ·exact absurd rfl (h1 _)
 ·cases h3
def zJ {cs:List AV} {off n o:Nat} {k:Option Nat} {w:AV} (b:off<=cs.length) (h:bN ((cs.drop off).take n) o k=some w):bN cs (off+o) k=some w:=by
 unfold bN at h ⊢;cases k with
 | none =>
  simp only at h ⊢;rw [WW] at h;split at h
  ·rw [WX] at h; exact h
  ·cases h
 | some m =>
  simp only at h ⊢;split at h
  ·rename_i a;cases h;simp only [WU,XF] at a;rw [if_pos zO];congr 2
   apply Yg
   intro i;simp only [WW,WX];split
   ·rw [if_pos zO]; congr 1; omega
   ·rfl
  ·cases h
def Rd.load {H:Heap} {sz:Nat} {v:AV} {cells:List AV} (h:Rd H sz v cells) {o:Nat} {k:Option Nat} {w:AV} (b:k≠some 0) (a:bN cells o k=some w):bc H k (az v o)=some w:=by
 obtain ⟨-,h1,n,h2,h3⟩:=h;unfold aK at h3;split at h3
 ·split at h3
  ·rename_i hb;split at h3
   ·rename_i hc;cases h3;simp only [az,bc,hb];exact zJ zO a
   ·cases h3
  ·cases h3
 ·split at h3
  ·cases h3;simp only [az,bc]
   have:=zJ (off:=0) (WG _) (by simpa using a)
   simpa using this
  ·cases h3
 ·split at h3
  ·cases h3;unfold bN at a;cases k <;> simp at a;rename_i m;exact absurd (by rw [a.1.2]) b
  ·cases h3
 ·exact absurd rfl (h1 _)
 ·cases h3
def Rd.len {H:Heap} {sz:Nat} {v:AV} {cells:List AV} (h:Rd H sz v cells) {ev:Src->AV} {x:Src} (hx:ev x=v) {n:Nat} (hn:cells.length=n*sz) (a:0<sz):aT ev (.len x)=some (.int .i64 (n:Int)):=by
 obtain ⟨m,hm,hl⟩:=h.length
 have:m=n:=YN a zO
 subst this;obtain ⟨-,h1,-⟩:=h;simp only [aT,hx];cases v <;> simp only [gJ,Xb] at hm <;> first | (subst hm; rfl) | (cases hm; done) | skip
 exact absurd rfl (h1 _)
def Rd.slice {H:Heap} {sz:Nat} {v:AV} {cells:List AV} (h:Rd H sz v cells) {lo hi:Nat} {L U:Option AV} (hL:(L.map qm).getD (some 0)=some lo) (d:∀ n,gJ v=some n->(U.map qm).getD (some n)=some hi) (k:lo<=hi) (hh:hi*sz<=cells.length) (t:0<sz) :
  ∃ o,bA sz v L U none=some o/\Rd H sz o ((cells.take (hi*sz)).drop (lo*sz)):=by
 obtain ⟨n,hn,hl⟩:=h.length;have d:=d n hn;have f:hi<=n:=Nat.le_of_mul_le_mul_right zO t;have w:lo*sz<=hi*sz:=WJ sz k;obtain ⟨h0,h1,m,h2,h3⟩:=h;rw [hn] at h2; cases h2;cases v with
 | own b off n' c a ex =>
  simp only [gJ,Xb] at hn;subst hn;simp only [aK] at h3;split at h3
  ·rename_i cs ty rw hb;split at h3
   ·rename_i hc;obtain ⟨rfl,-,u⟩:=hc;cases h3;have x:n'<=c:=h0;have e:(hi-lo)*a=hi*a-lo*a:=Nat.sub_mul ..;have r:=WJ a f;have g:bA a (.own b off n' c a ex) L U none=(if lo<c\/lo=0 then some (.own b (off+lo*a) (hi-lo) (c-lo) a ex) else if ex=true then some (.own b off (hi-lo) (c-lo) a true) else some (.sl [] 0)):=by
     simp only [bA,d,hL,C6,Xr,ne_eq,not_true_eq_false,if_false];rw [if_pos ⟨zO,k⟩]
    have key:((cs.drop off).take (n'*a)).take (hi*a)=(cs.drop off).take (hi*a):=by
     rw [YO,XJ r]
    rw [key];by_cases j:lo<c\/lo=0
    ·refine ⟨_,g.trans (if_pos j),?_,fun s h=>(by cases h),hi-lo,rfl,?_⟩
     ·show hi-lo<=c-lo; omega
     ·simp only [aK,hb];rw [if_pos ⟨trivial,Jv _,zO⟩];congr 1
      apply Yg
      intro i;simp only [WW,WX];by_cases l:i<(hi-lo)*a
      ·rw [if_pos l,if_pos zO]; congr 1; omega
      ·rw [if_neg l,if_neg zO]
    ·have q:lo=hi:=zO;subst q;have e0:((cs.drop off).take (lo*a)).drop (lo*a)=[]:=by
      apply Xl; simp
     rw [e0];cases ex with
     | true =>
      refine ⟨_,g.trans (by rw [if_neg j,if_pos rfl]),?_,fun s h=>(by cases h),lo-lo,rfl,?_⟩
      ·show lo-lo<=c-lo; omega
      ·simp only [aK,hb];rw [if_pos ⟨trivial,Jv _,by simp; omega⟩]
       simp
     | false =>
      refine ⟨.sl [] 0,g.trans (by rw [if_neg j,if_neg (by simp)]),trivial,fun s h=>(by cases h),0,rfl,?_⟩;simp [aK]
   ·cases h3
  ·cases h3
 | sl cs n' =>
  simp only [gJ,Xb] at hn;subst hn;simp only [aK] at h3;split at h3
  ·rename_i hc;cases h3;have p:hi*sz<=cs.length:=by have:=WJ sz f; omega
   refine ⟨.sl ((cs.drop (lo*sz)).take ((hi-lo)*sz)) (hi-lo),?_,trivial,fun s h=>(by cases h),hi-lo,rfl,?_⟩
   ·simp only [bA,d,hL,C6,Xr];rw [if_pos ⟨f,k,p⟩]
   ·simp only [aK];have e:(hi-lo)*sz=hi*sz-lo*sz:=Nat.sub_mul ..;rw [if_pos ⟨Jv _,by simp only [WU,XF]; omega⟩];congr 1
    apply Yg
    intro i
    have:=WJ sz f
    simp only [WW,WX];split
    ·rw [if_pos zO,if_pos zO]
    ·rw [if_neg zO]
  ·cases h3
 | nilSl =>
  simp only [gJ,Xb] at hn;subst hn
  have:hi=0:=zO
  subst this
  have:lo=0:=zO
  subst this;refine ⟨.nilSl,?_,trivial,fun s h=>(by cases h),0,rfl,?_⟩
  ·simp only [bA,d,hL]; simp
  ·simp only [aK] at h3 ⊢; simp
 | str s=>exact absurd rfl (h1 s)
 | _=>simp [gJ] at hn
def iK {α:Type} (o:Option α) (Q:α->Prop):Prop:=match o with
 | some v=>Q v
 | none=>False
theorem Lf {α:Type} (v:α) (Q:α->Prop):iK (some v) Q=Q v:=rfl
theorem An {α β:Type} (o:Option α) (f:α->β) (Q:β->Prop):iK (o.map f) Q=iK o fun v=>Q (f v):=by cases o <;> rfl
def lenV:AV->Option AV
 | .own _ _ n _ _ _=>some (.int .i64 n)
 | .sl _ n=>some (.int .i64 n)
 | .nilSl=>some (.int .i64 0)
 | _=>none
def cG (sz:Nat) (v i:AV):Option AV:=aT (fun s=>match s with | .t 0=>v | _=>i) (.indexAddr sz (.t 0) (.t 1))
def BI (off:Nat):AV->Option AV
 | .ptr b o=>some (.ptr b (o+off))
 | .dp cs o=>some (.dp cs (o+off))
 | _=>none
def Er (k:Option Nat) (off:Nat):AV->Option AV
 | .agg cs=>bN cs off k
 | _=>none
def Jj (c a b:AV):Option AV:=match c with
 | .bool t=>some (if t then a else b)
 | _=>none
def JZ (k:IntKind):AV->Option AV
 | .int _ n=>some (.int k (k.wrap n))
 | _=>none
def Gf (i:Nat):AV->Option AV
 | .tup vs=>vs[i]?
 | _=>none
def im (zero:List AV) (parts:List ((Nat × Nat) × AV)):Option AV:=(cP zero parts).map .agg
def Ap:AV->Option AV
 | .ptr b o=>some (.ptr b o)
 | .dp cs o=>some (.dp cs o)
 | .fn (.func f) a c=>some (.fn (.func f) a c)
 | .loopv b=>some (.loopv b)
 | _=>none
def bU (sz:Nat) (v:AV) (lo hi mx:Option AV):Option AV:=match v with
 | .str _=>none
 | v=>bA sz v lo hi mx
section
variable (tab:Nat->Option au) (ev:Src->AV) (H:Heap) (id:Nat) (Q:AV->Heap->Prop)
def PN {o:AOp} {w:AV} (hc:∀ f args,o ≠ .call f args) (h:aT ev o=some w):jc tab ev H id o Q=Q w H:=by
 cases o
 case call f args=>exact absurd rfl (hc f args)
 all_goals
  unfold jc;simp only [h]
def iq {o:AOp} (hc:∀ f args,o ≠ .call f args) (h:aT ev o=none):jc tab ev H id o Q=iK (bj ev H id o) fun r=>Q r.1 r.2:=by
 cases hh:bj ev H id o with
 | none =>
  cases o
  case call f args=>exact absurd rfl (hc f args)
  all_goals
   unfold jc;simp only [h,hh];rfl
 | some r =>
  cases o
  case call f args=>exact absurd rfl (hc f args)
  all_goals
   unfold jc;simp only [h,hh];rfl
def eN {o:AOp} {v:Option AV} (hc:∀ f args,o ≠ .call f args) (h:aT ev o=v) (hn:bj ev H id o=none):jc tab ev H id o Q=iK v fun v=>Q v H:=by
 cases v with
 | some w=>rw [PN tab ev H id Q hc h,Lf]
 | none=>rw [iq tab ev H id Q hc h,hn]; rfl
def PO (c a b:Src):jc tab ev H id (.pick c a b) Q=iK (Jj (ev c) (ev a) (ev b)) fun v=>Q v H :=
 eN tab ev H id Q (fun f a e=>by cases e) (by simp only [aT,Jj]; cases ev c <;> rfl) rfl
def RT (op:BinOp) (k:BK) (x y:Src):jc tab ev H id (.bin op k x y) Q=iK (b7 op k (ev x) (ev y)) fun v=>Q v H :=
 eN tab ev H id Q (fun f a e=>by cases e) rfl rfl
def Ti (op:UnOp) (x:Src):jc tab ev H id (.un op x) Q=iK (Sa op (ev x)) fun v=>Q v H :=
 eN tab ev H id Q (fun f a e=>by cases e) rfl rfl
def PR (k:IntKind) (x:Src):jc tab ev H id (.conv k x) Q=iK (JZ k (ev x)) fun v=>Q v H :=
 eN tab ev H id Q (fun f a e=>by cases e) (by simp only [aT,JZ]; cases ev x <;> rfl) rfl
def RP (x:Src):jc tab ev H id (.len x) Q=iK (lenV (ev x)) fun v=>Q v H :=
 eN tab ev H id Q (fun f a e=>by cases e) (by simp only [aT,lenV]; cases ev x <;> rfl) rfl
def RQ (sz:Nat) (x i:Src):jc tab ev H id (.indexAddr sz x i) Q=iK (cG sz (ev x) (ev i)) fun v=>Q v H :=
 eN tab ev H id Q (fun f a e=>by cases e) (by simp only [aT,cG]) rfl
def Tj (off:Nat) (x:Src):jc tab ev H id (.fieldAddr off x) Q=iK (BI off (ev x)) fun v=>Q v H :=
 eN tab ev H id Q (fun f a e=>by cases e) (by simp only [aT,BI]; cases ev x <;> rfl) rfl
def MS (k:Option Nat) (off:Nat) (x:Src):jc tab ev H id (.field k off x) Q=iK (Er k off (ev x)) fun v=>Q v H :=
 eN tab ev H id Q (fun f a e=>by cases e) (by simp only [aT,Er]; cases ev x <;> rfl) rfl
def RR (i:Nat) (x:Src):jc tab ev H id (.extract i x) Q=iK (Gf i (ev x)) fun v=>Q v H :=
 eN tab ev H id Q (fun f a e=>by cases e) (by simp only [aT,Gf]; cases ev x <;> rfl) rfl
def MT (z:List AV) (ps:List ((Nat × Nat) × Src)):jc tab ev H id (.build z ps) Q=iK (im z (ps.map fun p=>(p.1,ev p.2))) fun v=>Q v H :=
 eN tab ev H id Q (fun f a e=>by cases e) (by simp only [aT,im,C6]; cases cP z (ps.map fun p=>(p.1,ev p.2)) <;> rfl) rfl
def MR (x:Src):jc tab ev H id (.nilCheck x) Q=iK (Ap (ev x)) fun v=>Q v H :=
 eN tab ev H id Q (fun f a e=>by cases e) (by simp only [aT,Ap]; cases ev x <;> rfl) rfl
def MQ (sz:Nat) (x:Src) (lo hi mx:Option Src):jc tab ev H id (.slice sz x lo hi mx) Q=iK (bU sz (ev x) (lo.map ev) (hi.map ev) (mx.map ev)) fun v=>Q v H :=
 eN tab ev H id Q (fun f a e=>by cases e) (by simp only [aT,bU]; cases ev x <;> rfl) rfl
def PQ (k:Option Nat) (x:Src):jc tab ev H id (.load k x) Q=iK (bc H k (ev x)) fun v=>Q v H:=by
 rw [iq tab ev H id Q (fun f a e=>by cases e) rfl];show iK ((bc H k (ev x)).map fun v=>(v,H)) _=_;rw [An]
def MP (n:Nat) (x v:Src):jc tab ev H id (.store n x v) Q=iK (qS H n (ev x) (ev v)) fun H'=>Q .undef H':=by
 rw [iq tab ev H id Q (fun f a e=>by cases e) rfl];show iK ((qS H n (ev x) (ev v)).map fun H'=>(AV.undef,H')) _=_;rw [An]
def MU (ty:Nat) (z:List AV):jc tab ev H id (.alloc ty z) Q=Q (.ptr id 0) (H.put id (.cells z ty true)):=by
 rw [iq tab ev H id Q (fun f a e=>by cases e) rfl]; rfl
def P7 (f:Nat) (a b args:List AV) (R:Task->Prop):(∃ t,jd (.fn (.func f) a b) args=some t/\R t)=R (.fn f (a++args++b)):=by simp [jd]
def KG (b:Nat) (args:List AV) (R:Task->Prop):(∃ t,jd (.loopv b) args=some t/\R t)=R (.round b args):=by simp [jd]
def Kn (size bytes ty:Nat) (z:List AV) (x y:Src):jc tab ev H id (.append size bytes ty z x y) Q=iK (bj ev H id (.append size bytes ty z x y)) fun r=>Q r.1 r.2 :=
 iq tab ev H id Q (fun f a e=>by cases e) rfl
def PP (ty size bytes:Nat) (z:List AV) (l c:Src):jc tab ev H id (.mksl ty size bytes z l c) Q=iK (bj ev H id (.mksl ty size bytes z l c)) fun r=>Q r.1 r.2 :=
 iq tab ev H id Q (fun f a e=>by cases e) rfl
def BN (ty size:Nat) (z:List AV) (n:Nat) (ps:List ((Nat × Nat) × Src)):jc tab ev H id (.buildSlice ty size z n ps) Q=iK (cP z (ps.map fun p=>(p.1,ev p.2))) fun cs=>Q (.own id 0 n n size true) (H.put id (.cells cs ty true)):=by
 rw [iq tab ev H id Q (fun f a e=>by cases e) rfl];have e:bj ev H id (.buildSlice ty size z n ps)=(cP z (ps.map fun p=>(p.1,ev p.2))).map fun cs=>(.own id 0 n n size true,H.put id (.cells cs ty true)):=by
  simp only [bj];cases cP z (ps.map fun p=>(p.1,ev p.2)) <;> rfl
 rw [e,An]
end
section
variable {tab:Nat->Option au} {T:Tm} {H:Heap} {Q:Tm->Heap->Prop} {id:Nat}
def vJ (T:Tm) (i j:Nat) (v:AV) (h:i<T.length):ad (T.set i v) j=if i=j then v else ad T j:=by
 unfold ad;rw [qf,qf,YP];by_cases a:i=j
 ·subst a; simp [h]
 ·simp [a]
theorem SR (n:Nat):Src.ev T (.t n)=ad T n:=rfl
theorem TQ (v:AV):Src.ev T (.c v)=v:=rfl
theorem jk (d:Nat) (v:AV):putT T (some d) v=T.set d v:=rfl
theorem mI (v:AV):putT T none v=T:=rfl
end
def QJ {H:Heap} {sz:Nat} {v:AV} {cells:List AV} (h:Rd H sz v cells) {k:IntKind} {j:Nat} (hj:j*sz+sz<=cells.length) (a:0<sz):cG sz v (.int k (j:Int))=some (az v (j*sz)) :=
 h.index (ev:=fun s=>match s with | .t 0=>v | _=>.int k (j:Int)) (x:=.t 0) (i:=.t 1) rfl rfl hj a
def JD {H:Heap} {sz:Nat} {v:AV} {cells:List AV} (h:Rd H sz v cells) {n:Nat} (hn:cells.length=n*sz) (a:0<sz):lenV v=some (.int .i64 (n:Int)):=by
 have:=h.len (ev:=fun _=>v) (x:=.t 0) rfl hn a
 refine Eq.trans ?_ this;simp only [aT,lenV];cases v <;> rfl
section
variable {tab:Nat->Option au} {T:Tm} {H:Heap} {Q:Tm->Heap->Prop} {id:Nat}
end
def Ra {tab:Nat->Option au} {f:Nat} {fn:au} {args:List AV} {H:Heap} {Q:AV->Heap->Prop} (a:tab f=some fn) (he:fn.ext=none) (hl:args.length=fn.nparams) (hn:fn.nparams<=fn.ntmps)
  (h:∀ T0:Tm,T0.length=fn.ntmps->(∀ i,i<args.length->ad T0 i=args.getD i .undef)->tV tab false fn.body T0 H fun x T' H'=>(x=.nrm\/x=.ret)/\∃ v,cp T' H' fn.results=some v/\Q v H'):Ans tab (.fn f args) H Q:=by
 refine S6 a he hl (h _ zS fun i hi=>?_);unfold ad;rw [qf,qf,W4 hi]
structure Sw (H H':Heap):Prop where
 sub:Sub H H'
 wf:Wf H'
def Sw.refl {H:Heap} (h:Wf H):Sw H H:=⟨Sub.refl H,h⟩
def Sw.bump {H H':Heap} (h:Sw H H') (k:Nat):Sw H { H' with next:=H'.next+k }:=⟨h.sub.bump_r k,h.wf.bump k⟩
def Sw.trans {H H' H'':Heap} (h:Sw H H') (h':Sw H' H''):Sw H H'':=⟨h.sub.trans h'.sub,h'.wf⟩
def Gy (v:AV) (P Q:Prop):Prop:=match v with
 | .bool true=>P
 | .bool false=>Q
 | _=>False
def IJ (b:Bool) (P Q:Prop):Gy (.bool b) P Q=if b=true then P else Q:=by cases b <;> simp [Gy]
section
variable {tab:Nat->Option au} {rd:Bool} {T:Tm} {H:Heap} {Q:Ex->Tm->Heap->Prop}
theorem PS (a b:ACode):tV tab rd (.seq a b) T H Q=tV tab rd a T H fun x T' H'=>match x with | .nrm=>tV tab rd b T' H' Q | x=>Q x T' H':=rfl
def MV (c:Src) (a b:ACode):tV tab rd (.cond c a b) T H Q=Gy (c.ev T) (tV tab rd a T H Q) (tV tab rd b T H Q):=by
 show (match c.ev T with | .bool true=>tV tab rd a T H Q | .bool false=>tV tab rd b T H Q | _=>False)=_;unfold Gy;split <;> rfl
theorem V7 (id:Nat) (a:ACode):tV tab rd (.block id a) T H Q=tV tab rd a T H fun x T' H'=>match x with | .exit b=>if b=id then Q .nrm T' H' else Q (.exit b) T' H' | x=>Q x T' H':=rfl
theorem Ko (a:ACode):tV tab rd (.scope a) T H Q=tV tab rd a T H fun x T' H'=>match x with | .goto _=>False | x=>Q x T' H':=rfl
end
section
variable (k:IntKind) (a b:Int)
def Q4:b7 .eql .int (.int k a) (.int k b)=some (.bool (decide (a=b))):=by
 simp only [b7,lX,if_true]; congr 2
def QZ:b7 .neq .int (.int k a) (.int k b)=some (.bool (!decide (a=b))):=by
 simp only [b7,lX,if_true]; congr 2
def Ka:b7 .lss .int (.int k a) (.int k b)=some (.bool (decide (a<b))):=by simp only [b7,lX,if_true]
def Q0:b7 .leq .int (.int k a) (.int k b)=some (.bool (decide (a<=b))):=by simp only [b7,lX,if_true]
def Q2:b7 .gtr .int (.int k a) (.int k b)=some (.bool (decide (b<a))):=by simp only [b7,lX,if_true,gt_iff_lt,ge_iff_le]
def Q3:b7 .geq .int (.int k a) (.int k b)=some (.bool (decide (b<=a))):=by simp only [b7,lX,if_true,gt_iff_lt,ge_iff_le]
def EP:b7 .add .int (.int k a) (.int k b)=some (.int k (k.wrap (a+b))):=by simp only [b7,lX,if_true]
def EN:b7 .sub .int (.int k a) (.int k b)=some (.int k (k.wrap (a-b))):=by simp only [b7,lX,if_true]
def J9:b7 .mul .int (.int k a) (.int k b)=some (.int k (k.wrap (a*b))):=by simp only [b7,lX,if_true]
theorem OU (j:IntKind):JZ k (.int j a)=some (.int k (k.wrap a)):=rfl
theorem Lc (c:Bool) (x y:AV):Jj (.bool c) x y=some (if c=true then x else y):=rfl
theorem R8 (c:Bool):Sa .not (.bool c)=some (.bool !c):=rfl
theorem Q6 (c e:Bool):b7 .eql .bool (.bool c) (.bool e)=some (.bool (c == e)):=rfl
theorem Q5 (c e:Bool):b7 .neq .bool (.bool c) (.bool e)=some (.bool (!(c == e))):=rfl
end
def wrap_i64 {x:Int} (h1 : -9223372036854775808<=x) (h2:x<9223372036854775808):IntKind.i64.wrap x=x:=by
 have e:IntKind.i64.wrap x=if x % 18446744073709551616 ≥ 9223372036854775808 then x % 18446744073709551616-18446744073709551616 else x % 18446744073709551616:=by
  simp [IntKind.wrap,IntKind.signed,IntKind.bits]
 rw [e];split <;> omega
def gQ {x:Int}:IntKind.u64.wrap x=x % 18446744073709551616:=by
 simp [IntKind.wrap,IntKind.signed,IntKind.bits]
def gP {x:Int} (h1:0<=x) (h2:x<18446744073709551616):IntKind.u64.wrap x=x:=by rw [gQ]; omega
def Rd.notStr {H:Heap} {sz:Nat} {v:AV} {cells:List AV} (h:Rd H sz v cells) (lo hi mx:Option AV):bU sz v lo hi mx=bA sz v lo hi mx:=by
 cases v <;> first | rfl | exact absurd rfl (h.2.1 _)
theorem oS (k:IntKind) (n:Nat):qm (.int k (n:Int))=some n:=rfl
def Rd.hi {H:Heap} {sz:Nat} {v:AV} {cells:List AV} (h:Rd H sz v cells) {k:IntKind} {hi:Nat} (hh:hi*sz<=cells.length) (b:0<sz):∃ a,bU sz v none (some (.int k (hi:Int))) none=some a/\Rd H sz a (cells.take (hi*sz)):=by
 rw [h.notStr];obtain ⟨a,h1,h2⟩:=h.slice (lo:=0) (hi:=hi) (L:=none) (U:=some (.int k (hi:Int))) rfl (fun n _=>rfl) (WG _) hh b;exact ⟨a,h1,by simpa using h2⟩
def Rd.lo {H:Heap} {sz:Nat} {v:AV} {cells:List AV} (h:Rd H sz v cells) {k:IntKind} {lo:Nat} (hh:lo*sz<=cells.length) (b:0<sz):∃ a,bU sz v (some (.int k (lo:Int))) none none=some a/\Rd H sz a (cells.drop (lo*sz)):=by
 rw [h.notStr];obtain ⟨n,hn,hl⟩:=h.length;obtain ⟨a,h1,h2⟩:=h.slice (lo:=lo) (hi:=n) (L:=some (.int k (lo:Int))) (U:=none) rfl (fun m hm=>by rw [hn] at hm; cases hm; rfl) (Nat.le_of_mul_le_mul_right zO b) zO b;refine ⟨a,h1,?_⟩;rw [<- hl,WZ] at h2; exact h2
def Rd.clip {H:Heap} {sz:Nat} {v:AV} {cells:List AV} (h:Rd H sz v cells) {k j:IntKind} {n:Nat} (hn:cells.length=n*sz) (l:0<sz):∃ g,bU sz v none (some (.int k (n:Int))) (some (.int j (n:Int)))=some g/\Rd H sz g cells:=by
 rw [h.notStr];obtain ⟨m,hm,hl⟩:=h.length
 have:m=n:=YN l zO
 subst this;obtain ⟨h0,h1,m',h2,h3⟩:=h;rw [hm] at h2; cases h2;cases v with
 | own b off n' c a ex =>
  simp only [gJ,Xb] at hm;subst hm;simp only [aK] at h3;split at h3
  ·rename_i cs ty rw hb;split at h3
   ·rename_i hc;obtain ⟨rfl,-,i⟩:=hc;have f:n'<=c:=h0;have e:bA a (.own b off n' c a ex) none (some (.int k (n':Int))) (some (.int j (n':Int)))=some (.own b off n' 0 a true)\/bA a (.own b off n' c a ex) none (some (.int k (n':Int))) (some (.int j (n':Int)))=some (.own b off n' n' a true):=by
     simp only [bA,oS,ne_eq,not_true_eq_false,if_false,C6,Xr,X2,XX];rw [if_pos ⟨f,Jv _,WG _⟩];by_cases d:n'=0
     ·left; rw [if_pos d]; simp
     ·right; rw [if_neg d]; simp
    by_cases d:n'=0
    ·subst d;refine ⟨.own b off 0 0 a true,?_,Jv _,fun s h=>(by cases h),0,rfl,?_⟩
     ·rcases e with e | e <;> exact e
     ·simp only [aK,hb];rw [if_pos ⟨trivial,Jv _,zO⟩];exact h3
    ·refine ⟨.own b off n' n' a true,?_,Jv _,fun s h=>(by cases h),n',rfl,?_⟩
     ·simp only [bA,oS,ne_eq,not_true_eq_false,if_false,C6,Xr,X2,XX];rw [if_pos ⟨f,Jv _,WG _⟩,if_neg d]
      simp
     ·simp only [aK,hb];rw [if_pos ⟨trivial,Jv _,i⟩];exact h3
   ·cases h3
  ·cases h3
 | sl cs n' =>
  simp only [gJ,Xb] at hm;subst hm;simp only [aK] at h3;split at h3
  ·rename_i hc;refine ⟨.sl (cs.take (n'*sz)) n',?_,trivial,fun s h=>(by cases h),n',rfl,?_⟩
   ·simp only [bA,oS,C6,Xr,X2,XX];rw [if_pos ⟨Jv _,Jv _,WG _,hc.2⟩]
    simp
   ·simp only [aK];rw [if_pos ⟨Jv _,by simp only [WU]; omega⟩];rw [YO,Nat.min_self]; exact h3
  ·cases h3
 | nilSl =>
  simp only [gJ,Xb] at hm;subst hm;exact ⟨.nilSl,rfl,trivial,fun s h=>(by cases h),0,rfl,h3⟩
 | str s=>exact absurd rfl (h1 s)
 | _=>simp [gJ] at hm
def TF {H:Heap} {s:AV} {cells:List AV} (hs:Rd H 1 s cells):lenV s=some (.int .i64 (cells.length:Int)):=JD hs zO zO
def Bld (H0 H:Heap) (sz ty:Nat) (v:AV) (cells:List AV):Prop :=
 (v=.nilSl/\cells=[])\/∃ b n,v=.own b 0 n n sz false/\H.get b=some (.cells cells ty true)/\cells.length=n*sz/\H0.get b=none
def Bld.nil {H0 H:Heap} {sz ty:Nat}:Bld H0 H sz ty .nilSl []:=.inl ⟨rfl,rfl⟩
def Bld.keep {H0 H H':Heap} {sz ty:Nat} {v:AV} {cells:List AV} (h:Bld H0 H sz ty v cells) (a:∀ b e,H.get b=some e->H'.get b=some e):Bld H0 H' sz ty v cells:=by
 rcases h with h | ⟨b,n,h1,hb,h2⟩
 ·exact .inl h
 ·exact .inr ⟨b,n,h1,a _ _ hb,h2⟩
def F9 (H:Heap) (b c:Nat) (e:Ent):(H.put b e).get c=if c=b then some e else H.get c:=by rw [Heap.get_put]
def LA (H:Heap) (b c:Nat):(H.kill b).get c=if c=b then none else H.get c:=by rw [Heap.get_kill]
def io (v:AV):Option (List AV):=if v.cells.all AV.one=true then some v.cells else none
def Lk (x y:AV):Option AV:=match x with
 | .int k a=>Jy (.int k a) y
 | _=>none
def If (x y:AV):Option AV:=match x with
 | .int k a=>Jx (.int k a) y
 | _=>none
theorem D6 (k j:IntKind) (a b:Int):Lk (.int k a) (.int j b)=some (.int k (if b > a then b else a)):=rfl
theorem zd (k j:IntKind) (a b:Int):If (.int k a) (.int j b)=some (.int k (if b<a then b else a)):=rfl
theorem S0 (f:Fn) (a b:List AV):io (.fn f a b)=some [.fn f a b]:=rfl
theorem QY (k:IntKind) (a:Int):io (.int k a)=some [.int k a]:=rfl
section
variable {tab:Nat->Option au}
def Ml {b:Nat} {args:List AV} {T:Tm} {ps:List Nat} {a body:ACode} {H:Heap} {Q:AV->Heap->Prop} (hb:H.get b=some (.loop T ps a body .ready none)) (hl:args.length=ps.length)
  (h:tV tab true a (pa T (ps.zip args)) H fun x T1 e=>x=.nrm/\e.get b=some (.loop T ps a body .ready none) /\
   tV tab true body T1 (e.put b (.loop T ps a body .busy none)) fun x _ H2=>H2.get b=some (.loop T ps a body .busy none)/\match x with
    | .nrm=>Q (.bool true) (H2.put b (.loop T ps a body .ready none))
    | .ret=>Q (.bool false) (H2.put b (.loop T ps a body .done (some .ret)))
    | .exit id=>Q (.bool false) (H2.put b (.loop T ps a body .done (some (.exit id))))
    | .goto g=>Q (.bool false) (H2.put b (.loop T ps a body .done (some (.goto g))))):Ans tab (.round b args) H Q:=by
 obtain ⟨x,T1,e,⟨c,f⟩,rfl,j,h2⟩:=eJ _ _ _ _ h;obtain ⟨y,T2,H2,⟨d,i⟩,k,h3⟩:=eJ _ _ _ _ h2;have key:∀ (v:AV) (H':Heap),Q v H'->(∀ m n,c+d+1<=m->c+d+1<=n->mp tab fe m n (.round b args) H=some (v,H'))->Ans tab (.round b args) H Q:=fun v H' hq hr=>⟨v,H',⟨_,hr⟩,hq⟩
 have run:∀ m n,c+d+1<=m->c+d+1<=n->mp tab fe m n (.round b args) H=match y with
   | .nrm=>some (.bool true,H2.put b (.loop T ps a body .ready none))
   | .ret=>some (.bool false,H2.put b (.loop T ps a body .done (some .ret)))
   | .exit id=>some (.bool false,H2.put b (.loop T ps a body .done (some (.exit id))))
   | .goto g=>some (.bool false,H2.put b (.loop T ps a body .done (some (.goto g)))):=by
  intro m n hm hn;obtain ⟨n',rfl⟩:∃ n',n=n'+1:=⟨n-1,zO⟩
  show kh tab fe (mp tab fe m n') m (.round b args) H=_;simp only [kh,hb,if_pos hl,f m n' zO zO,j,i m n' zO zO,k];cases y <;> rfl
 cases y with
 | nrm=>exact key _ _ h3 run
 | ret=>exact key _ _ h3 run
 | exit id=>exact key _ _ h3 run
 | goto g=>exact key _ _ h3 run
def Df {f:Src} {ps:List Nat} {a body:ACode} {T:Tm} {H:Heap} {Q:Ex->Tm->Heap->Prop} {fi:Nat} {args:List AV} (b:jd (f.ev T) [.loopv H.next]=some (.fn fi args))
  (h:Ans tab (.ent fi args) (({ H with next:=H.next+1 }:Heap).put H.next (.loop T ps a body .ready none)) fun _ H2 =>
   (H2.get H.next=some (.loop T ps a body .ready none)/\Q .nrm T (H2.kill H.next))\/(H2.get H.next=some (.loop T ps a body .done (some .ret))/\Q .ret T (H2.kill H.next)) \/
   (∃ id,H2.get H.next=some (.loop T ps a body .done (some (.exit id)))/\Q (.exit id) T (H2.kill H.next))):tV tab false (.rangeFunc f ps a body) T H Q:=by
 obtain ⟨v,H2,⟨N,g⟩,h⟩:=h;have run:∀ (x:Ex) (r:Option (Ex × Tm × Heap)),(∀ m n,N<=m->N<=n->aM (mp tab fe m n) m false (.rangeFunc f ps a body) T H=r)->∀ T' H',r=some (x,T',H')->Pp tab false (.rangeFunc f ps a body) T H x T' H':=fun x r h T' H' e=>⟨N,fun m n hm hn=>(h m n hm hn).trans e⟩
 rcases h with ⟨h1,h2⟩ | ⟨h1,h2⟩ | ⟨id,h1,h2⟩
 ·refine ⟨_,_,_,run _ _ (fun m n hm hn=>?_) _ _ rfl,h2⟩;simp only [aM,Xs,if_false,b];rw [g m n hm hn];simp only [h1]
 ·refine ⟨_,_,_,run _ _ (fun m n hm hn=>?_) _ _ rfl,h2⟩;simp only [aM,Xs,if_false,b];rw [g m n hm hn];simp only [h1]
 ·refine ⟨_,_,_,run _ _ (fun m n hm hn=>?_) _ _ rfl,h2⟩;simp only [aM,Xs,if_false,b];rw [g m n hm hn];simp only [h1]
def Mm {f:Nat} {fn:au} {args:List AV} {H:Heap} {Q:AV->Heap->Prop} (a:tab f=some fn) (he:fn.ext=none) (hl:args.length=fn.nparams) (hn:fn.nparams<=fn.ntmps)
  (h:∀ T0:Tm,T0.length=fn.ntmps->(∀ i,i<args.length->ad T0 i=args.getD i .undef)->tV tab false fn.body T0 H fun x T' H'=>(x=.nrm\/x=.ret)/\∃ v,cp T' H' fn.results=some v/\Q v H'):Ans tab (.ent f args) H Q:=by
 refine Rb a he hl (h _ zS fun i hi=>?_);unfold ad;rw [qf,qf,W4 hi]
variable (ev:Src->AV) (H:Heap) (id:Nat) (Q:AV->Heap->Prop)
def RS (ty:Nat) (x:Src):jc tab ev H id (.box ty x) Q=iK (io (ev x)) fun cs=>Q (.ptr id 0) (H.put id (.cells cs ty true)):=by
 rw [iq tab ev H id Q (fun f a e=>by cases e) rfl];simp only [bj,io];by_cases h:(ev x).cells.all AV.one=true
 ·rw [if_pos h,if_pos h]; rfl
 ·rw [if_neg h,if_neg h]; rfl
def RO (a b:Src):jc tab ev H id (.max [a,b]) Q=iK (Lk (ev a) (ev b)) fun v=>Q v H:=by
 refine eN tab ev H id Q (fun f a e=>by cases e) ?_ rfl;simp only [aT,Lk,SA,WF];cases ev a <;> simp <;> rfl
def RN (a b:Src):jc tab ev H id (.min [a,b]) Q=iK (If (ev a) (ev b)) fun v=>Q v H:=by
 refine eN tab ev H id Q (fun f a e=>by cases e) ?_ rfl;simp only [aT,If,SA,WF];cases ev a <;> simp <;> rfl
end
structure WC (tab:Nat->Option au) (rd:Bool) (c:ACode) (T:Tm) (H:Heap) (Q:Ex->Tm->Heap->Prop):Prop where
 run:tV tab rd c T H Q
structure EW (tab:Nat->Option au) (id:Nat) (os:List EZ) (T:Tm) (H:Heap) (Q:Tm->Heap->Prop):Prop where
 run:xR tab id os T H Q
structure nB (tab:Nat->Option au) (ev:Src->AV) (H:Heap) (id:Nat) (o:AOp) (Q:AV->Heap->Prop):Prop where
 run:jc tab ev H id o Q
def sf:WC=tV:=by funext tab rd c T H Q; exact propext ⟨fun h=>h.run,fun h=>⟨h⟩⟩
def zm:EW=xR:=by funext tab rd c T H Q; exact propext ⟨fun h=>h.run,fun h=>⟨h⟩⟩
def ck:nB=jc:=by funext tab rd c T H Q; exact propext ⟨fun h=>h.run,fun h=>⟨h⟩⟩
abbrev Hd {α:Sort _} (_:α):Type:=Unit
def iv {α:Type} (o:Option α) (Q:α->Prop) (_:Hd Q):Prop:=iK o Q
def J2 (v:AV) (P Q:Prop) (_:Hd P) (_:Hd Q):Prop:=Gy v P Q
def Sq (id:Nat) (H:Heap) (F:Nat->Heap->Prop) (_:Hd F):Prop:=F id H
def RZ (v:AV) (F:AV->Prop) (_:Hd F):Prop:=F v
def KO (tab:Nat->Option au) (rd:Bool) (b:ACode) (Q:Ex->Tm->Heap->Prop) (x:Ex) (T:Tm) (H:Heap):Prop:=match x with
 | .nrm=>WC tab rd b T H Q
 | x=>Q x T H
def uF (id:Nat) (Q:Ex->Tm->Heap->Prop) (x:Ex) (T:Tm) (H:Heap):Prop:=match x with
 | .exit a=>if a=id then Q .nrm T H else Q (.exit a) T H
 | x=>Q x T H
def Nz (Q:Ex->Tm->Heap->Prop) (x:Ex) (T:Tm) (H:Heap):Prop:=match x with
 | .goto _=>False
 | x=>Q x T H
def Ih (Inv:Nat->Tm->Heap->Prop) (k:Nat) (Q:Ex->Tm->Heap->Prop) (x:Ex) (T:Tm) (H:Heap):Prop:=match x with
 | .nrm=>∃ a,a<k/\Inv a T H
 | x=>Q x T H
def O3 (v:AV) (args:List AV) (R:Task->Prop) (_:Hd R):Prop:=∃ t,jd v args=some t/\R t
def AnsH (tab:Nat->Option au) (t:Task) (H:Heap) (Q:AV->Heap->Prop) (_:Hd Q):Prop:=Ans tab t H Q
def iteH (c:Prop) [Decidable c] (P Q:Prop) (_:Hd P) (_:Hd Q):Prop:=if c then P else Q
def TA (tab:Nat->Option au) (rd:Bool) (body:ACode) (_:Hd body) (T:Tm) (H:Heap) (Q:Ex->Tm->Heap->Prop) (_:Hd Q):Prop:=WC tab rd (.loop body) T H Q
def rangeH (tab:Nat->Option au) (f:Src) (ps:List Nat) (a body:ACode) (_:Hd body) (_:Hd a) (T:Tm) (H:Heap) (Q:Ex->Tm->Heap->Prop) (_:Hd Q):Prop:=WC tab false (.rangeFunc f ps a body) T H Q
section
variable {tab:Nat->Option au} {rd:Bool} {T:Tm} {H:Heap}
theorem wS {α:Type} (v:α) (Q:α->Prop):iv (some v) Q ()=Q v:=rfl
theorem DH (id:Nat) (H:Heap) (F:Nat->Heap->Prop):Sq id H F ()=F id H:=rfl
theorem I8 (v:AV) (F:AV->Prop):RZ v F ()=F v:=rfl
def IL (b:Bool) (P Q:Prop):J2 (.bool b) P Q () ()=iteH (b=true) P Q () ():=IJ b P Q
def Cy (P Q:Prop):iteH True P Q () ()=P:=if_pos trivial
def AK (P Q:Prop):iteH False P Q () ()=Q:=if_neg (fun h=>h)
def GF (f:Nat) (a b args:List AV) (R:Task->Prop):O3 (.fn (.func f) a b) args R ()=R (.fn f (a++args++b)):=P7 f a b args R
def Bc (b:Nat) (args:List AV) (R:Task->Prop):O3 (.loopv b) args R ()=R (.round b args):=KG b args R
def AnsH.use {t:Task} {H:Heap} {P Q:AV->Heap->Prop} (h:Ans tab t H P) (hq:∀ v H',P v H'->Q v H'):AnsH tab t H Q ():=h.mono hq
def AnsH.eq {t:Task} {H:Heap} {w:AV} {P:Heap->Prop} {Q:AV->Heap->Prop} (h:Ans tab t H fun v H'=>v=w/\P H') (hq:∀ H',P H'->Q w H'):AnsH tab t H Q ():=h.mono fun _ H' ⟨e,h1⟩=>e ▸ hq H' h1
def iteH.split {c:Prop} [Decidable c] {P Q:Prop} (h1:c->P) (h2:¬ c->Q):iteH c P Q () ():=by
 unfold iteH;split
 ·exact h1 ‹_›
 ·exact h2 ‹_›
end
section
variable {tab:Nat->Option au} (ev:Src->AV) (H:Heap) (id:Nat) (Q:AV->Heap->Prop)
theorem Rg (x:Src):nB tab ev H id (.mv x) Q=RZ (ev x) (fun v=>Q v H) ():=by rw [ck]; rfl
theorem PE (f:Fn) (a b:List Src):nB tab ev H id (.mkfn f a b) Q=RZ (.fn f (a.map ev) (b.map ev)) (fun v=>Q v H) ():=by rw [ck]; rfl
def MO (ty:Nat) (z:List AV):nB tab ev H id (.alloc ty z) Q=Q (.ptr id 0) (H.put id (.cells z ty true)):=by rw [ck]; exact MU tab ev H id Q ty z
theorem PC (c a b:Src):nB tab ev H id (.pick c a b) Q=iv (Jj (ev c) (ev a) (ev b)) (fun v=>Q v H) ():=by rw [ck,PO]; rfl
theorem Hi (op:BinOp) (k:BK) (x y:Src):nB tab ev H id (.bin op k x y) Q=iv (b7 op k (ev x) (ev y)) (fun v=>Q v H) ():=by rw [ck,RT]; rfl
theorem Tf (op:UnOp) (x:Src):nB tab ev H id (.un op x) Q=iv (Sa op (ev x)) (fun v=>Q v H) ():=by rw [ck,Ti]; rfl
theorem PJ (k:IntKind) (x:Src):nB tab ev H id (.conv k x) Q=iv (JZ k (ev x)) (fun v=>Q v H) ():=by rw [ck,PR]; rfl
theorem RI (x:Src):nB tab ev H id (.len x) Q=iv (lenV (ev x)) (fun v=>Q v H) ():=by rw [ck,RP]; rfl
theorem RJ (sz:Nat) (x i:Src):nB tab ev H id (.indexAddr sz x i) Q=iv (cG sz (ev x) (ev i)) (fun v=>Q v H) ():=by rw [ck,RQ]; rfl
theorem Th (off:Nat) (x:Src):nB tab ev H id (.fieldAddr off x) Q=iv (BI off (ev x)) (fun v=>Q v H) ():=by rw [ck,Tj]; rfl
theorem ML (k:Option Nat) (off:Nat) (x:Src):nB tab ev H id (.field k off x) Q=iv (Er k off (ev x)) (fun v=>Q v H) ():=by rw [ck,MS]; rfl
theorem RK (i:Nat) (x:Src):nB tab ev H id (.extract i x) Q=iv (Gf i (ev x)) (fun v=>Q v H) ():=by rw [ck,RR]; rfl
theorem MN (z:List AV) (ps:List ((Nat × Nat) × Src)):nB tab ev H id (.build z ps) Q=iv (im z (ps.map fun p=>(p.1,ev p.2))) (fun v=>Q v H) ():=by rw [ck,MT]; rfl
theorem MJ (x:Src):nB tab ev H id (.nilCheck x) Q=iv (Ap (ev x)) (fun v=>Q v H) ():=by rw [ck,MR]; rfl
theorem MG (sz:Nat) (x:Src) (lo hi mx:Option Src):nB tab ev H id (.slice sz x lo hi mx) Q=iv (bU sz (ev x) (lo.map ev) (hi.map ev) (mx.map ev)) (fun v=>Q v H) ():=by rw [ck,MQ]; rfl
theorem PG (k:Option Nat) (x:Src):nB tab ev H id (.load k x) Q=iv (bc H k (ev x)) (fun v=>Q v H) ():=by rw [ck,PQ]; rfl
theorem Km (size bytes ty:Nat) (z:List AV) (x y:Src):nB tab ev H id (.append size bytes ty z x y) Q=iv (bj ev H id (.append size bytes ty z x y)) (fun r=>Q r.1 r.2) ():=by rw [ck,Kn]; rfl
theorem PD (ty size bytes:Nat) (z:List AV) (l c:Src):nB tab ev H id (.mksl ty size bytes z l c) Q=iv (bj ev H id (.mksl ty size bytes z l c)) (fun r=>Q r.1 r.2) ():=by rw [ck,PP]; rfl
theorem BM (ty size:Nat) (z:List AV) (n:Nat) (ps:List ((Nat × Nat) × Src)):nB tab ev H id (.buildSlice ty size z n ps) Q=iv (cP z (ps.map fun p=>(p.1,ev p.2))) (fun cs=>Q (.own id 0 n n size true) (H.put id (.cells cs ty true))) ():=by rw [ck,BN]; rfl
theorem RL (ty:Nat) (x:Src):nB tab ev H id (.box ty x) Q=iv (io (ev x)) (fun cs=>Q (.ptr id 0) (H.put id (.cells cs ty true))) ():=by rw [ck,RS]; rfl
theorem RH (a b:Src):nB tab ev H id (.max [a,b]) Q=iv (Lk (ev a) (ev b)) (fun v=>Q v H) ():=by rw [ck,RO]; rfl
theorem RG (a b:Src):nB tab ev H id (.min [a,b]) Q=iv (If (ev a) (ev b)) (fun v=>Q v H) ():=by rw [ck,RN]; rfl
theorem MF (n:Nat) (x v:Src):nB tab ev H id (.store n x v) Q=iv (qS H n (ev x) (ev v)) (fun a=>Q .undef a) ():=by rw [ck,MP]; rfl
theorem PL (f:Src) (args:List Src):nB tab ev H id (.call f args) Q=O3 (ev f) (args.map ev) (fun t=>AnsH tab t H Q ()) ():=by rw [ck]; rfl
end
section
variable {tab:Nat->Option au} {rd:Bool} {T:Tm} {H:Heap} {Q:Ex->Tm->Heap->Prop}
def PK (c:Src) (a b:ACode):WC tab rd (.cond c a b) T H Q=J2 (c.ev T) (WC tab rd a T H Q) (WC tab rd b T H Q) () ():=by rw [sf]; exact MV c a b
theorem Kk (ops:List EZ):WC tab rd (.region ops) T H Q=Sq H.next { H with next:=H.next+ops.length } (fun id H'=>EW tab id ops T H' (Q .nrm)) ():=by rw [sf,zm]; rfl
def RE (a b:ACode):WC tab rd (.seq a b) T H Q=WC tab rd a T H (KO tab rd b Q):=by
 rw [sf,PS];congr 1
 funext x T H
 cases x <;> simp [KO,sf]
def E5 (id:Nat) (a:ACode):WC tab rd (.block id a) T H Q=WC tab rd a T H (uF id Q):=by rw [sf]; exact V7 id a
def MH (a:ACode):WC tab rd (.scope a) T H Q=WC tab rd a T H (Nz Q):=by rw [sf]; exact Ko a
theorem PB:WC tab rd .skip T H Q=Q .nrm T H:=by rw [sf]; rfl
theorem PI (id:Nat):WC tab rd (.exit id) T H Q=Q (.exit id) T H:=by rw [sf]; rfl
theorem PH (id:Nat):WC tab rd (.goto id) T H Q=Q (.goto id) T H:=by rw [sf]; rfl
theorem RF:WC tab rd .ret T H Q=Q .ret T H:=by rw [sf]; rfl
theorem Nw (b:ACode):KO tab rd b Q .nrm T H=WC tab rd b T H Q:=rfl
theorem Nv (b:ACode):KO tab rd b Q .ret T H=Q .ret T H:=rfl
theorem KN (b:ACode) (i:Nat):KO tab rd b Q (.exit i) T H=Q (.exit i) T H:=rfl
theorem KM (b:ACode) (i:Nat):KO tab rd b Q (.goto i) T H=Q (.goto i) T H:=rfl
theorem O7 (i:Nat):uF i Q .nrm T H=Q .nrm T H:=rfl
theorem O6 (i:Nat):uF i Q .ret T H=Q .ret T H:=rfl
theorem Mb (i j:Nat):uF i Q (.goto j) T H=Q (.goto j) T H:=rfl
theorem Mc (i j:Nat):uF i Q (.exit j) T H=iteH (j=i) (Q .nrm T H) (Q (.exit j) T H) () ():=rfl
theorem Ny:Nz Q .nrm T H=Q .nrm T H:=rfl
theorem Nx:Nz Q .ret T H=Q .ret T H:=rfl
theorem KP (i:Nat):Nz Q (.exit i) T H=Q (.exit i) T H:=rfl
theorem FU (Inv:Nat->Tm->Heap->Prop) (k:Nat):Ih Inv k Q .nrm T H = ∃ a,a<k/\Inv a T H:=rfl
theorem Of (Inv:Nat->Tm->Heap->Prop) (k:Nat):Ih Inv k Q .ret T H=Q .ret T H:=rfl
theorem Lt (Inv:Nat->Tm->Heap->Prop) (k i:Nat):Ih Inv k Q (.exit i) T H=Q (.exit i) T H:=rfl
theorem Lr (Inv:Nat->Tm->Heap->Prop) (k i:Nat):Ih Inv k Q (.goto i) T H=Q (.goto i) T H:=rfl
theorem PF (c:ACode):WC tab rd (.loop c) T H Q=TA tab rd c () T H Q ():=rfl
theorem MI (f:Src) (ps:List Nat) (a c:ACode):WC tab false (.rangeFunc f ps a c) T H Q=rangeH tab f ps a c () () T H Q ():=rfl
end
section
variable {tab:Nat->Option au} {T:Tm} {H:Heap} {Q:Tm->Heap->Prop} {id:Nat}
theorem De:EW tab id [] T H Q=Q T H:=by rw [zm]; rfl
theorem VG (d:Option Nat) (o:AOp) (os:List EZ):EW tab id (⟨d,o,none⟩ :: os) T H Q=nB tab (Src.ev T) H id o fun v H'=>EW tab (id+1) os (putT T d v) H' Q:=by rw [zm,ck]; rfl
def pz {f:Nat} {fn:au} {args:List AV} {Q:AV->Heap->Prop} (a:tab f=some fn) (he:fn.ext=none) (hl:args.length=fn.nparams) (hn:fn.nparams<=fn.ntmps)
  (h:∀ T0:Tm,T0.length=fn.ntmps->(∀ i,i<args.length->ad T0 i=args.getD i .undef)->WC tab false fn.body T0 H fun x T' H'=>(x=.nrm\/x=.ret)/\∃ v,cp T' H' fn.results=some v/\Q v H'):Ans tab (.fn f args) H Q :=
 Ra a he hl hn fun T0 h1 h2=>(h T0 h1 h2).run
def BE {f:Nat} {fn:au} {args:List AV} {Q:AV->Heap->Prop} (a:tab f=some fn) (he:fn.ext=none) (hl:args.length=fn.nparams) (hn:fn.nparams<=fn.ntmps)
  (h:∀ T0:Tm,T0.length=fn.ntmps->(∀ i,i<args.length->ad T0 i=args.getD i .undef)->WC tab false fn.body T0 H fun x T' H'=>(x=.nrm\/x=.ret)/\∃ v,cp T' H' fn.results=some v/\Q v H'):Ans tab (.ent f args) H Q :=
 Mm a he hl hn fun T0 h1 h2=>(h T0 h1 h2).run
end
section
variable {tab:Nat->Option au}
def rangeH.use {f:Src} {ps:List Nat} {a body:ACode} {T:Tm} {H:Heap} {Q:Ex->Tm->Heap->Prop} {fi:Nat} {args:List AV} (b:jd (f.ev T) [.loopv H.next]=some (.fn fi args))
  (h:Ans tab (.ent fi args) (({ H with next:=H.next+1 }:Heap).put H.next (.loop T ps a body .ready none)) fun _ H2 =>
   (H2.get H.next=some (.loop T ps a body .ready none)/\Q .nrm T (H2.kill H.next))\/(H2.get H.next=some (.loop T ps a body .done (some .ret))/\Q .ret T (H2.kill H.next)) \/
   (∃ id,H2.get H.next=some (.loop T ps a body .done (some (.exit id)))/\Q (.exit id) T (H2.kill H.next))):rangeH tab f ps a body () () T H Q ():=by
 unfold rangeH;exact ⟨Df b h⟩
def Sp (b:Nat) (T:Tm) (ps:List Nat) (a body:ACode) (Q:AV->Heap->Prop) (x:Ex) (_:Tm) (H2:Heap):Prop:=H2.get b=some (.loop T ps a body .busy none)/\match x with
 | .nrm=>Q (.bool true) (H2.put b (.loop T ps a body .ready none))
 | .ret=>Q (.bool false) (H2.put b (.loop T ps a body .done (some .ret)))
 | .exit id=>Q (.bool false) (H2.put b (.loop T ps a body .done (some (.exit id))))
 | .goto g=>Q (.bool false) (H2.put b (.loop T ps a body .done (some (.goto g))))
theorem uU (b:Nat) (T T':Tm) (ps:List Nat) (a body:ACode) (Q:AV->Heap->Prop) (H2:Heap):Sp b T ps a body Q .nrm T' H2=(H2.get b=some (.loop T ps a body .busy none)/\Q (.bool true) (H2.put b (.loop T ps a body .ready none))):=rfl
def qp {b:Nat} {args:List AV} {T:Tm} {ps:List Nat} {a body:ACode} {H:Heap} {Q:AV->Heap->Prop} (hb:H.get b=some (.loop T ps a body .ready none)) (hl:args.length=ps.length)
  (h:WC tab true a (pa T (ps.zip args)) H fun x T1 c=>x=.nrm/\c.get b=some (.loop T ps a body .ready none)/\WC tab true body T1 (c.put b (.loop T ps a body .busy none)) (Sp b T ps a body Q)):Ans tab (.round b args) H Q:=by
 refine Ml hb hl ?_;simp only [sf] at h;refine Eq.mpr (congrArg (tV tab true a (pa T (ps.zip args)) H) ?_) h
 funext x T1 c
 refine congrArg (fun p=>x=.nrm/\c.get b=some (.loop T ps a body .ready none)/\p) ?_;refine congrArg (tV tab true body T1 (c.put b (.loop T ps a body .busy none))) ?_
 funext y T2 H2
 cases y <;> rfl
end
end Go.Proofs.YtiigaeehghcjiaaGreat.Ev
