/- A part. -/
import Derived.Test.YtkmepoeklibegaaGreatA0
import Derived.Test.YtkmepoeklibegaaGreatEvHeap
import Derived.Scope
import Derived.Maps.RangeRun
import Derived.Sort.Row
import Derived.Sort.Grow
import Derived.Sort.Statements
import Derived.Deep.Draws
import Derived.Laws.Externs
import Derived.Lib.Bytealg
import Derived.CallsIn
set_option linter.all false
namespace Go.Proofs.YtkmepoeklibegaaGreat.Ev
open Go
def Jb {α β:Type} {f:α->Option β}:∀ (xs:List α) (a:List β),xs.mapM f=some a->a.length=xs.length/\∀ (i:Nat) (x:α),xs[i]? = some x->∃ y,a[i]? = some y/\f x=some y
 | [],a,h=>by simp at h; subst h; exact ⟨rfl,fun i x h=>by simp at h⟩
 | x :: xs,a,h=>by
  simp only [WY,XI,Vj,Vf] at h;obtain ⟨y,hy,d,b,h⟩:=h;cases h;obtain ⟨h1,h2⟩:=Jb xs d b;refine ⟨by simp [h1],fun i c hx=>?_⟩;cases i with
  | zero=>simp at hx; subst hx; exact ⟨y,rfl,hy⟩
  | succ i=>simpa using h2 i c (by simpa using hx)
theorem getD_of {α:Type} {l:List α} {i:Nat} {x d:α} (h:l[i]? = some x):l.getD i d=x:=by rw [Vh,h]; rfl
def TF (l:List DI) (i:Nat):jv :=
 let d:=l.getD i default
 { dst:=d.dst,op:=d.op,guard:=d.guard,uses:=((d.op.slots++(match d.guard with | some (t,_)=>[t] | none=>[])).eraseDups).map fun t=>(t,Jg l i d.preds t),cls:=d.cls,looks:=Jc l i:jv }
def Ii {P:Program} {ops:Array Oper} {os:List Oper} {H:List (List Nat)} {l:List DI} {ds:List jv} (u:∀ (i:Nat) (o:Oper),os[i]? = some o->ops[i]? = some o)
  (hl:os.zipIdx.mapM (fun (o,i)=>TH P ops H o i)=some l) (A:(List.range l.length).map (TF l)=ds) (D:Ij os l ds=true):um P ops l ds/\l.length=os.length:=by
 obtain ⟨h1,h2⟩:=Jb _ _ hl;have f:l.length=os.length:=by simpa using h1
 simp only [Ij,VU] at D;obtain ⟨⟨⟨ok1,w⟩,z⟩,m⟩:=D;have I:ds.length=l.length:=by rw [<- A]; simp
 have F:∀ i,i<l.length->∃ o,os[i]? = some o:=fun i hi=>⟨os[i]'(f ▸ hi),Vk _⟩
 have E:∀ i,i<l.length->∃ o,ops[i]? = some o/\TH P ops H o i=some (l.getD i default):=by
  intro i hi;have hx:os.zipIdx[i]? = some (os[i]'(f ▸ hi),i):=by simp [f ▸ hi]
  obtain ⟨y,hy,J⟩:=h2 i _ hx;exact ⟨_,u i _ (Vk (f ▸ hi)),by rw [getD_of hy]; exact J⟩
 have C:∀ i o,i<l.length->ops[i]? = some o->os.getD i default=o:=by
  intro i o hi b;obtain ⟨L,B⟩:=F i hi
  have:=u i L B
  rw [b] at this; cases this;exact getD_of B
 have K:l.length<=ops.size:=by
  rcases Xw l.length with h | h
  ·omega
  ·obtain ⟨o,b⟩:=F (l.length-1) zO
   have:=(Wz.1 (u _ _ b)).1
   omega
 simp only [IY,VJ,Wt,VU,VY,W9,beq_iff_eq,decide_eq_true_eq,Xd] at ok1;simp only [IZ,VJ,Wt,VU,W9,Wy,bne_iff_ne,ne_eq,Xd,Option.isNone_iff_eq_none] at w;simp only [NJ,VJ,Wt] at z;simp only [I3,VJ,Wt,VU] at m;refine ⟨⟨K,I,fun i hi=>?_,fun i hi=>?_,fun i hi=>?_,fun i o hi b j hj=>?_,fun i o hi b p hp=>?_,fun i j r hj h1 h2=>?_,fun i j r hj h1 h2=>?_,fun i hi t j v=>?_,fun i hi t v j' s hd=>?_,fun i hi k adds hm a ha=>?_,fun i hi hc k M=>?_,fun i hi hc=>?_⟩,f⟩
 ·obtain ⟨o,b,hd⟩:=E i hi;simp only [TH,Vu] at hd;obtain ⟨g,hg,hd⟩:=hd;exact ⟨o,b,by unfold e9; rw [<- hd],by rw [<- hd]; exact hg,by rw [<- hd]⟩
 ·obtain ⟨x,hx,he⟩:∃ x,ds[i]? = some x/\x.dst=e9 l i/\x.op=(l.getD i default).op/\x.guard=(l.getD i default).guard/\x.cls=fM l i:=by
   rw [<- A,Wg,Yf hi];exact ⟨_,rfl,rfl,rfl,rfl,rfl⟩
  rw [getD_of hx];exact he
 ·obtain ⟨o,b,hd⟩:=E i hi;simp only [TH,Vu] at hd;obtain ⟨g,hg,hd⟩:=hd;unfold fM;rw [<- hd];simp only [Q9];split
  ·exact .inl rfl
  ·split
   ·exact .inr (.inl rfl)
   ·exact .inr (.inr rfl)
 ·have he:=C i o hi b;exact (ok1 i hi).1 j (by rw [he]; exact hj)
 ·have he:=C i o hi b;obtain ⟨j,hj,hh⟩:=(ok1 i hi).2 p hp;rw [he] at hj;exact ⟨j,hj,hh⟩
 ·rcases (w j hj i r).1 with (h | h) | h
  ·exact absurd h h1
  ·exact absurd h2 h
  ·exact h
 ·rcases (w j hj i r).2 with h | h
  ·rw [show (l.getD i default).cls=2 from h1,show (l.getD j default).cls=2 from h2] at h; simp at h
  ·exact h
 ·have:=z i hi (t,some j) v
  simp only [NK,VU,VJ,Wt,W9,beq_iff_eq,decide_eq_true_eq,Xd,bne_iff_ne,ne_eq] at this;obtain ⟨⟨⟨c,d⟩,e⟩,n⟩:=this;refine ⟨c,d,e,fun j' s hd=>?_⟩;rcases n j' s with ((h | h) | h) | h
  ·exact absurd hd h
  ·exact .inl h
  ·exact .inr (.inl h)
  ·exact .inr (.inr h)
 ·have:=z i hi (t,none) v
  simp only [NK,VJ,Wt,W9,beq_iff_eq,Xd,bne_iff_ne,ne_eq] at this;rcases this j' s with (h | h) | h
  ·exact absurd hd h
  ·exact .inl h
  ·exact .inr h
 ·have:=(m i hi).1 (k,adds) hm
  simp only [NM,VJ,VU,beq_iff_eq,decide_eq_true_eq,Xd,Wy,] at this;obtain ⟨⟨⟨c,d⟩,e⟩,n⟩:=this a ha;exact ⟨c,d,by simpa using e,n⟩
 ·have:=(m i hi).2
  rw [if_pos (show (l.getD i default).cls=0 from hc)] at this;simp only [NL,VJ,Wt,W9,VY,VU,beq_iff_eq,decide_eq_true_eq,Xd] at this;rcases this k zO with ⟨q,G,h | h⟩ | ⟨p,hp,rfl⟩
  ·exact .inl ⟨q,G,h.1,h.2⟩
  ·exact .inr (.inl ⟨q,G,h.1,h.2⟩)
  ·exact .inr (.inr ⟨p.2,hp⟩)
 ·have:=(m i hi).2
  rw [if_neg (show ¬ (l.getD i default).cls=0 by have:(l.getD i default).cls=2:=hc; omega),if_neg (show ¬ (l.getD i default).cls=1 by have:(l.getD i default).cls=2:=hc; omega)] at this;unfold Q3 at this;split at this
  ·rename_i p hp;simp only [VU,VJ,Wt,beq_iff_eq,decide_eq_true_eq] at this;obtain ⟨⟨c,d⟩,e⟩:=this;refine ⟨p.1,p.2,hp,c,d,fun a ha=>?_⟩
   have:=e a ha
   have h1:(a∈dM l (p.1+1)) ↔ (dM l (p.1+1)).contains a=true:=by simp
   rw [h1,this]
   simp
  ·cases this
def FP {P:Program} {ops:Array Oper} {ds:List jv} {late:List Nat} (h:JH P ops=some (ds,late)):∃ l,um P ops l ds/\l.length=ops.size/\late=xc l:=by
 simp only [JH] at h;split at h
 ·cases h
 rename_i l hl;split at h
 rotate_left
 ·cases h
 rename_i b;simp only [V4,Prod.mk.injEq] at h;obtain ⟨a,c⟩:=h;rw [a] at b;obtain ⟨G,d⟩:=Ii (ops:=ops) (os:=ops.toList) (fun i o h=>by simpa using h) hl a b;exact ⟨l,G,by simpa using d,c.symm⟩
def uk {l:List DI} {ds:List jv} (a:ds.length=l.length) (hc:∀ i,i<l.length->(ds.getD i default).cls=fM l i) :
  ∀ q,q<=l.length->((ds.take q).filter fun d=>d.cls == 2).length=((List.range q).filter fun i=>(l.getD i default).cls == 2).length
 | 0,_=>rfl
 | q+1,h=>by
  rw [Vr zO,Z2,Wa,Wa,VC,VC,uk a hc q zO]
  have:=hc q zO
  rw [Vh,Vk zO,WX] at this;congr 1;simp only [Xz,XW];rw [this,show (l.getD q default).cls=fM l q from rfl];split <;> rfl
section
variable {P:Program} {ops:Array Oper} {l:List DI} {ds:List jv} {T0:Tm} {s:DS} {base:Nat} {F:Nat->Prop} {μ0:Mu} {H0:Heap} {w0:World} {df:List Deferred}
def Oq {cal:oy} (y:nG P cal) {fence:Fence} {rd:Bool} (x:FenceOK fence rd) {n:Nat} {Q:Exit->Act->World->Prop} (G:um P ops l ds) (E:l.length=ops.size)
  (A:∀ i,i<l.length->TN cal base T0 s i (ds.getD i default)) (B:∀ i,i<l.length->kn base T0 s i (ds.getD i default)=true)
  (q:∀ S k μ a w,(∀ j,j<l.length->S j=true)->Inv P l T0 s base F μ0 H0 w0 df S k μ a w->Q .normal a w) :
  ∀ (d:Nat) (b:Array Bool) (k:Nat) (μ:Mu) (a:Act) (w:World),b.size=l.length->Md (fun j=>b.getD j false) l.length=d ->
   Inv P l T0 s base F μ0 H0 w0 df (fun j=>b.getD j false) k μ a w->wpAnyIn fence n P .any ops Q d b a w:=by
 intro d
 induction d with
 | zero =>
  intro b k μ a w c t J;have m:=F3 _ t;refine ⟨?_,q _ k μ a w m J⟩
  apply List.eq_nil_iff_forall_not_mem.2
  intro j hj;have h0:=(mem_ready.1 hj).1;have hlt:j<b.size:=by
   rcases Zo j b.size with h | h
   ·exact h
   ·simp [Yq h] at h0
  have:=m j (c ▸ hlt)
  simp [hlt] at h0 this;rw [h0] at this; cases this
 | succ d C =>
  intro b k μ a w c t J;refine ⟨fun hr=>?_,fun i hi=>?_⟩
  ·refine q _ k μ a w ?_ J;intro j
   induction j using Nat.strongRecOn with
   | _ j hj =>
    intro hlt;cases f:b.getD j false with
    | true=>rfl
    | false =>
     exfalso
     obtain ⟨o,g,_⟩:=G.op j hlt
     have:j∈Region.ready .any ops b:=by
      refine mem_ready.2 ⟨?_,o,g,fun e he hb=>?_⟩
      ·have:j<b.size:=zO
       simp [this] at f ⊢; exact f
      ·have hm:e.on∈lC o:=by
        unfold lC;exact Vl.2 ⟨e,Vx.2 ⟨by simpa using he,hb⟩,rfl⟩
       have z:=G.back j o hlt g _ hm;exact hj e.on z zO
     rw [hr] at this; cases this
  ·obtain ⟨h0,o,g,m⟩:=mem_ready.1 hi;have hlt:i<b.size:=by
    rcases Zo i b.size with h | h
    ·exact h
    ·simp [Yq h] at h0
   have f:b.getD i false=false:=by simp [hlt] at h0 ⊢; exact h0
   have u:(fun j=>(b.setIfInBounds i true).getD j false)=add (fun j=>b.getD j false) i:=by
    funext j
    by_cases e:j=i
    ·subst e; simp [add,hlt]
    ·rw [getD_set_ne false (Ne.symm e)]; simp [add,e]
   refine LD y x J G (A i (c ▸ hlt)) (KI (B i (c ▸ hlt)) k) (c ▸ hlt) f (fun p hp=>?_) fun a' w' μ' D v=>?_
   ·obtain ⟨j,hj,hh⟩:=G.pre i o (c ▸ hlt) g p hp;unfold lC at hj;obtain ⟨e,he,rfl⟩:=Vl.1 hj;rw [Vx] at he;have r:=m e (by simpa using he.1) he.2;rcases hh with rfl | hh
    ·exact r
    ·refine J.cl e.on ?_ r p hh
     have:=G.back i o (c ▸ hlt) g e.on (by unfold lC; exact Vl.2 ⟨e,Vx.2 he,rfl⟩)
     omega
   ·refine C _ D μ' a' w' (by simp [c]) ?_ (u ▸ v);rw [u]
    have:=JE (S:=fun j=>b.getD j false) f l.length (c ▸ hlt)
    omega
def HR.of_heap {μ:Mu} {H:Heap} {w w':World} (h:HR P μ F H w) (a:w'.heap=w.heap):HR P μ F H w' :=
 ⟨fun b L hb=>a ▸ h.dom b L hb,fun c hc=>a ▸ h.fb c hc,fun b e hb=>let ⟨L,hL,d⟩:=h.ent b e hb; ⟨L,hL,d.mono (fun _ _ h=>h) (fun _ h=>h) (fun c _=>by rw [a]) (by rw [a]) (fun hr=>d.notF hr)⟩,h.inj,fun g cs hg=>(h.gl g cs hg).mono (fun _ _ h=>h) (fun _ h=>h) fun c _=>by rw [a]⟩
def Ih {cal:oy} (Z:nG P cal) (hm:P.follows .mixedOrders=true) {fence:Fence} {rd:Bool} (R:FenceOK fence rd) {n id:Nat} {late:List Nat} {Q:Exit->Act->World->Prop} {T T':Tm} {H H':Heap} {μ:Mu} {a:Act} {w:World}
  (hc:JH P ops=some (ds,late)) (f:FQ cal ds late T H=some (T',H')) (hT:LR μ F w T a.tmps.toList) (hH:HR P μ F H w)
  (W:∀ a' w' μ',a'.defers=a.defers->LR μ' F w' T' a'.tmps.toList->HR P μ' F H' w'->Stp sF P μ F H w μ' F H' w'->Q .normal a' w') :
  (Code.region id ops true).wpIn fence n P Q a w:=by
 obtain ⟨l,G,r,rfl⟩:=FP hc;unfold FQ at f;split at f
 ·cases f
 rename_i s hs;split at f
 rotate_left
 ·cases f
 rename_i ae;cases f;have y:∀ d∈ds,d.cls=0\/d.cls=1\/d.cls=2:=by
  intro d hd;obtain ⟨i,hi,rfl⟩:=WF hd;have A:i<l.length:=by rw [<- G.dlen]; exact hi
  have h1:=G.cl i A;rw [<- (G.dso i A).2.2.2,getD_of (Vk hi)] at h1;exact h1
 obtain ⟨k1,k2,k3,k4,k5⟩:=LE ds 0 _ _ y hs;have hcl:∀ i,i<l.length->(ds.getD i default).cls=fM l i:=fun i hi=>(G.dso i hi).2.2.2;have p:∀ i,i<l.length->ds[i]? = some (ds.getD i default):=by
  intro i hi
  have:i<ds.length:=by rw [G.dlen]; exact hi
  rw [Vk this];simp [Vh,Vk this]
 have Y:s.Vs.length=l.length:=by rw [k2,G.dlen]; simp
 have ad:∀ i,i<l.length->TN cal H.next T s i (ds.getD i default):=by
  intro i hi;obtain ⟨s1,s2,e1,e2,e3,I,e5⟩:=k5 i _ (p i hi);rw [V3] at e1;refine Sd e1 e2 (y _ (VD (p i hi))) (by simpa using e3) (by simpa using I) (fun u hu j hj=>?_) (fun h2 k adds hl=>?_)
  ·obtain ⟨t,u⟩:=u;have hj:u=some j:=hj;subst hj;exact (G.useS i hi t j hu).2.2.1
  ·have v:fM l i=2:=(hcl i hi) ▸ h2;obtain ⟨kk,ag,B,K,M,_⟩:=G.act i hi v;rw [hl] at B; cases B;refine ⟨?_,fun a ha=>(G.look i hi k adds (by rw [hl]; exact Vt ..) a ha).2.2.2⟩;rw [e5,uk G.dlen hcl i zO];obtain ⟨q1,q2⟩:=OY hi v
   have:=Gs q1 K (q2.trans M.symm)
   rw [this]
   simp; omega
 have g:s.Cs.getD 0 default = { H with next:=H.next+ds.length }:=by rw [kv k1.2.1 (by simp)]; rfl
 have O:s.Cs.length=(aD l).length+1:=by
  have:=uk G.dlen hcl l.length (Vo _)
  rw [VP (by rw [G.dlen]; exact Vo _)] at this;rw [k4,this]; simp [aD]; omega
 obtain ⟨w1,m⟩:∃ w1,w1 = { w with drawn:=w.drawn+1 }:=⟨_,rfl⟩
 have U:HR P μ F H w1:=hH.of_heap (by rw [m]);have N:HR P μ F (s.Cs.getD 0 default) w1:=by rw [g]; exact U.bump _
 have af:Stp sF P μ F H w μ F H w1:=by
  subst m;exact ⟨fun _ _ h=>h,fun _ h=>h,Vo _,fun _ _ _=>rfl,fun b L hb hL=>.inr ⟨b,L,hb,hL,rfl⟩,Vo _,fun _ _ _ h=>h,fun b L h=>.inl ⟨b,L,h,rfl⟩,fun b e h _ _=>⟨e,h⟩,fun b e L h hL=>.inr ⟨b,e,L,h,hL,rfl⟩,Tp.draw,rfl,rfl⟩
 have D:Hh l s H.next (fun _=>false) 0=s.Cs.getD 0 default:=by
  unfold Hh
  have:DC l (fun _=>false) 0=[]:=by simp [DC]
  rw [this]; rfl
 have C:∀ j,(Array.replicate ops.size false).getD j false=false:=by
  intro j;rcases Zo j ops.size with h | h
  ·simp [h]
  ·simp [Yq (show (Array.replicate ops.size false).size<=j by simpa using h)]
 have E:Inv P l T s H.next F μ (s.Cs.getD 0 default) w1 a.defers (fun j=>(Array.replicate ops.size false).getD j false) 0 μ a w1:=by
  have hf:(fun j=>(Array.replicate ops.size false).getD j false)=fun _=>false:=funext C;rw [hf];refine ⟨fun j _ h=>(by cases h),Vz _,fun q _=>(by simp),?_,by rw [D]; exact N,fun j hj _ _=>?_,?_,fun j hj _=>jT hH (VV _ _),by rw [D]; exact Stp.refl _ _ _ _ _ _,rfl⟩
  ·rw [O2]; exact LR.mono (w:=w) (w':=w1) (fun _ _ h=>h) (fun _ h=>h) (fun _ _=>by rw [m]) hT
  ·rw [g];cases hg:H.get (H.next+j) with
   | none=>exact hg
   | some e =>
    obtain ⟨L,hL,_⟩:=hH.ent _ e hg;rw [jT hH (VV _ _)] at hL; cases hL
  ·rw [g,G.dlen]; exact Vo _
 refine wpIn_region_any hm ?_;rw [<- m];refine Oq Z R G r ad (fun i hi=>?_) (fun S k μ' a' w' o J=>?_) ops.size _ 0 μ a w1 (by simp [r]) ?_ E
 ·have:=EX ds 0 ae i _ (p i hi)
  rwa [V3] at this
 ·have hk:k=(aD l).length:=by
   rcases Zo k (aD l).length with h | h
   ·have:=(J.act k h).1 (o _ (rL h).1); omega
   ·have:=J.kle; omega
  subst hk;have X:TS l T s S=gD T ds s.Vs:=by
   rw [KQ G.dlen Y (fun i hi=>(G.dso i hi).1)];unfold TS
   apply Xb
   intro t _;exact zh _ o
  have ab:DC l S (aD l).length=xc l:=by
   rw [<- Qm];unfold DC
   apply Yy
   intro x hx;rw [o x (by simpa using hx)]
  have aa:s.Cs.getLastD default=s.Cs.getD (aD l).length default:=by
   rw [List.getLastD_eq_getLast?,List.getLast?_eq_getElem?,O,Vh]; rfl
  have V:Hh l s H.next S (aD l).length=dH H.next s.Es (s.Cs.getLastD default) (xc l):=by
   unfold Hh; rw [ab,aa]
  have z:=J.hr;have c:=J.st;rw [V] at z c;refine W a' w' μ' J.df (X ▸ J.tm) z (af.trans ?_);rw [g] at c;exact ⟨c.mu,c.fr,c.size,c.keep,c.rw,VB (VV _ _) c.next,fun b hb _ hn=>c.new b (VF hb (VV _ _)) zO hn,c.rng,fun b e hb hl _=>c.old b e hb (VF hl (VV _ _)) zO,c.alv,c.tape,c.os,c.out⟩
 ·rw [JD _ (fun j _=>C j),r]
end
section
variable {μ μ':Mu} {F:Nat->Prop} {w w':World}
def VR.back (q:∀ b L,μ b=some L->μ' b=some L) {c:AV} {v0:Value} (h0:VR μ F w c v0):∀ {v:Value},VR μ' F w' c v->VR μ F w' c v:=by
 induction h0 with
 | undef v0=>intro v h; exact .undef v
 | bool b=>intro v h; cases h; exact .bool b
 | int k n=>intro v h; cases h; exact .int k n
 | str s=>intro v h; cases h; exact .str s
 | nilPtr=>intro v h; cases h; exact .nilPtr
 | nilSl=>intro v h; cases h; exact .nilSl
 | nilFn=>intro v h; cases h; exact .nilFn
 | nilIf=>intro v h; cases h; exact .nilIf
 | nilMap=>intro v h; cases h; exact .nilMap
 | agg cs vs hl B g =>
  intro v h;cases h with
  | agg _ us A C =>
   refine .agg cs us A fun i c u hc e=>?_;obtain ⟨x,hx⟩:∃ x,vs[i]? = some x:=⟨vs[i]'(by have:=(VA.1 hc).1; omega),WM _⟩
   exact g i c x hc hx (C i c u hc e)
 | tup cs vs hl B g =>
  intro v h;cases h with
  | tup _ us A C =>
   refine .tup cs us A fun i c u hc e=>?_;obtain ⟨x,hx⟩:∃ x,vs[i]? = some x:=⟨vs[i]'(by have:=(VA.1 hc).1; omega),WM _⟩
   exact g i c x hc hx (C i c u hc e)
 | sl0 a cap =>
  intro v h;cases h with
  | sl0 a cap=>exact .sl0 a cap
  | sl _ _ cap blk off arr ty fr d j m l p=>exact .sl0 _ _
 | sl cells n cap blk off arr ty fr I hb hn J B g =>
  intro v h;cases h with
  | sl0 a cap=>exact .sl0 a cap
  | sl _ _ cap' y D r E z d j m l p =>
   refine .sl cells n cap' y D r E z d j m l fun i c u hc e=>?_;obtain ⟨x,hx⟩:∃ x,arr[off+i]? = some x:=⟨arr[off+i]'(by have:=(VA.1 hc).1; omega),WM _⟩
   exact g i c x hc hx (p i c u hc e)
 | dp cells o blk off arr ty fr I hb J B g =>
  intro v h;cases h with
  | dp _ _ y D r E z d j l p =>
   refine .dp cells o y D r E z d j l fun i c u hc e=>?_;obtain ⟨x,hx⟩:∃ x,arr[off+i]? = some x:=⟨arr[off+i]'(by have:=(VA.1 hc).1; omega),WM _⟩
   exact g i c x hc hx (p i c u hc e)
 | own b off n c sz ex L cap h1 h2 h3 H h5 P =>
  intro v h;cases h with
  | own _ _ _ _ _ _ L' cap' d j m l p G =>
   have:=q _ _ h1
   rw [d] at this;cases this;exact .own b off n c sz ex L cap' h1 j m l p G
 | ptr b off L h1 =>
  intro v h;cases h with
  | ptr _ _ L' d =>
   have:=q _ _ h1
   rw [d] at this;cases this;exact .ptr b off L h1
 | fn f as bs us vs h1 h2 h3 H K M =>
  intro v h;cases h with
  | fn _ _ _ N O d j m l =>
   refine .fn f as bs N O d (fun i c u hc e=>?_) m fun i c u hc e=>?_
   ·obtain ⟨x,hx⟩:∃ x,us[i]? = some x:=⟨us[i]'(by have:=(VA.1 hc).1; omega),WM _⟩
    exact K i c x hc hx (j i c u hc e)
   ·obtain ⟨x,hx⟩:∃ x,vs[i]? = some x:=⟨vs[i]'(by have:=(VA.1 hc).1; omega),WM _⟩
    exact M i c x hc hx (l i c u hc e)
 | ifc t x v0 hx g =>
  intro v h;cases h with
  | ifc _ _ u e=>exact .ifc t x u (g e)
 | map b L h1 =>
  intro v h;cases h with
  | map _ L' d =>
   have:=q _ _ h1
   rw [d] at this;cases this;exact .map b L h1
 | loopv b L h1 =>
  intro v h;cases h with
  | loopv _ L' d =>
   have:=q _ _ h1
   rw [d] at this;cases this;exact .loopv b L h1
def LR.back (d:∀ b L,μ b=some L->μ' b=some L) {cs:List AV} {vs0 vs:List Value} (h0:LR μ F w cs vs0) (h:LR μ' F w' cs vs):LR μ F w' cs vs:=by
 refine ⟨h.1,fun i c v hc a=>?_⟩;obtain ⟨x,hx⟩:∃ x,vs0[i]? = some x:=⟨vs0[i]'(by have:=(VA.1 hc).1; have:=h0.1; omega),Vk _⟩
 exact (h0.2 i c x hc hx).back d (h.2 i c v hc a)
end
def Lz:Ex->Exit
 | .nrm=>.normal
 | .exit i=>.exit i
 | .goto l=>.goto l
 | .ret=>.ret
def DM (B:Nat × List Deferred) (μ:Mu) (F:Nat->Prop) (w:World) (ds:List Deferred):Prop :=
 ∃ Ds:List Nat,ds=Ds.map (fun D=>{ target:=.collected D,args:=#[] })++B.2/\Ds.Nodup /\
  ∀ D∈Ds,B.1<=D/\D<w.heap.size/\w.heap[D]? = some (.deferred (some []))/\¬ F D/\∀ b L,μ b=some L->L.blk≠D
section
variable {P:Program} {μ:Mu} {F:Nat->Prop} {H:Heap} {w:World} {T:Tm} {a:Act} {B:Nat × List Deferred}
def DM.nil {B:Nat × List Deferred}:DM B μ F w B.2:=⟨[],rfl,List.nodup_nil,fun D h=>by cases h⟩
def DM.stp {I:Nat->Prop} {μ':Mu} {H':Heap} {w':World} {ds:List Deferred} (h:DM B μ F w ds) (a:Stp I P μ F H w μ' F H' w'):DM B μ' F w' ds:=by
 obtain ⟨Ds,h1,h2,h3⟩:=h;refine ⟨Ds,h1,h2,fun D hD=>?_⟩;obtain ⟨f,c,g,i,d⟩:=h3 D hD;refine ⟨f,VF c a.size,?_,i,fun b L hb=>?_⟩
 ·rw [a.keep D c fun b L _ hL=>d b L hL]; exact g
 ·rcases a.rng b L hb with ⟨b0,L0,h0,e⟩ | hge
  ·rw [<- e]; exact d b0 L0 h0
  ·omega
structure Me (P:Program) (B:Nat × List Deferred) (μ:Mu) (F:Nat->Prop) (H:Heap) (w:World) (T:Tm) (a:Act):Prop where
 hT:LR μ F w T a.tmps.toList
 hH:HR P μ F H w
 hD:DM B μ F w a.defers
def kS (P:Program) (rd:Bool) (c:Code) (T:Tm) (H:Heap) (x:Ex) (T':Tm) (H':Heap):Prop :=
 ∀ (fence:Fence) (n:Nat) (B:Nat × List Deferred) (μ:Mu) (F:Nat->Prop) (w:World) (a:Act) (Q:Exit->Act->World->Prop),FenceOK fence rd->B.1<=w.heap.size->Me P B μ F H w T a ->
  (∀ a' w' μ',Me P B μ' F H' w' T' a'->Stp sF P μ F H w μ' F H' w'->Q (Lz x) a' w')->c.wpIn fence n P Q a w
def DM.back {μ':Mu} {ds:List Deferred} (a:∀ b L,μ b=some L->μ' b=some L) (h:DM B μ' F w ds):DM B μ F w ds:=by
 obtain ⟨Ds,h1,h2,h3⟩:=h;exact ⟨Ds,h1,h2,fun D hD=>⟨(h3 D hD).1,(h3 D hD).2.1,(h3 D hD).2.2.1,(h3 D hD).2.2.2.1,fun b L hb=>(h3 D hD).2.2.2.2 b L (a b L hb)⟩⟩
def DM.keep {w':World} {ds:List Deferred} (h:DM B μ F w ds) (hs:w.heap.size<=w'.heap.size) (f:∀ (D:Nat),w.heap[D]? = some (.deferred (some []))->w'.heap[D]? = w.heap[D]?):DM B μ F w' ds:=by
 obtain ⟨Ds,h1,h2,h3⟩:=h;refine ⟨Ds,h1,h2,fun D hD=>?_⟩;obtain ⟨b,c,a,d,e⟩:=h3 D hD;exact ⟨b,VF c hs,(f D a).trans a,d,e⟩
def Dj {H:Heap} (hH:HR P μ F H w) {b:Nat} {e:Ent} (h:H.ro.get b=some e):∃ e0,H.get b=some e0/\e0.ro=some e:=by
 rw [Heap.get_ro] at h;split at h
 ·cases hg:H.get b with
  | none=>rw [hg] at h; cases h
  | some e0=>rw [hg] at h; exact ⟨e0,rfl,h⟩
 ·rename_i hlt;obtain ⟨L,hL,_⟩:=hH.ent b e h
  have:=(hH.dom b L hL).1
  omega
def Ta {H:Heap} (hH:HR P μ F H w) {b:Nat}:¬ H.ro.rwAt b:=by
 rintro ⟨e,h,hr⟩;obtain ⟨e0,-,h0⟩:=Dj hH h;cases e0 <;> simp only [Ent.ro] at h0 <;> first | (cases h0; done) | (simp only [V4] at h0; subst h0; cases hr)
def Tb {H:Heap} (hH:HR P μ F H w):HR P μ F H.ro w:=by
 refine ⟨hH.dom,hH.fb,fun b e h=>?_,fun b b' e e' L L' h h' hL d hb=>?_,hH.gl⟩
 ·obtain ⟨e0,h0,he⟩:=Dj hH h;obtain ⟨L,hL,a⟩:=hH.ent b e0 h0;refine ⟨L,hL,?_⟩;cases e0 <;> simp only [Ent.ro] at he <;> first | (cases he; done) | (simp only [V4] at he; subst he)
  ·obtain ⟨arr,fr,h1,h2,h3,c,h5,f,g⟩:=a;exact ⟨arr,fr,h1,h2,h3,c,h5,fun h=>(by cases h),fun _=>trivial⟩
  ·exact a.2
  ·exact a
 ·obtain ⟨e0,h0,-⟩:=Dj hH h;obtain ⟨e1,h1,-⟩:=Dj hH h';exact hH.inj b b' e0 e1 L L' h0 h1 hL d hb
def PZ {I:Nat->Prop} {H H2 H':Heap} {μ':Mu} {w':World} (hH:HR P μ F H w) (h2:∀ b,H2.get b=H.ro.get b) (a:Stp I P μ F H2 w μ' F H' w'):∀ c,c<w.heap.size->w'.heap[c]? = w.heap[c]? :=
 fun c hc=>a.keep c hc fun b L ⟨e,he,hr⟩ _=>absurd ⟨e,h2 b ▸ he,hr⟩ (Ta hH)
def Au {cal:oy} {m:Nat} {rd:Bool} {c:Code} {ac:ACode} (hc:∀ T H x T' H',aI cal m rd ac T H=some (x,T',H')->kS P rd c T H x T' H') :
  ∀ (k:Nat) (T:Tm) (H:Heap) (x:Ex) (T':Tm) (H':Heap),Av (aI cal m rd ac) k T H=some (x,T',H') ->
  ∀ (fence:Fence) (n:Nat) (B:Nat × List Deferred) (μ:Mu) (F:Nat->Prop) (w:World) (a:Act) (Q:Exit->Act->World->Prop),FenceOK fence rd->B.1<=w.heap.size->Me P B μ F H w T a ->
  (∀ a' w' μ',Me P B μ' F H' w' T' a'->Stp sF P μ F H w μ' F H' w'->Q (Lz x) a' w')->x ≠ .nrm/\Code.roundsIn fence n P c Q k a w
 | 0,T,H,x,T',H',h=>by cases h
 | k+1,T,H,x,T',H',h=>by
  intro fence n B μ F w a Q f d j i;simp only [Av] at h;split at h
  ·rename_i T1 l h1;refine ⟨?_,?_⟩
   ·
    have key:∀ (k:Nat) (T:Tm) (H:Heap) (x:Ex) (T':Tm) (H':Heap),Av (aI cal m rd ac) k T H=some (x,T',H')->x ≠ .nrm:=by
     intro k
     induction k with
     | zero=>intro T H x T' H' h; cases h
     | succ k r =>
      intro T H x T' H' h;simp only [Av] at h;split at h
      ·exact r _ _ _ _ _ h
      ·rename_i hne;intro e;subst e;exact hne _ _ h
    exact key _ _ _ _ _ _ h
   ·rw [roundsIn_succ];refine hc T H _ _ _ h1 fence n B μ F w a _ f d j fun a' w' μ' g b=>?_;exact (Au hc k T1 l x T' H' h fence n B μ' F w' a' Q f (VB d b.size) g fun o s μ2 p q=>i o s μ2 p (b.trans q)).2
  ·rename_i hne;have hx:x ≠ .nrm:=fun e=>by subst e; exact hne _ _ h
   refine ⟨hx,?_⟩;rw [roundsIn_succ];refine hc T H _ _ _ h fence n B μ F w a _ f d j fun a' w' μ' g b=>?_
   have:=i a' w' μ' g b
   cases x <;> first | exact this | exact absurd rfl hx
def Fd (hH:HR P μ F H w) (o:Obj):HR P μ F H (w.alloc o)/\Stp sF P μ F H w μ F H (w.alloc o):=by
 have a:∀ c,c<w.heap.size->(w.alloc o).heap[c]? = w.heap[c]?:=fun c hc=>pI _ _ hc;have f:(w.alloc o).heap.size=w.heap.size+1:=by simp
 refine ⟨⟨fun b L hb=>?_,fun c hc=>?_,fun b e hb=>?_,hH.inj,fun g cs hg=>(hH.gl g cs hg).mono (fun _ _ h=>h) (fun _ h=>h) fun c hc=>a c (hH.fb c hc)⟩,⟨fun _ _ h=>h,fun _ h=>h,zO,fun c hc _=>a c hc,fun b L hb hL=>.inr ⟨b,L,hb,hL,rfl⟩,Vo _,fun _ _ _ h=>h,fun b L h=>.inl ⟨b,L,h,rfl⟩,fun b e h _ _=>⟨e,h⟩,fun b e L h hL=>.inr ⟨b,e,L,h,hL,rfl⟩,Tp.same rfl rfl,rfl,rfl⟩⟩
 ·have:=hH.dom b L hb; exact ⟨this.1,zO⟩
 ·have:=hH.fb c hc; omega
 ·obtain ⟨L,hL,d⟩:=hH.ent b e hb;exact ⟨L,hL,d.mono (fun _ _ h=>h) (fun _ h=>h) (fun c hc=>a c (hH.fb c hc)) (a _ (hH.dom b L hL).2) (fun hr=>d.notF hr)⟩
def xq (a b:Code):bB P (.seq a b)=(do some (.seq (<- bB P a) (<- bB P b))):=by rw [bB]
def As {c:Code} {ac:ACode} (h:bB P c=some ac):(ac=.ret->c=.ret)/\(∀ id,ac=.exit id->c=.exit id)/\(∀ l,ac=.goto l->c=.goto l):=by
 have no:∀ {ac:ACode},ac ≠ .ret->(∀ id,ac ≠ .exit id)->(∀ l,ac ≠ .goto l)->(ac=.ret->c=.ret)/\(∀ id,ac=.exit id->c=.exit id)/\(∀ l,ac=.goto l->c=.goto l) :=
  fun h1 h2 h3=>⟨fun h=>absurd h h1,fun id h=>absurd h (h2 id),fun l h=>absurd h (h3 l)⟩
 cases c with
 | ret=>cases h; exact ⟨fun _=>rfl,fun id h=>(by cases h),fun l h=>(by cases h)⟩
 | exit id=>cases h; exact ⟨fun h=>(by cases h),fun id h=>(by cases h; rfl),fun l h=>(by cases h)⟩
 | goto l=>cases h; exact ⟨fun h=>(by cases h),fun id h=>(by cases h),fun l h=>(by cases h; rfl)⟩
 | skip=>cases h; exact no (fun h=>by cases h) (fun id h=>by cases h) (fun l h=>by cases h)
 | label l=>cases h; exact no (fun h=>by cases h) (fun id h=>by cases h) (fun l h=>by cases h)
 | refuse w=>cases h; exact no (fun h=>by cases h) (fun id h=>by cases h) (fun l h=>by cases h)
 | region i ops d =>
  simp only [bB] at h;split at h
  ·split at h
   ·cases h; exact no (fun h=>by cases h) (fun id h=>by cases h) (fun l h=>by cases h)
   ·cases h; exact no (fun h=>by cases h) (fun id h=>by cases h) (fun l h=>by cases h)
  ·simp only [Vu] at h;obtain ⟨_,_,h⟩:=h;subst h; exact no (fun h=>by cases h) (fun id h=>by cases h) (fun l h=>by cases h)
 | seq e g =>
  have he:=xq (P:=P) e g
  ·rw [he] at h;simp only [Vj,Vf] at h;obtain ⟨_,_,_,_,h⟩:=h;cases h; exact no (fun h=>by cases h) (fun id h=>by cases h) (fun l h=>by cases h)
 | cond c a b =>
  simp only [bB,Vj,Vf] at h;obtain ⟨_,_,_,_,_,_,h⟩:=h;cases h; exact no (fun h=>by cases h) (fun id h=>by cases h) (fun l h=>by cases h)
 | block i a =>
  simp only [bB,Vj,Vf] at h;obtain ⟨_,_,h⟩:=h;cases h; exact no (fun h=>by cases h) (fun id h=>by cases h) (fun l h=>by cases h)
 | loop a =>
  simp only [bB,Vj,Vf] at h;obtain ⟨_,_,h⟩:=h;cases h; exact no (fun h=>by cases h) (fun id h=>by cases h) (fun l h=>by cases h)
 | scope a =>
  simp only [bB,Vj,Vf] at h;obtain ⟨_,_,h⟩:=h;cases h;unfold Dh;split
  ·split
   ·exact no (fun h=>by cases h) (fun id h=>by cases h) (fun l h=>by cases h)
   ·exact no (fun h=>by cases h) (fun id h=>by cases h) (fun l h=>by cases h)
  ·exact no (fun h=>by cases h) (fun id h=>by cases h) (fun l h=>by cases h)
 | rangeFunc f ps a b =>
  simp only [bB,Vj,Vf] at h;obtain ⟨_,_,_,_,_,_,h⟩:=h;cases h; exact no (fun h=>by cases h) (fun id h=>by cases h) (fun l h=>by cases h)
theorem P0 {c:Code} (h:bB P c=some .ret):c=.ret:=(As h).1 rfl
theorem Ok {c:Code} {id:Nat} (h:bB P c=some (.exit id)):c=.exit id:=(As h).2.1 id rfl
theorem Oe {c:Code} {id:Nat} (h:bB P c=some (.goto id)):c=.goto id:=(As h).2.2 id rfl
def pV {cal:oy} (ai:nG P cal) {fence:Fence} (z:FenceOK fence false) {n:Nat} {g:Operand} {ps:Array Tmp} {C body:Code} {s:Src} {t y:ACode} (hs:bV g=some s) (h1:bB P C=some t) (h2:bB P body=some y)
  {fi:Nat} {args:List AV} {v:AV} {H2:Heap} (p:iD (s.ev T) [.loopv H.next]=some (.fn fi args))
  (ar:cal (.ent fi args) (({ H with next:=H.next+1 }:Heap).put H.next (.loop T ps.toList t y .ready none))=some (v,H2)) (hB:B.1<=w.heap.size) (f:Me P B μ F H w T a) {Q:Exit->Act->World->Prop}
  (ak:∀ T' o k l st j,H2.get H.next=some (.loop T' o k l st j)->st ≠ .busy/\∀ (r:Option Code),(match j,r with | none,none=>True | some c,some c'=>bB P c'=some c | _,_=>False) ->
   ∀ a' w' μ',Me P B μ' F (H2.kill H.next) w' T a'->Stp sF P μ F H w μ' F (H2.kill H.next) w'->(match r with | none=>Q .normal a' w' | some c=>c.wpIn fence n P Q a' w'))
  (al:∃ T' o k l st j,H2.get H.next=some (.loop T' o k l st j)):(Code.rangeFunc g ps C body).wpIn fence n P Q a w:=by
 refine wpIn_rangeFunc fun fn _=>?_;have aq:fence.round=none:=by
  rcases z with ⟨_,rfl⟩ | ⟨h,_⟩; · rfl
  ·cases h
 obtain ⟨ad,V⟩:=Fd f.hH (.deferred (some []));obtain ⟨i,m⟩:∃ i:Loop,i = { state:=.ready,pending:=none,fn,tmps:=a.tmps,params:=ps,assign:=C,body,defers:=w.heap.size }:=⟨_,rfl⟩
 have av:(w.alloc (.deferred (some []))).heap.size=w.heap.size+1:=by simp
 have Z:μ H.next=none:=jT f.hH (Vo _)
 obtain ⟨X,d⟩:=oK (I:=fun b=>b=H.next) (ad.bump 1) Z (YF _) (.loop i) (.loop T ps.toList t y .ready none) 0 0 (fun w' N hn K=>by
  refine ⟨K,i,hn,by rw [m],?_,by rw [m],by rw [m]; exact h1,by rw [m]; exact h2,by rw [m]; trivial⟩;rw [m];exact ((V.lr f.hH f.hT).mono (iT Z) (fun _ h=>h) N)) rfl (w.alloc (.deferred (some []))) rfl (Tp.same rfl rfl) rfl rfl
 rw [av] at X d;have G:Stp sF P μ F H w (μ.upd H.next ⟨w.heap.size+1,0,0⟩) F (({ H with next:=H.next+1 }:Heap).put H.next (.loop T ps.toList t y .ready none)) ((w.alloc (.deferred (some []))).alloc (.loop i)) :=
  V.trans ⟨d.mu,d.fr,d.size,d.keep,d.rw,VB (Nat.le_succ _) d.next,fun b hb _ hn=>d.new b (Nat.lt_succ_of_lt hb) (fun e=>by have e:b=H.next:=e; omega) hn,d.rng,fun b e hb hl _=>d.old b e hb (Nat.lt_succ_of_lt hl) (fun e=>by have e:b=H.next:=e; omega),d.alv,d.tape,d.os,d.out⟩
 have af:DM B (μ.upd H.next ⟨w.heap.size+1,0,0⟩) F ((w.alloc (.deferred (some []))).alloc (.loop i)) ([{ target:=.collected w.heap.size,args:=#[] }]++a.defers):=by
  obtain ⟨Ds,e1,e2,e3⟩:=f.hD.stp G;obtain ⟨ab,f1,f2,f3⟩:=f.hD;have hlt:∀ D∈Ds,D<w.heap.size:=by
   intro D hD;have hm:({ target:=.collected D,args:=#[] }:Deferred)∈ab.map (fun D=>({ target:=.collected D,args:=#[] }:Deferred)):=by
    rw [<- List.append_cancel_right (e1.symm.trans f1)];exact Vl.2 ⟨D,hD,rfl⟩
   obtain ⟨S,ae,he⟩:=Vl.1 hm
   have:S=D:=by injection he with he _; injection he
   subst this;exact (f3 S ae).2.1
  refine ⟨w.heap.size :: Ds,by simp [e1],XX.2 ⟨fun h=>Nat.lt_irrefl _ (hlt _ h),e2⟩,fun D hD=>?_⟩;rcases VK.1 hD with rfl | hD
  ·refine ⟨hB,by rw [World.size_alloc,World.size_alloc]; omega,?_,fun h=>by have:=f.hH.fb _ h; omega,fun b L hb=>?_⟩
   ·rw [pI _ _ (by simp)]; exact World.alloc_heap_new w _
   ·by_cases e:b=H.next
    ·subst e; simp at hb; subst hb; simp
    ·rw [cD _ e] at hb; have:=(f.hH.dom b L hb).2; omega
  ·exact e3 D hD
 have hv:=aO f.hT hs;have M:=G.vr f.hH hv;have ap:LR (μ.upd H.next ⟨w.heap.size+1,0,0⟩) F ((w.alloc (.deferred (some []))).alloc (.loop i)) [.loopv H.next] [.func (.yield (w.heap.size+1)) #[] #[]]:=LR.cons (.loopv _ _ (upd_same _ _)) LR.nil
 generalize ax:s.ev T=fv at p M
 cases fv <;> simp only [iD] at p <;> first | (cases p; done) | skip
 rename_i ff first cap
 cases ff <;> simp only at p <;> first | (cases p; done) | skip
 cases p
 generalize ao:a.eval g=gv at M
 cases M with
 | fn _ _ _ us O k1 k2 k3 k4 =>
 have hl:=((LR.of_agg k1 k2).append ap).append (LR.of_agg k3 k4);obtain ⟨A,aa⟩:=ai _ _ _ _ ar _ F _ _ fence false (n-1) z X hl (fun b args e=>by cases e);have A:=A _ _ rfl;simp only [mZ,A,Runs] at aa;refine ⟨w.heap.size+1,[{ target:=.collected w.heap.size,args:=#[] }],(w.alloc (.deferred (some []))).alloc (.loop i),{ target:=.fn (.func fi) O,args:=us ++ #[.func (.yield (w.heap.size+1)) #[] #[]] },(w.alloc (.deferred (some []))).alloc (.loop i),
  _,_,_,?_,?_,fun f' _=>z.fn f',?_,z.depth n,aa.mono fun e R ⟨u,he,μ3,q⟩=>?_⟩
 ·rw [aq,m]; exact run_enterLoop_outer _ _ _ _ _
 ·have e:(#[Operand.const (Value.func (.yield (w.heap.size+1)) #[] #[])]).map a.eval = #[Value.func (.yield (w.heap.size+1)) #[] #[]]:=by simp only [List.map_toArray,Vq,Vw]; rfl
  simp only [resolve,ao,Deferred.ofValue,e,Sem.run_pure]
 ·have e:(us ++ #[Value.func (.yield (w.heap.size+1)) #[] #[]]++O)=(us.toList++[Value.func (.yield (w.heap.size+1)) #[] #[]]++O.toList).toArray:=by apply Array.ext'; simp
  simp only [invoke,e];exact A
 ·subst he;obtain ⟨T',o,k,l,st,j,J⟩:=al;obtain ⟨ah,am⟩:=ak T' o k l st j J;obtain ⟨L,hL,hE⟩:=q.heap.ent _ _ J;have W:=q.stp.mu _ _ (upd_same (μ:=μ) H.next ⟨w.heap.size+1,0,0⟩);rw [W] at hL; cases hL;obtain ⟨K,r,E,g2,g3,g4,g5,g6,U⟩:=hE;simp only at E;have hlt:=(Wz.1 E).1;obtain ⟨q1,q2⟩:=iL (I:=sF) (e:=.loop T' o k l .exhausted j) q.heap J rfl W (R.putObj (w.heap.size+1) (.loop { r with state:=.exhausted })) (fun c hc=>World.putObj_heap_other hc) (by simp [World.putObj]) (Tp.same rfl rfl) rfl rfl
   (fun N=>⟨K,_,World.putObj_heap_same hlt,rfl,g3.mono (fun _ _ h=>h) (fun _ h=>h) N,g4,g5,g6,U⟩) rfl
  obtain ⟨q3,q4⟩:=tU (I:=sF) q1 H.next
  have Y:∀ x,((H2.put H.next (.loop T' o k l .exhausted j)).kill H.next).get x=(H2.kill H.next).get x:=by
   intro x; simp only [Heap.get_kill,Heap.get_put]; split <;> rfl
  have q5:=q3.congr (H2:=H2.kill H.next) rfl Y;have q6:Stp sF P μ F H w μ3 F (H2.kill H.next) (R.putObj (w.heap.size+1) (.loop { r with state:=.exhausted })) :=
   (G.trans (q.stp.trans (q2.trans q4))).congr rfl fun x e he=>⟨e,by rw [Y]; exact he,rfl⟩
  refine ⟨r.pending,_,run_endLoop E (by rw [g2]; exact ah),?_⟩;have ag:Me P B μ3 F (H2.kill H.next) (R.putObj (w.heap.size+1) (.loop { r with state:=.exhausted })) T { a with defers:=[{ target:=.collected w.heap.size,args:=#[] }]++a.defers } :=
   ⟨q6.lr f.hH f.hT,q5,(af.stp q.stp).stp (q2.trans q4)⟩
  exact am r.pending U _ _ μ3 ag q6
def cJ {P:Program} {b:Frame} {a:Act} {k:List Item} {cs:List Frame} {w:World} {c:Code}:step P (lone (b.atR a (.code (.scope c) :: k)) cs w)=.next (lone (b.atR a (.code c :: .inScope c :: k)) cs w) :=
 step_lone_go (by simp [stepG,stepG.exec,Frame.atR])
def nJ {P:Program} {b:Frame} {a:Act} {k:List Item} {cs:List Frame} {w:World} {c:Code}:step P (lone (b.atR a (.inScope c :: k)) cs w)=.next (lone (b.atR a k) cs w) :=
 step_lone_go (by simp [stepG,stepG.exec,Frame.atR])
def GE {P:Program} {F:Fence} {n:Nat} {a:Act} {w:World} {Q:Exit->Act->World->Prop} {c:Code} (h:c.wpIn F n P (Exit.noGoto Q) a w):(Code.scope c).wpIn F n P Q a w:=by
 intro b k cs p hb hr;have h0:(lone (b.atR a (.code (.scope c) :: k)) cs w).fenced P F:=fenced_calm hb hr rfl;obtain ⟨e,g,i,f,d⟩:=h b (.inScope c :: k) cs p hb hr;cases e with
 | normal=>exact ⟨.normal,g,i,f,.head h0 cJ (StepsIn.trans d (.one (fenced_calm hb hr rfl) nJ))⟩
 | exit m =>
  have hx:exitTo m (.inScope c :: k)=exitTo m k:=by simp [exitTo]
  exact ⟨.exit m,g,i,f,fun q j=>.head h0 cJ (d.1 q (by rw [hx]; exact j)),
   fun o j=>let ⟨r,h1,h2⟩:=d.2 o (by rw [hx]; exact j); ⟨r,h1,.head h0 cJ h2⟩⟩
 | goto l=>exact f.elim
 | ret=>exact ⟨_,g,i,f,.of_steps (.one h0 cJ) d⟩
 | panic s=>exact ⟨_,g,i,f,.of_steps (.one h0 cJ) d⟩
 | outgrown=>exact ⟨_,g,i,f,.of_steps (.one h0 cJ) d⟩
def zr {cal:oy} {m:Nat} {rd:Bool} {T:Tm} {H:Heap}:aI cal m rd IO T H=none:=by
 unfold IO;simp only [aI];split <;> rfl
def Ob (l:Nat) (J:Act->World->Prop) (Q:Exit->Act->World->Prop):Exit->Act->World->Prop
 | .goto b,a,w=>b=l/\J a w
 | e,a,w=>Q e a w
def Em (F:Fence) (n:Nat) (P:Program) (c rest:Code) (Q:Exit->Act->World->Prop) (a:Act) (w:World):Prop :=
 ∀ (b:Frame) (k:List Item) (cs:List Frame),b.roundOf=F.round->F.fn b.fn->F.room (cs.length+1+n) ->
  ∃ e a' w',Q e a' w'/\ArrivesIn (Machine.fenced P F) P (lone (b.atR a (.code rest :: .inScope c :: k)) cs w) b k cs e a' w'
def KK {P:Program} {F:Fence} {n:Nat} {a:Act} {w:World} {Q:Exit->Act->World->Prop} {c rest:Code} {l:Nat} (t:findLabel c l=some rest) (h:rest.wpIn F n P (Ob l (Em F n P c rest Q) Q) a w):Em F n P c rest Q a w:=by
 intro b k cs o hb hr;have hg:gotoIn l (.inScope c :: k)=some (.code rest :: .inScope c :: k):=by simp [gotoIn,t]
 obtain ⟨e,g,i,f,d⟩:=h b (.inScope c :: k) cs o hb hr;cases e with
 | normal=>exact ⟨.normal,g,i,f,StepsIn.trans d (.one (fenced_calm hb hr rfl) nJ)⟩
 | exit m =>
  have hx:exitTo m (.inScope c :: k)=exitTo m k:=by simp [exitTo]
  exact ⟨.exit m,g,i,f,fun x j=>d.1 x (by rw [hx]; exact j),fun v j=>d.2 v (by rw [hx]; exact j)⟩
 | goto A =>
  obtain ⟨rfl,r⟩:=f;obtain ⟨q,p,y,u,s⟩:=r b k cs o hb hr;exact ⟨q,p,y,u,.of_steps (d.1 _ hg) s⟩
 | ret=>exact ⟨_,g,i,f,d⟩
 | panic z=>exact ⟨_,g,i,f,d⟩
 | outgrown=>exact ⟨_,g,i,f,d⟩
def Eu {P:Program} {F:Fence} {n:Nat} {a:Act} {w:World} {Q:Exit->Act->World->Prop} {c rest:Code} {l:Nat} (t:findLabel c l=some rest) (h:c.wpIn F n P (Ob l (Em F n P c rest Q) Q) a w):(Code.scope c).wpIn F n P Q a w:=by
 intro b k cs o hb hr;have hg:gotoIn l (.inScope c :: k)=some (.code rest :: .inScope c :: k):=by simp [gotoIn,t]
 have h0:(lone (b.atR a (.code (.scope c) :: k)) cs w).fenced P F:=fenced_calm hb hr rfl;obtain ⟨e,g,i,f,d⟩:=h b (.inScope c :: k) cs o hb hr;cases e with
 | normal=>exact ⟨.normal,g,i,f,.head h0 cJ (StepsIn.trans d (.one (fenced_calm hb hr rfl) nJ))⟩
 | exit m =>
  have hx:exitTo m (.inScope c :: k)=exitTo m k:=by simp [exitTo]
  exact ⟨.exit m,g,i,f,fun x j=>.head h0 cJ (d.1 x (by rw [hx]; exact j)),
   fun v j=>let ⟨y,h1,h2⟩:=d.2 v (by rw [hx]; exact j); ⟨y,h1,.head h0 cJ h2⟩⟩
 | goto B =>
  obtain ⟨rfl,r⟩:=f;obtain ⟨q,p,z,u,s⟩:=r b k cs o hb hr;exact ⟨q,p,z,u,.of_steps (.head h0 cJ (d.1 _ hg)) s⟩
 | ret=>exact ⟨_,g,i,f,.of_steps (.one h0 cJ) d⟩
 | panic A=>exact ⟨_,g,i,f,.of_steps (.one h0 cJ) d⟩
 | outgrown=>exact ⟨_,g,i,f,.of_steps (.one h0 cJ) d⟩
def xQ {cal:oy} {m:Nat} {rd:Bool} {c rest:Code} {i:ACode} {l:Nat} (p:findLabel c l=some rest) (hc:∀ T H x T' H',aI cal m rd i T H=some (x,T',H')->kS P rd rest T H x T' H') :
  ∀ (k:Nat) (T:Tm) (H:Heap) (x:Ex) (T':Tm) (H':Heap),Jj l (aI cal m rd i) k T H=some (x,T',H') ->
  ∀ (fence:Fence) (n:Nat) (B:Nat × List Deferred) (μ:Mu) (F:Nat->Prop) (w:World) (a:Act) (Q:Exit->Act->World->Prop),FenceOK fence rd->B.1<=w.heap.size->Me P B μ F H w T a ->
  (∀ a' w' μ',Me P B μ' F H' w' T' a'->Stp sF P μ F H w μ' F H' w'->Q (Lz x) a' w')->Em fence n P c rest Q a w
 | 0,T,H,x,T',H',h=>by cases h
 | k+1,T,H,x,T',H',h=>by
  intro fence n B μ F w a Q f d o j;simp only [Jj] at h;refine KK p ?_;split at h
  ·rename_i u T1 q h1;split at h
   ·rename_i e;subst e;refine hc T H _ _ _ h1 fence n B μ F w a _ f d o fun a' w' μ' g b=>⟨rfl,?_⟩
    exact xQ p hc k T1 q x T' H' h fence n B μ' F w' a' Q f (VB d b.size) g fun r v μ2 s t=>j r v μ2 s (b.trans t)
   ·cases h
  ·rename_i hne;refine hc T H _ _ _ h fence n B μ F w a _ f d o fun a' w' μ' g b=>?_
   have:=j a' w' μ' g b
   cases x with
   | goto u=>exact absurd h (hne _ _ _)
   | _=>exact this
def KB {cal:oy} {m:Nat} {rd:Bool} {i j:Code} {g b:ACode} (h1:∀ T H x T' H',aI cal m rd g T H=some (x,T',H')->kS P rd i T H x T' H') (h2:∀ T H x T' H',aI cal m rd b T H=some (x,T',H')->kS P rd j T H x T' H')
  (T:Tm) (H:Heap) (x:Ex) (T':Tm) (H':Heap) (h:aI cal m rd (.seq g b) T H=some (x,T',H')):kS P rd (.seq i j) T H x T' H':=by
 intro fence n B μ F w a Q e d l k;simp only [aI] at h;refine wpIn_seq ?_;split at h
 ·rename_i T1 o q;refine h1 T H _ _ _ q fence n B μ F w a _ e d l fun a' w' μ' f c=>?_;exact h2 T1 o _ _ _ h fence n B μ' F w' a' Q e (VB d c.size) f fun b s μ2 p r=>k b s μ2 p (c.trans r)
 ·rename_i hne;refine h1 T H _ _ _ h fence n B μ F w a _ e d l fun a' w' μ' f c=>?_
  have:=k a' w' μ' f c
  cases x <;> first | exact this | exact absurd h (hne _ _)
def Lh {c:Code} {ac:ACode} (h:bB P c=some ac):(∃ e g,c=.seq e g)\/(∃ l,c=.label l)\/∀ l,bP ac l=none:=by
 cases c with
 | seq e g=>exact .inl ⟨e,g,rfl⟩
 | label l=>exact .inr (.inl ⟨l,rfl⟩)
 | ret=>cases h; exact .inr (.inr fun l=>rfl)
 | exit id=>cases h; exact .inr (.inr fun l=>rfl)
 | goto l=>cases h; exact .inr (.inr fun l=>rfl)
 | skip=>cases h; exact .inr (.inr fun l=>rfl)
 | refuse w=>cases h; exact .inr (.inr fun l=>rfl)
 | region i ops d =>
  right; right
  simp only [bB] at h;split at h
  ·split at h
   ·cases h; exact fun l=>rfl
   ·cases h; exact fun l=>rfl
  ·simp only [Vu] at h;obtain ⟨_,_,h⟩:=h;subst h; exact fun l=>rfl
 | cond c a b =>
  simp only [bB,Vj,Vf] at h;obtain ⟨_,_,_,_,_,_,h⟩:=h;cases h; exact .inr (.inr fun l=>rfl)
 | block i a =>
  simp only [bB,Vj,Vf] at h;obtain ⟨_,_,h⟩:=h;cases h; exact .inr (.inr fun l=>rfl)
 | loop a =>
  simp only [bB,Vj,Vf] at h;obtain ⟨_,_,h⟩:=h;cases h; exact .inr (.inr fun l=>rfl)
 | rangeFunc f ps a b =>
  simp only [bB,Vj,Vf] at h;obtain ⟨_,_,_,_,_,_,h⟩:=h;cases h; exact .inr (.inr fun l=>rfl)
 | scope a =>
  right; right
  simp only [bB,Vj,Vf] at h;obtain ⟨a',_,h⟩:=h;cases h;unfold Dh;split
  ·rename_i k j;split
   ·intro l;cases a' <;> first | rfl | (simp [DL] at j; done)
   ·exact fun l=>rfl
  ·exact fun l=>rfl
def Fy {cal:oy} {m:Nat} {rd:Bool} {N:Nat} (y:∀ p:Code,SizeOf.sizeOf p<N->∀ (ac:ACode),bB P p=some ac->∀ (T:Tm) (H:Heap) (x:Ex) (T':Tm) (H':Heap),aI cal m rd ac T H=some (x,T',H')->kS P rd p T H x T' H') (l:Nat) :
  ∀ (b:Code),SizeOf.sizeOf b<N->∀ (c:ACode),bB P b=some c->(bP c l=none->findLabel b l=none)/\∀ d,bP c l=some d->∃ rest,findLabel b l=some rest/\∀ T H x T' H',aI cal m rd d T H=some (x,T',H')->kS P rd rest T H x T' H':=by
 intro b;have other:∀ c:ACode,(∀ l,bP c l=none)->findLabel b l=none->(bP c l=none->findLabel b l=none)/\∀ d,bP c l=some d->∃ rest,findLabel b l=some rest/\∀ T H x T' H',aI cal m rd d T H=some (x,T',H')->kS P rd rest T H x T' H' :=
  fun c h1 h2=>⟨fun _=>h2,fun d h=>by rw [h1] at h; cases h⟩
 induction b with
 | label G =>
  intro k c hc;cases hc;simp only [bP,findLabel];refine ⟨fun h=>?_,fun d h=>?_⟩
  ·split at h
   ·cases h
   ·rename_i e; rw [if_neg e]
  ·split at h
   ·rename_i e;cases h;rw [if_pos e];exact ⟨_,rfl,fun T H x T' H' h fence n B μ F w a Q E D t s=>by cases h; exact wpIn_skip (s a w μ t (Stp.refl _ _ _ _ _ _))⟩
   ·cases h
 | seq j i z A =>
  intro k c hc;have C:∀ g f,bB P j=some g->bB P i=some f->(bP (.seq g f) l=none->findLabel (.seq j i) l=none)/\∀ d,bP (.seq g f) l=some d->∃ rest,findLabel (.seq j i) l=some rest/\∀ T H x T' H',aI cal m rd d T H=some (x,T',H')->kS P rd rest T H x T' H':=by
   intro g f h1 h2;have q:=z (fun c h1 h2=>⟨fun _=>h2,fun d h=>by rw [h1] at h; cases h⟩) (by simp at k; omega) g h1;have v:=A (fun c h1 h2=>⟨fun _=>h2,fun d h=>by rw [h1] at h; cases h⟩) (by simp at k; omega) f h2;cases o:bP g l with
   | none =>
    have e1:bP (.seq g f) l=bP f l:=by simp only [bP,o]
    have e2:findLabel (.seq j i) l=findLabel i l:=by simp only [findLabel,q.1 o]
    rw [e1,e2];exact v
   | some r =>
    obtain ⟨rest,hr,u⟩:=q.2 r o;have e1:bP (.seq g f) l=some (.seq r f):=by simp only [bP,o]
    have e2:findLabel (.seq j i) l=some (.seq rest i):=by simp only [findLabel,hr]
    rw [e1,e2];refine ⟨fun h=>(by cases h),fun d h=>?_⟩;cases h;exact ⟨_,rfl,KB u (y i (by simp at k; omega) f h2)⟩
  have he:=xq (P:=P) j i
  ·rw [he] at hc;simp only [Vj,Vf] at hc;obtain ⟨g,h1,f,h2,hc⟩:=hc;cases hc;exact C g f h1 h2
 | _ =>
  intro k c hc;rcases Lh hc with ⟨_,_,h⟩ | ⟨_,h⟩ | h
  ·cases h
  ·cases h
  ·exact other c h rfl
def rr {cal:oy} (M:nG P cal) (af:P.follows .mixedOrders=true) {m:Nat} {rd:Bool}:∀ (c:Code) (ac:ACode),bB P c=some ac->∀ (T:Tm) (H:Heap) (x:Ex) (T':Tm) (H':Heap),aI cal m rd ac T H=some (x,T',H')->kS P rd c T H x T' H':=by
 intro c
 induction hk:SizeOf.sizeOf c using Nat.strongRecOn generalizing c with
 | _ k t =>
 have t:∀ z:Code,SizeOf.sizeOf z<SizeOf.sizeOf c->∀ (ac:ACode),bB P z=some ac->∀ (T:Tm) (H:Heap) (x:Ex) (T':Tm) (H':Heap),aI cal m rd ac T H=some (x,T',H')->kS P rd z T H x T' H':=fun z h=>t (SizeOf.sizeOf z) (hk ▸ h) z rfl;cases c with
 | skip =>
  intro ac hc T H x T' H' h fence n B μ F w a Q i o d f;cases hc; cases h;exact wpIn_skip (f a w μ d (Stp.refl _ _ _ _ _ _))
 | label l =>
  intro ac hc T H x T' H' h fence n B μ F w a Q i o d f;cases hc;simp only [aI] at h;cases h;exact wpIn_label (f a w μ d (Stp.refl _ _ _ _ _ _))
 | exit id =>
  intro ac hc T H x T' H' h fence n B μ F w a Q i o d f;cases hc; cases h;exact wpIn_exit (f a w μ d (Stp.refl _ _ _ _ _ _))
 | goto l =>
  intro ac hc T H x T' H' h fence n B μ F w a Q i o d f;cases hc; cases h;exact wpIn_goto (f a w μ d (Stp.refl _ _ _ _ _ _))
 | ret =>
  intro ac hc T H x T' H' h fence n B μ F w a Q i o d f;cases hc; cases h;exact wpIn_ret (f a w μ d (Stp.refl _ _ _ _ _ _))
 | refuse ap =>
  intro ac hc T H x T' H' h;cases hc;rw [zr] at h; cases h
 | scope b =>
  have ai:=t;have t:=t b (by simp);intro ac hc T H x T' H' h fence n B μ F w a Q i o d f;simp only [bB,Vj,Vf] at hc;obtain ⟨A,hb,hc⟩:=hc;have aa:aI cal m rd (.scope A) T H=some (x,T',H')->(Code.scope b).wpIn fence n P Q a w:=by
   intro h;simp only [aI] at h;refine GE ?_;split at h
   ·cases h
   ·rename_i hne;refine t A hb T H _ _ _ h fence n B μ F w a _ i o d fun a' w' μ' u j=>?_
    have:=f a' w' μ' u j
    cases x with
    | goto l=>exact absurd h (hne _ _ _)
    | _=>exact this
  cases hc;unfold Dh at h;split at h
  ·rename_i l hl;split at h
   ·rename_i ar ad;obtain ⟨rest,hf,ag⟩:=(Fy ai l b (by simp) A hb).2 ar ad;simp only [aI] at h;refine Eu hf ?_;split at h
    ·rename_i l' T1 I h1;split at h
     ·rename_i e;subst e;refine t A hb T H _ _ _ h1 fence n B μ F w a _ i o d fun a' w' μ' u j=>⟨rfl,?_⟩
      exact xQ hf ag m T1 I x T' H' h fence n B μ' F w' a' Q i (VB o j.size) u fun y Z μ2 R X=>f y Z μ2 R (j.trans X)
     ·cases h
    ·rename_i hne;refine t A hb T H _ _ _ h fence n B μ F w a _ i o d fun a' w' μ' u j=>?_
     have:=f a' w' μ' u j
     cases x with
     | goto l=>exact absurd h (hne _ _ _)
     | _=>exact this
   ·exact aa h
  ·exact aa h
 | region id ops draw =>
  intro ac hc T H x T' H' h fence n B μ F w a Q i o d f;simp only [bB] at hc;cases draw with
  | true =>
   simp only [if_true] at hc;split at hc
   ·rename_i p W;obtain ⟨ds,late⟩:=p;cases hc;simp only [aI] at h;split at h
    ·rename_i T1 I C;cases h;refine Ih M af i W C d.hT d.hH fun a' w' μ' hd S O j=>?_;exact f a' w' μ' ⟨S,O,hd ▸ d.hD.stp j⟩ j
    ·cases h
   ·cases hc;rw [zr] at h; cases h
  | false =>
   simp only [Wo,if_false,Vu] at hc;obtain ⟨rs,W,rfl⟩:=hc;simp only [aI] at h;split at h
   ·rename_i T1 I C;cases h;refine Dl M i W C d.hT d.hH fun a' w' μ' hd S O j=>?_;exact f a' w' μ' ⟨S,O,hd ▸ d.hD.stp j⟩ j
   ·cases h
 | seq E G =>
  have N:=t E zS;have Y:=t G zS;intro ac hc T H x T' H' h;have ak:∀ D y,bB P E=some D->bB P G=some y->aI cal m rd (.seq D y) T H=some (x,T',H')->kS P rd (.seq E G) T H x T' H':=by
   intro D y h1 h2 h fence n B μ F w a Q i o d f;simp only [aI] at h;refine wpIn_seq ?_;split at h
   ·rename_i T1 I C;refine N D h1 T H _ _ _ C fence n B μ F w a _ i o d fun a' w' μ' u j=>?_;exact Y y h2 T1 I _ _ _ h fence n B μ' F w' a' Q i (VB o j.size) u fun y Z μ2 R X=>f y Z μ2 R (j.trans X)
   ·rename_i hne;refine N D h1 T H _ _ _ h fence n B μ F w a _ i o d fun a' w' μ' u j=>?_
    have:=f a' w' μ' u j
    cases x <;> first | exact this | exact absurd h (hne _ _)
  have he:=xq (P:=P) E G
  ·rw [he] at hc;simp only [Vj,Vf] at hc;obtain ⟨D,h1,y,h2,hc⟩:=hc;cases hc;exact ak D y h1 h2 h
 | cond c E G =>
  have N:=t E zS;have Y:=t G zS;intro ac hc T H x T' H' h fence n B μ F w a Q i o d f;simp only [bB,Vj,Vf] at hc;obtain ⟨s,hs,D,h1,y,h2,hc⟩:=hc;cases hc;simp only [aI] at h;have J:=aO d.hT hs;split at h
  ·rename_i e;rw [e] at J
   generalize U:a.eval c=cv at J
   cases J;exact wpIn_cond_true U (N D h1 T H _ _ _ h fence n B μ F w a Q i o d f)
  ·rename_i e;rw [e] at J
   generalize U:a.eval c=cv at J
   cases J;exact wpIn_cond_false U (Y y h2 T H _ _ _ h fence n B μ F w a Q i o d f)
  ·cases h
 | block id b =>
  have t:=t b zS;intro ac hc T H x T' H' h fence n B μ F w a Q i o d f;simp only [bB,Vj,Vf] at hc;obtain ⟨A,hb,hc⟩:=hc;cases hc;simp only [aI] at h;refine wpIn_block ?_;split at h
  ·rename_i ao T1 I C;split at h
   ·rename_i e;cases h;refine t A hb T H _ _ _ C fence n B μ F w a _ i o d fun a' w' μ' u j=>?_
    have:=f a' w' μ' u j
    simp only [Lz,Exit.inBlock,e,if_true];exact this
   ·rename_i e;cases h;refine t A hb T H _ _ _ C fence n B μ F w a _ i o d fun a' w' μ' u j=>?_
    have:=f a' w' μ' u j
    simp only [Lz,Exit.inBlock,e,if_false];exact this
  ·rename_i hne;refine t A hb T H _ _ _ h fence n B μ F w a _ i o d fun a' w' μ' u j=>?_
   have:=f a' w' μ' u j
   cases x <;> first | exact this | exact absurd h (hne _ _ _)
 | loop b =>
  have t:=t b (by simp);intro ac hc T H x T' H' h fence n B μ F w a Q i o d f;simp only [bB,Vj,Vf] at hc;obtain ⟨A,hb,hc⟩:=hc;cases hc;simp only [aI] at h;exact wpIn_loop_rounds m (Au (t A hb) m T H x T' H' h fence n B μ F w a Q i o d f).2
 | rangeFunc g ps ab body =>
  intro ac hc T H x T' H' h fence n B μ F w a Q i o d f;simp only [bB,Vj,Vf] at hc;obtain ⟨s,hs,D,h1,y,h2,hc⟩:=hc;cases hc;simp only [aI] at h;split at h
  ·cases h
  rename_i V;have V:rd=false:=by simpa using V
  subst V;split at h
  ·rename_i fi args ht;split at h
   ·rename_i v H2 C;split at h
    ·rename_i T0 am b1 b2 L;cases h;refine pV M i hs h1 h2 ht C o d (fun T' al E G st pe hg=>?_) ⟨_,_,_,_,_,_,L⟩;rw [L] at hg; cases hg;refine ⟨by simp,fun r hr a' w' μ' u j=>?_⟩;cases r with
     | none=>exact f a' w' μ' u j
     | some c=>exact hr.elim
    ·rename_i T0 am b1 b2 pc L;have fin:∀ (x':Ex) (cc:Code),x'=x->T'=T->H'=H2.kill H.next->(∀ z,bB P z=some pc->z=cc)->(∀ (a':Act) (w':World),Q (Lz x') a' w'->cc.wpIn fence n P Q a' w')->(Code.rangeFunc g ps ab body).wpIn fence n P Q a w:=by
      intro x' cc e1 e2 e3 ae ah;subst e1; subst e2; subst e3;refine pV M i hs h1 h2 ht C o d (fun T' al E G st pe hg=>?_) ⟨_,_,_,_,_,_,L⟩;rw [L] at hg; cases hg;refine ⟨by simp,fun r hr a' w' μ' u j=>?_⟩;cases r with
      | none=>exact hr.elim
      | some c =>
       have:=ae c hr
       subst this;exact ah _ _ (f a' w' μ' u j)
     split at h
     ·cases h; exact fin .ret .ret rfl rfl rfl (fun z K=>P0 K) (fun a' w' q=>wpIn_ret q)
     ·cases h; exact fin (.exit _) (.exit _) rfl rfl rfl (fun z K=>Ok K) (fun a' w' q=>wpIn_exit q)
     ·cases h; exact fin (.goto _) (.goto _) rfl rfl rfl (fun z K=>Oe K) (fun a' w' q=>wpIn_goto q)
     ·cases h
    ·cases h
   ·cases h
  ·cases h
end
def IA (_:Program) (_:L8):Prop:=True
end Go.Proofs.YtkmepoeklibegaaGreat.Ev
namespace Go.Proofs.YtkmepoeklibegaaGreat.Ev
open Go
open Go.Sort
def TO {α:Type} (enc:α->Value):Prop:=∀ x,(enc x).oneCell'=true
def Ql {α:Type} (a:α->α->Int) (x y:α):Bool:=decide (a x y<0)
def mh {α:Type} [Inhabited α] (enc:α->Value) (w:World) (blk off m:Nat) (a:Array α) (os:Array Obj):World:=grow (putRow enc (Sort.ahead w m) blk off a) os
def Rf {α:Type} [Inhabited α] (P:Program) (g:Nat) (b:Array Value) (enc:α->Value) (c:α->α->Int) (blk off size:Nat) (w:World):Prop :=
 ∀ (m:Nat) (os:Array Obj) (a:Array α),a.size=size->∀ x y:α,
  Calls P g (#[enc x,enc y]++b) (mh enc w blk off m a os) fun e w'=>e=.returned (.int .i64 (c x y))/\∃ q d,w'=grow ((mh enc w blk off m a os).drewN q) d
def Iz (P:Program) (S:Nat) (gs:List Nat):Prop :=
 (∃ fn,P.funcs[S]? = some fn ∧ fn.body.isSome=true ∧ fn.name ≠ "runtime.NumGoroutine") ∧ O5 ∧
 (∀ g∈gs,∀ args w,(callFunc g args).run P w=.ok (.enter g args) w) /\
 (∀ (p:Option Addr) (cap:Nat) (c:Value) (w:World),Calls P S #[.slice p 0 cap,c] w fun e w'=>e=.returned (.tuple #[])/\w'=w) /\
 ∀ (k:Nat) (enc:Fin (k+1)->Value) (a:Fin (k+1)->Fin (k+1)->Int) (g:Nat) (b:Array Value) (blk cap:Nat) (w:World),g∈gs->TO enc->SWO (Ql a)->(∀ x y,Ql a x y=false->Ql a y x=false->x=y) ->
  Rf P g b enc a blk 0 (k+1) w->Holds enc w blk 0 (List.finRange (k+1)).toArray->blk<w.heap.size->k+1<4611686018427387904 ->
  Calls P S #[.slice (some ⟨blk,0,none⟩) (k+1:Nat) cap,.func (.func g) #[] b] w fun e w'=>e=.returned (.tuple #[])/\∃ m os,w'=mh enc w blk 0 m ((List.finRange (k+1)).mergeSort fun x y=>!(Ql a) y x).toArray os
def GF {W w':World} (hs:W.heap.size<=w'.heap.size) (b:∀ c,c<W.heap.size->w'.heap[c]? = W.heap[c]?) (f:w'.tape=W.tape) (hd:W.drawn<=w'.drawn) (e:w'.os=W.os) (hp:w'.output=W.output) :
  w'=grow (W.drewN (w'.drawn-W.drawn)) (w'.heap.extract W.heap.size w'.heap.size):=by
 obtain ⟨h1,t1,d1,a,p1⟩:=w';obtain ⟨h,t,d,o,p⟩:=W;simp only at *;subst f; subst e; subst hp;unfold grow World.drewN;have e1:h1=h++h1.extract h.size h1.size:=by
  apply Zu
  intro i;by_cases hi:i<h.size
  ·rw [WO hi]; exact b i hi
  ·rw [Array.getElem?_append_right zO,Z0];by_cases hj:i<h1.size
   ·rw [if_pos zO]; congr 1; omega
   ·rw [if_neg zO];exact Yq zO
 have e2:d1=d+(d1-d):=zO;show (⟨h1,t1,d1,a,p1⟩:World)=⟨h++h1.extract h.size h1.size,t1,d+(d1-d),a,p1⟩;rw [<- e1,<- e2]
section
variable {P:Program} {μ:Mu} {F:Nat->Prop} {H:Heap} {w:World}
def HX (hH:HR P μ F H w) (os:Array Obj):HR P μ F H (grow w os)/\Stp sF P μ F H w μ F H (grow w os):=by
 have a:∀ c,c<w.heap.size->(grow w os).heap[c]? = w.heap[c]?:=fun c hc=>by
  show (w.heap++os)[c]? = _;rw [WO hc]
 have f:w.heap.size<=(grow w os).heap.size:=by
  show _<=(w.heap++os).size
  simp
 refine ⟨⟨fun b L hb=>?_,fun c hc=>?_,fun b e hb=>?_,hH.inj,fun g cs hg=>(hH.gl g cs hg).mono (fun _ _ h=>h) (fun _ h=>h) fun c hc=>a c (hH.fb c hc)⟩,⟨fun _ _ h=>h,fun _ h=>h,f,fun c hc _=>a c hc,fun b L hb hL=>.inr ⟨b,L,hb,hL,rfl⟩,Vo _,fun _ _ _ h=>h,fun b L h=>.inl ⟨b,L,h,rfl⟩,fun b e h _ _=>⟨e,h⟩,fun b e L h hL=>.inr ⟨b,e,L,h,hL,rfl⟩,Tp.same rfl rfl,rfl,rfl⟩⟩
 ·have:=hH.dom b L hb; exact ⟨this.1,zO⟩
 ·have:=hH.fb c hc; omega
 ·obtain ⟨L,hL,d⟩:=hH.ent b e hb;exact ⟨L,hL,d.mono (fun _ _ h=>h) (fun _ h=>h) (fun c hc=>a c (hH.fb c hc)) (a _ (hH.dom b L hL).2) (fun hr=>d.notF hr)⟩
def rv {f:Nat} {fn:Func} {vs:Array Value} {a:Fence} {rd:Bool} {n:Nat} {R:Value → World → Prop} (d:P.funcs[f]? = some fn) (hb:fn.body.isSome=true) (hn:fn.name ≠ "runtime.NumGoroutine") (b:FenceOK a rd)
  (h:Calls P f vs w fun e w'=>∃ u,e=.returned u/\R u w'):Runs a n P ((callFunc f vs).run P w) R:=by
 have hr:(callFunc f vs).run P w=.ok (.enter f vs) w:=by
  obtain ⟨c,hc⟩:=YL.1 hb;simp [callFunc,d,hn,hc]
 rw [hr];unfold Runs;simp only;have key:CallsIn Fence.wide n P f vs w fun e w'=>∃ u,e=.returned u/\R u w':=callsIn_wide.2 h;rcases b with ⟨_,rfl⟩ | ⟨_,l,rfl⟩
 ·exact key
 ·exact key
def zM {α:Type} [Inhabited α] (enc:α->Value) (w:World) (blk off m:Nat) (a:Array α) (os:Array Obj):(∀ c,c<w.heap.size->c≠blk->(mh enc w blk off m a os).heap[c]? = w.heap[c]?)/\w.heap.size<=(mh enc w blk off m a os).heap.size:=by
 have e:(mh enc w blk off m a os).heap=w.heap.modify blk (onCells (putCells enc off a))++os:=rfl;rw [e];refine ⟨fun c hc hne=>?_,by simp⟩;rw [WO (by simpa using hc),Xr,if_neg (Ne.symm hne)]
def Cy {cal:oy} {g:Nat} {caps:List AV} {D:Heap} {x:AV}:∀ {l:List AV} {cs:List Int},rt cal g caps D x l=some cs->cs.length=l.length/\∀ (j:Nat) (y:AV),l[j]? = some y->∃ a,cal (.fn g ([x,y]++caps)) D=some (.int .i64 (cs.getD j 0),a)
 | [],cs,h=>by
  simp only [rt,V4] at h;subst h;exact ⟨rfl,fun j y h=>by simp at h⟩
 | y :: l,cs,h=>by
  simp only [rt] at h;split at h
  ·rename_i c a d h1 h2;cases h;obtain ⟨k1,k2⟩:=Cy h2;refine ⟨by simp [k1],fun j z b=>?_⟩;cases j with
   | zero=>simp at b; subst b; exact ⟨a,h1⟩
   | succ j=>exact k2 j z (by simpa using b)
  ·cases h
def AQ {cal:oy} {g:Nat} {caps:List AV} {D:Heap} {all:List AV}:∀ {l:List AV} {M:List (List Int)},sv cal g caps D all l=some M->∀ (i:Nat) (x:AV),l[i]? = some x->rt cal g caps D x all=some (M.getD i [])
 | [],M,h,i,x,hx=>by simp at hx
 | x :: l,M,h,i,z,a=>by
  simp only [sv] at h;split at h
  ·rename_i r b h1 h2;cases h;cases i with
   | zero=>simp at a; subst a; exact h1
   | succ i=>exact AQ h2 i z (by simpa using a)
  ·cases h
def EQ {cal:oy} (af:nG P cal) {S ty:Nat} {gs:List Nat} (hS:Iz P S gs) {args:List AV} {v:AV} {H':Heap} (h:B4 cal ty gs H args=some (v,H')) {vs:List Value} {fence:Fence} {rd:Bool} (A:FenceOK fence rd) (hH:HR P μ F H w) (hl:LR μ F w args vs) (n:Nat) :
  Runs fence n P ((callFunc S vs.toArray).run P w) fun u w'=>∃ μ',iu sF P μ F H w v H' u w' μ':=by
 obtain ⟨⟨fn,E,hb,hn⟩,ao,ak,Y,ay⟩:=hS;have K:∀ {a b:AV},LR μ F w [a,b] vs->∃ x y,vs=[x,y]/\VR μ F w a x/\VR μ F w b y:=fun {a b} h=>by
  have h1:=h.1
  match vs,h1 with
  | [x,y],_=>exact ⟨x,y,rfl,h.head,h.tail.head⟩
 unfold B4 at h;split at h
 ·cases h;obtain ⟨x,y,rfl,hx,hy⟩:=K hl;cases hx;refine rv E hb hn A ((Y none 0 y w).mono ?_);rintro e w' ⟨rfl,rfl⟩;exact ⟨_,rfl,μ,.tup [] #[] rfl (fun i c v h=>by simp at h),hH,Stp.refl _ _ _ _ _ _⟩
 ·rename_i b off len c sz ex g caps;split at h
  ·rename_i hz;cases h;subst hz;obtain ⟨x,y,rfl,hx,hy⟩:=K hl;cases hx with
   | own _ _ _ _ _ _ L cap N o2 o3 o4 o5 o6 =>
   refine rv E hb hn A ((Y _ cap y w).mono ?_);rintro e w' ⟨rfl,rfl⟩;exact ⟨_,rfl,μ,.tup [] #[] rfl (fun i c v h=>by simp at h),hH,Stp.refl _ _ _ _ _ _⟩
  split at h
  ·rename_i cs aB J;split at h
   ·rename_i hc;obtain ⟨rfl,rfl,rfl,aD,h0,ad,hg,Z⟩:=hc;split at h
    ·rename_i M hM;split at h
     ·rename_i q;cases h;obtain ⟨x,y,rfl,hx,hy⟩:=K hl;obtain ⟨L,hL,hE⟩:=hH.ent b _ J;cases hx with
      | own _ _ _ _ _ _ L' cap N o2 o3 o4 o5 o6 =>
      rw [hL] at N; cases N;cases hy with
      | fn _ _ _ us ub q1 q2 q3 q4 =>
      obtain rfl:us = #[]:=Yi (by simpa using q1.symm);obtain ⟨arr,fr,t,a2,a3,a4,a5,a6,-⟩:=hE;obtain ⟨X,rfl⟩:=a6 rfl;have ae:=(hH.dom b L hL).2;obtain ⟨k,rfl⟩:∃ k,len=k+1:=⟨len-1,zO⟩
      obtain ⟨enc,ai⟩:∃ enc:Fin (k+1)->Value,enc=fun i=>arr[i.val]!:=⟨_,rfl⟩
      have V:∀ i:Fin (k+1),arr[i.val]? = some (enc i):=fun i=>by
       have hi:i.val<arr.size:=by have:=i.isLt; omega
       rw [ai,WM hi];simp [hi]
      have o:∀ i:Fin (k+1),cs[i.val]? = some (cs.getD i.val .undef):=fun i=>by
       have hi:i.val<cs.length:=by have:=i.isLt; omega
       rw [Vk hi];simp [hi]
      have s:∀ i:Fin (k+1),VR μ F w (cs.getD i.val .undef) (enc i):=fun i=>a5 _ _ _ (o i) (V i);obtain ⟨d,U⟩:∃ d:Fin (k+1)->Fin (k+1)->Int,d=fun i j=>(M.getD i.val []).getD j.val 0:=⟨_,rfl⟩
      have hlt:∀ i j,Ql d i j=Mc M i.val j.val:=fun i j=>by rw [U]; rfl
      obtain ⟨w1,w2,w3⟩:=q;have hT:∀ x y,Ql d x y=false->Ql d y x=false->x=y:=fun x y e1 e2=>by
       rw [hlt] at e1 e2;rcases w2 _ x.isLt _ y.isLt with e | e
       ·exact Fin.ext e
       ·rw [e1,e2] at e; cases e
      have az:SWO (Ql d):=by
       refine ⟨fun x=>by rw [hlt]; exact w1 _ x.isLt,fun x y z e1 e2=>?_,fun x y z e1 e2=>?_⟩
       ·rw [hlt] at *; exact w3 _ x.isLt _ y.isLt _ z.isLt e1 e2
       ·rw [hlt] at *;cases aa:Mc M x.val z.val with
        | false=>rfl
        | true =>
         rcases w2 _ x.isLt _ y.isLt with e | e
         ·rw [<- e,aa] at e2; cases e2
         ·rw [e1] at e;have e3:Mc M y.val x.val=true:=by simpa using e.symm
          rw [w3 _ y.isLt _ x.isLt _ z.isLt e3 aa] at e2; cases e2
      have aq:TO enc:=fun i=>by
       refine (s i).oneCell ?_;rw [VJ] at Z;exact Z _ (VD (o i))
      have ag:Rf P g ub enc d L.blk 0 (k+1) w:=by
       intro m os Q aC x y;obtain ⟨W,hW⟩:∃ W,W=mh enc w L.blk 0 m Q os:=⟨_,rfl⟩
       rw [<- hW];obtain ⟨C,D⟩:=zM enc w L.blk 0 m Q os;rw [<- hW] at C D;have f:∀ c,F c->W.heap[c]? = w.heap[c]?:=fun c hc=>C c (hH.fb c hc) fun e=>X (e ▸ hc);have T:HR P μ F (H.kill b) W:=by
        have G:∀ b' e',(H.kill b).get b'=some e'->b'≠b/\H.get b'=some e':=fun b' e' h=>by
         rw [Heap.get_kill] at h;split at h
         ·cases h
         ·exact ⟨by assumption,h⟩
        refine ⟨fun b' L' h'=>⟨(hH.dom b' L' h').1,VF (hH.dom b' L' h').2 D⟩,fun c hc=>VF (hH.fb c hc) D,fun b' e' h'=>?_,fun b1 b2 e1 e2 L1 L2 h1 h2=>hH.inj b1 b2 e1 e2 L1 L2 (G _ _ h1).2 (G _ _ h2).2,fun g cs hg=>(hH.gl g cs hg).mono (fun _ _ h=>h) (fun _ h=>h) f⟩;obtain ⟨hne,h'⟩:=G b' e' h';obtain ⟨L',B,R⟩:=hH.ent b' e' h';exact ⟨L',B,R.mono (fun _ _ h=>h) (fun _ h=>h) f (C _ (hH.dom b' L' B).2 fun e=>hne (hH.inj b' b e' _ L' L h' J B hL e)) (fun hr=>R.notF hr)⟩
       have hD:=Tb T;have av:=AQ hM x.val _ (o x);obtain ⟨D',ax⟩:=(Cy av).2 y.val _ (o y);have hargs:LR μ F W ([cs.getD x.val .undef,cs.getD y.val .undef]++caps) ([enc x,enc y]++ub.toList):=by
        refine LR.cons ((s x).mono (fun _ _ h=>h) (fun _ h=>h) f) (LR.cons ((s y).mono (fun _ _ h=>h) (fun _ h=>h) f) ⟨by simpa using q3,fun i c v hc r=>?_⟩);exact (q4 i c v hc (by simpa using r)).mono (fun _ _ h=>h) (fun _ h=>h) f
       have run:=(af _ _ _ _ ax μ F W _ Fence.wide false 0 (.inl ⟨rfl,rfl⟩) hD hargs (fun b args h=>by cases h)).2;have ab:([enc x,enc y]++ub.toList).toArray = #[enc x,enc y]++ub:=by
        apply Array.ext'
        simp
       simp only [mZ,ab,ak g hg,Runs] at run;refine (callsIn_wide.1 run).mono ?_;rintro e O ⟨u,rfl,μ',hd⟩;obtain ⟨dv,dh,ds⟩:=hd;cases dv;refine ⟨by rw [U],O.drawn-W.drawn,O.heap.extract W.heap.size O.heap.size,?_⟩;exact GF ds.size (PZ T (fun b=>rfl) ds) ds.tape.1 (ds.tape.2 ao) ds.os ds.out
      have al:Holds enc w L.blk 0 (List.finRange (k+1)).toArray:=by
       intro j hj;have hj:j<k+1:=by simpa using hj
       have e1:(List.finRange (k+1)).toArray[j]! = ⟨j,hj⟩:=by
        simp [hj]
       rw [e1,V3,pM t];exact ⟨V ⟨j,hj⟩,by simp [World.frozen?,t]⟩
      have ah:=ay k enc d g ub L.blk cap w hg aq az hT ag al ae ad;refine rv E hb hn A (ah.mono ?_);rintro e w' ⟨rfl,m,os,rfl⟩;have am:((List.finRange (k+1)).mergeSort fun x y=>!(Ql d) y x)=kJ M (k+1):=by
       unfold kJ;congr 1
       funext x y
       rw [hlt]
      rw [am];obtain ⟨l,q⟩:∃ l,l=kJ M (k+1):=⟨_,rfl⟩
      have ap:l.length=k+1:=by rw [q]; unfold kJ; rw [Y4,Z8]
      rw [<- q];obtain ⟨p1,p2⟩:=iL (I:=sF) (e:=.cells (l.map fun i=>cs.getD i.val .undef) aB true) hH J rfl hL (putRow enc (Sort.ahead w m) L.blk 0 l.toArray) (fun c hc=>by
        show (w.heap.modify L.blk _)[c]? = _;rw [Xr,if_neg (Ne.symm hc)]) (by show (w.heap.modify L.blk _).size=_; simp) ⟨rfl,fun _=>VV _ _⟩ rfl rfl
       (fun f=>by
        refine ⟨putCells enc 0 l.toArray arr,(0,0),?_,by simp [putCells,a2],a3,by simp [putCells,ap]; omega,fun i c v hc r=>?_,fun _=>⟨X,rfl⟩,fun h=>by cases h⟩
        ·show (w.heap.modify L.blk _)[L.blk]? = _;rw [Xr,if_pos rfl,t]; rfl
        ·rw [Wg,Vu] at hc;obtain ⟨p,hp,rfl⟩:=hc;obtain ⟨hi,ar⟩:=VA.1 hp;have aA:v=enc p:=by
          simp only [putCells,Array.getElem?_mapIdx,Vu] at r;obtain ⟨z,hz,rfl⟩:=r;rw [if_pos ⟨Vz _,by simpa using hi⟩];congr 1;simp [hi,ar]
         rw [aA];exact (s p).mono (fun _ _ h=>h) (fun _ h=>h) f) rfl
      obtain ⟨r1,r2⟩:=HX p1 os;exact ⟨_,rfl,μ,.tup [] #[] rfl (fun i c v h=>by simp at h),r1,p2.trans r2⟩
     ·cases h
    ·cases h
   ·cases h
  ·cases h
 ·cases h
end
section
variable {P:Program} {μ:Mu} {F:Nat->Prop} {H:Heap} {w:World} {T:Tm} {a:Act} {B:Nat}
def Hd {tmps:Array Value} {r:ResultVar} {c:Nat × Option (Option Nat)} {v:AV} (hT:LR μ F w T tmps.toList) (hH:HR P μ F H w) (hr:Gd P r=some c) (h:oH T H c=some v) :
  ∃ u,((match r with | .tmp t=>pure (tmps.getD t undef) | .cell a t=>do loadVar t (<- asAddr (tmps.getD a undef)):Sem Value)).run P w=.ok u w/\VR μ F w v u:=by
 have hg:=fun t=>Jo (a:=⟨tmps,[]⟩) hT t;cases r with
 | tmp t=>cases hr; cases h; exact ⟨_,rfl,hg t⟩
 | cell a t =>
  simp only [Gd,Vj,Vf] at hr;obtain ⟨k,f,hr⟩:=hr;cases hr;simp only [oH] at h;have hx:=hg a;split at h
  ·rename_i b o e;rw [e] at hx;obtain ⟨L,hL,hp⟩:=Dq hx;split at h
   ·rename_i cs ty rw hb;obtain ⟨arr,fr,h1,h2,h3,g,h5,i,j⟩:=fU hH hb hL;obtain ⟨u,d,hr⟩:=DH (o:=o) (off:=0) h1 zO (by simpa using h5) f h;rw [V3] at d;simp only at hp;refine ⟨u,?_,hr⟩;simp only [Sem.run_bind,hp,asAddr,Sem.run_pure,Result.andThen_ok,d]
   ·cases h
  ·cases h
def sP {tmps:Array Value} (hT:LR μ F w T tmps.toList) (hH:HR P μ F H w):∀ (c:List ResultVar) (b:List (Nat × Option (Option Nat))) (vs:List AV),c.mapM (Gd P)=some b->b.mapM (oH T H)=some vs ->
  ∃ us:List Value,(c.mapM fun | .tmp t=>pure (tmps.getD t undef) | .cell a t=>do loadVar t (<- asAddr (tmps.getD a undef)):Sem (List Value)).run P w=.ok us w/\LR μ F w vs us
 | [],b,vs,h,h'=>by simp at h; subst h; simp at h'; subst h'; exact ⟨[],by simp,LR.nil⟩
 | r :: c,b,vs,h,h'=>by
  simp only [WY,XI,Vj,Vf] at h;obtain ⟨x,hx,xs,g,h⟩:=h;cases h;simp only [WY,XI,Vj,Vf] at h';obtain ⟨y,hy,j,i,h'⟩:=h';cases h';obtain ⟨u,e,hr⟩:=Hd hT hH hx hy;obtain ⟨us,f,d⟩:=sP hT hH c xs j g i;refine ⟨u :: us,?_,LR.cons hr d⟩;simp only [WY,Sem.run_bind,e,Result.andThen_ok,f,Sem.run_pure]
def BD {fn:Func} {tmps:Array Value} {b:List (Nat × Option (Option Nat))} {v:AV} (hT:LR μ F w T tmps.toList) (hH:HR P μ F H w) (d:fn.results.toList.mapM (Gd P)=some b) (h:cr T H b=some v) :
  ∃ u,(results fn tmps).run P w=.ok u w/\VR μ F w v u:=by
 simp only [cr,Vj,Vf] at h;obtain ⟨vs,k,h⟩:=h;obtain ⟨us,j,hr⟩:=sP hT hH _ _ _ d k;have hm:(fn.results.mapM fun | .tmp t=>pure (tmps.getD t undef) | .cell a t=>do loadVar t (<- asAddr (tmps.getD a undef)):Sem (Array Value)).run P w=.ok us.toArray w:=by
  rw [ZH];simp only [Sem.run_map,j,Result.andThen_ok]
 have f:(results fn tmps).run P w=.ok (if h:us.toArray.size=1 then us.toArray[0] else .tuple us.toArray) w:=by
  unfold results;simp only [Sem.run_bind];exact (congrArg (fun r:Result (Array Value)=>r.andThen fun a w'=>Sem.run P (pure (if h:a.size=1 then a[0] else Value.tuple a)) w') hm)
 refine ⟨_,f,?_⟩;split at h
 ·cases h
  match us,hr with
  | [u],hr=>exact hr.head
  | [],hr=>have:=hr.1; simp at this
  | _ :: _ :: _,hr=>have:=hr.1; simp at this
 ·rename_i hne;cases h;have hl:=hr.1;have h1:us.toArray.size≠1:=by
   intro e;simp at e
   match vs,hl with
   | [v],_=>exact hne v rfl
   | [],hl=>simp at hl; omega
   | _ :: _ :: _,hl=>simp at hl; omega
  rw [dif_neg h1];exact .tup _ _ (by simpa using hl) fun i c u hc g=>hr.2 i c u hc (by simpa using g)
def KY (hH:HR P μ F H w) {D:Nat} {o:Obj} (f:¬ F D) (hn:∀ b L,μ b=some L->L.blk≠D):HR P μ F H (w.putObj D o):=by
 have a:∀ c,c≠D->(w.putObj D o).heap[c]? = w.heap[c]?:=fun c hc=>World.putObj_heap_other hc;have i:(w.putObj D o).heap.size=w.heap.size:=by simp [World.putObj]
 refine ⟨fun b L hb=>?_,fun c hc=>?_,fun b e hb=>?_,hH.inj,fun g cs hg=>(hH.gl g cs hg).mono (fun _ _ h=>h) (fun _ h=>h) fun c hc=>a c fun e=>f (e ▸ hc)⟩
 ·rw [i]; exact hH.dom b L hb
 ·rw [i]; exact hH.fb c hc
 ·obtain ⟨L,hL,d⟩:=hH.ent b e hb;exact ⟨L,hL,d.mono (fun _ _ h=>h) (fun _ h=>h) (fun c hc=>a c fun e=>f (e ▸ hc)) (a _ (hn b L hL)) (fun hr=>d.notF hr)⟩
def uS {fn:Func} {tmps:Array Value} {i:List (Nat × Option (Option Nat))} {v:AV} {μ0:Mu} {H0:Heap} {w0:World} (n:Nat) (l:fn.results.toList.mapM (Gd P)=some i) (o:cr T H i=some v) :
  ∀ (Ds:List Nat) (w:World),Ds.Nodup->(∀ D∈Ds,w0.heap.size<=D/\D<w.heap.size/\w.heap[D]? = some (.deferred (some []))/\¬ F D/\∀ b L,μ b=some L->L.blk≠D) ->
   LR μ F w T tmps.toList->HR P μ F H w->Stp sF P μ0 F H0 w0 μ F H w ->
   LeavesInM Fence.wide n P fn tmps (fun e w'=>∃ u,e=.returned u/\∃ μ',iu sF P μ0 F H0 w0 v H u w' μ') (Ds.map fun D=>{ target:=.collected D,args:=#[] }) .returning w
 | [],w,_,_,hT,hH,a=>by
  obtain ⟨u,r,hr⟩:=BD hT hH l o;exact ⟨u,r,u,rfl,μ,hr,hH,a⟩
 | D :: Ds,w,d,hD,hT,hH,a=>by
  obtain ⟨y,z,p,j,q⟩:=hD D (Vt ..);have d:=XX.1 d;have f:∀ c,c≠D->(w.putObj D (.deferred none)).heap[c]? = w.heap[c]?:=fun c hc=>World.putObj_heap_other hc;have m:(w.putObj D (.deferred none)).heap.size=w.heap.size:=by simp [World.putObj]
  refine ⟨fun e=>(by cases e),.inl ⟨D,_,rfl,run_takeDeferred p,?_⟩⟩;refine uS n l o Ds _ d.2 (fun g k=>?_) (hT.mono (fun _ _ h=>h) (fun _ h=>h) fun c hc=>f c fun e=>j (e ▸ hc)) (KY hH j q) ?_
  ·obtain ⟨k1,k2,s,t,x⟩:=hD g (Vn _ k);exact ⟨k1,by rw [m]; exact k2,by rw [f g fun e=>d.1 (e ▸ k)]; exact s,t,x⟩
  ·exact ⟨a.mu,a.fr,by rw [m]; exact a.size,fun c hc hn=>by rw [f c zO]; exact a.keep c hc hn,a.rw,a.next,a.new,a.rng,a.old,a.alv,a.tape.trans (Tp.same rfl rfl),a.os,a.out⟩
def Dk {μ:Mu} {F:Nat->Prop} {w:World} (n:Nat):LR μ F w (List.replicate n .undef) (List.replicate n undef):=by
 induction n with
 | zero=>exact LR.nil
 | succ n a=>exact LR.cons (.undef _) a
def qB {cal:oy} (p:nG P cal) (r:P.follows .mixedOrders=true) {m:Nat} {f:Nat} {fn:Func} {afn:au} {args:List AV} {v:AV} {H':Heap} (q:P.funcs[f]? = some fn) (hb:fn.body.isSome=true) (o:∀ c,fn.body=some c->bB P c=some afn.body)
  (k:fn.results.toList.mapM (Gd P)=some afn.results) (s:afn.ntmps=fn.ntmps)
  (h:zI cal m afn args H=some (v,H')) {vs:List Value} (i:LR μ F w args vs) (hH:HR P μ F H w) (n:Nat) {fence:Fence} {rd:Bool} (j:FenceOK fence rd) :
  CallsIn fence n P f vs.toArray w fun e w'=>∃ u,e=.returned u/\∃ μ',iu sF P μ F H w v H' u w' μ':=by
 have key:CallsIn Fence.wide n P f vs.toArray w fun e w'=>∃ u,e=.returned u/\∃ μ',iu sF P μ F H w v H' u w' μ':=by
  obtain ⟨c,hc⟩:=YL.1 hb;unfold zI at h;split at h
  ·have y:Me P (w.heap.size,[]) μ F H w (args++List.replicate (afn.ntmps-args.length) .undef) { tmps:=vs.toArray++Array.replicate (fn.ntmps-vs.toArray.size) undef,defers:=[] }:=by
    refine ⟨?_,hH,DM.nil⟩;have hl:=i.1;simp only [Array.toList_append,Array.toList_replicate,XV];rw [<- hl,s];exact i.append (Dk _)
   refine callsIn_of_wp_marks q hc trivial ?_;have fin:∀ (x:Ex) (T1:Tm) (a:Heap),(x=.nrm\/x=.ret)->aI cal m false afn.body (args++List.replicate (afn.ntmps-args.length) .undef) H=some (x,T1,a)->(cr T1 a afn.results).map (fun v=>(v,a))=some (v,H') ->
     c.wpIn Fence.wide n P (bodyPostM Fence.wide n P fn fun e w'=>∃ u,e=.returned u/\∃ μ',iu sF P μ F H w v H' u w' μ') { tmps:=vs.toArray++Array.replicate (fn.ntmps-vs.toArray.size) undef,defers:=[] } w:=by
    intro x T1 a hx b d;simp only [Vu] at d;obtain ⟨A,z,d⟩:=d;cases d;refine rr p r c afn.body (o c hc) _ _ _ _ _ b Fence.wide n (w.heap.size,[]) μ F w _ _ (.inl ⟨rfl,rfl⟩) (Vo _) y fun a' w' μ' g t=>?_;obtain ⟨Ds,e1,e2,e3⟩:=g.hD;have e1:a'.defers=Ds.map (fun D=>({ target:=.collected D,args:=#[] }:Deferred)):=e1.trans (Wv _)
    have:=uS (tmps:=a'.tmps) (fn:=fn) n k z Ds w' e2 e3 g.hT g.hH t
    rw [<- e1] at this;rcases hx with rfl | rfl <;> exact this
   split at h
   ·rename_i T1 a b; exact fin .nrm T1 a (.inl rfl) b h
   ·rename_i T1 a b; exact fin .ret T1 a (.inr rfl) b h
   ·cases h
  ·cases h
 rcases j with ⟨_,rfl⟩ | ⟨_,l,rfl⟩
 ·exact key
 ·exact key
def O8 (P:Program) (f:Nat) (e:Ext):Prop:=∀ H args v H',u3 H e args=some (v,H')->∀ (μ:Mu) (F:Nat->Prop) (w:World) (vs:List Value) (fence:Fence) (rd:Bool) (n:Nat),FenceOK fence rd->HR P μ F H w->LR μ F w args vs ->
 Runs fence n P ((callFunc f vs.toArray).run P w) fun u w'=>∃ μ',iu sF P μ F H w v H' u w' μ'
def ExtOK (P:Program) (f:Nat):Ext->Prop
 | .sortF _ gs=>Iz P f gs
 | e=>O8 P f e
def ExtOK.old {P:Program} {f:Nat} {e:Ext} (h:ExtOK P f e) (hn:∀ ty gs,e ≠ .sortF ty gs):O8 P f e:=by
 cases e <;> first | exact h | exact absurd rfl (hn _ _)
def JO (P:Program) (tab:Nat->Option au):Prop:=∀ f afn,tab f=some afn->(∀ e,afn.ext=some e->ExtOK P f e)/\((∀ e,afn.ext=some e->e.code=true)->∃ fn,P.funcs[f]? = some fn/\SF P fn=some afn)
def Ed {fn:Func} {afn:au} (h:SF P fn=some afn) (he:afn.ext=none):fn.body.isSome=true ∧ (∀ c,fn.body=some c → bB P c=some afn.body) ∧ fn.results.toList.mapM (Gd P)=some afn.results ∧ afn.ntmps=fn.ntmps ∧ fn.name ≠ "runtime.NumGoroutine":=by
 unfold SF at h;split at h
 ·cases h; cases he
 split at h
 ·cases h; cases he
 split at h
 ·simp only [Vj,Vf] at h;obtain ⟨t,i,d,hd,h⟩:=h;split at h
  ·simp only [Vf] at h;obtain ⟨n,hn,b,hb,h⟩:=h;cases h; cases he
  ·cases h
 ·simp only [Vj,Vf] at h;obtain ⟨b,hb,h⟩:=h;split at h
  ·cases h
  ·rename_i e;simp only [Vf] at h;obtain ⟨j,f,c,hc,h⟩:=h;cases h;exact ⟨by simp [hb],fun g a=>by rw [hb] at a; cases a; exact hc,f,rfl,e⟩
def E8 {μ:Mu} {F:Nat->Prop} {w:World}:∀ (ps:List Nat) (args:List AV) (vs:List Value) (T:Tm) (tm:Array Value),LR μ F w args vs->LR μ F w T tm.toList ->
  LR μ F w (oI T (ps.zip args)) ((ps.zip vs).foldl (fun (t:Array Value) (p:Nat × Value)=>t.setIfInBounds p.1 p.2) tm).toList
 | [],args,vs,T,tm,_,h=>by simpa [oI] using h
 | p :: ps,[],[],T,tm,_,h=>by simpa [oI] using h
 | p :: ps,[],_ :: _,T,tm,h,_=>by have:=h.1; simp at this
 | p :: ps,_ :: _,[],T,tm,h,_=>by have:=h.1; simp at this
 | p :: ps,a :: args,v :: vs,T,tm,hl,h=>by
  simp only [List.zip_cons_cons,oI,Wn];exact E8 ps args vs _ _ hl.tail (by rw [Yz]; exact h.set p hl.head)
def sq {f:Nat} {fn:Func} (a:P.funcs[f]? = some fn) (hb:fn.body.isSome=true) (hn:fn.name ≠ "runtime.NumGoroutine") (args:Array Value) (w:World):(callFunc f args).run P w=.ok (.enter f args) w:=by
 obtain ⟨c,hc⟩:=YL.1 hb;simp [callFunc,a,hn,hc]
structure Shut (Ds:List Nat) (w w':World):Prop where
 other:∀ c,c ∉ Ds->w'.heap[c]? = w.heap[c]?
 size:w'.heap.size=w.heap.size
 tape:Tp w w'
 os:w'.os=w.os
 out:w'.output=w.output
def Shut.nil (w:World):Shut [] w w:=⟨fun _ _=>rfl,rfl,Tp.same rfl rfl,rfl,rfl⟩
def Shut.cons {D:Nat} {Ds:List Nat} {w w':World} (h:Shut Ds (w.putObj D (.deferred none)) w'):Shut (D :: Ds) w w' :=
 ⟨fun c hc=>(h.other c fun hm=>hc (Vn _ hm)).trans (World.putObj_heap_other fun e=>hc (e ▸ Vt ..)),h.size.trans (by simp [World.putObj]),(Tp.same rfl rfl).trans h.tape,h.os,h.out⟩
def Shut.hr {Ds:List Nat} {w w':World} (h:Shut Ds w w') (hH:HR P μ F H w) (hD:∀ D∈Ds,¬ F D/\∀ b L,μ b=some L->L.blk≠D):HR P μ F H w':=by
 have d:∀ c,F c->w'.heap[c]? = w.heap[c]?:=fun c hc=>h.other c fun hm=>(hD c hm).1 hc;refine ⟨fun b L hb=>?_,fun c hc=>?_,fun b e hb=>?_,hH.inj,fun g cs hg=>(hH.gl g cs hg).mono (fun _ _ h=>h) (fun _ h=>h) d⟩
 ·rw [h.size]; exact hH.dom b L hb
 ·rw [h.size]; exact hH.fb c hc
 ·obtain ⟨L,hL,a⟩:=hH.ent b e hb;exact ⟨L,hL,a.mono (fun _ _ h=>h) (fun _ h=>h) d (h.other _ fun hm=>(hD _ hm).2 b L hL rfl) (fun hr=>a.notF hr)⟩
def Shut.lr {Ds:List Nat} {w w':World} {as:List AV} {vs:List Value} (h:Shut Ds w w') (hl:LR μ F w as vs) (hD:∀ D∈Ds,¬ F D):LR μ F w' as vs :=
 hl.mono (fun _ _ h=>h) (fun _ h=>h) fun c hc=>h.other c fun hm=>hD c hm hc
def Shut.stp {Ds:List Nat} {w0 w w':World} {μ0:Mu} {H0:Heap} (h:Shut Ds w w') (a:Stp sF P μ0 F H0 w0 μ F H w) (hD:∀ D∈Ds,w0.heap.size<=D):Stp sF P μ0 F H0 w0 μ F H w' :=
 ⟨a.mu,a.fr,by rw [h.size]; exact a.size,fun c hc hn=>(h.other c fun hm=>by have:=hD c hm; omega).trans (a.keep c hc hn),a.rw,a.next,a.new,a.rng,a.old,a.alv,a.tape.trans h.tape,h.os.trans a.os,h.out.trans a.out⟩
def EZ {tab:Nat->Option au} {m:Nat} (y:P.follows .mixedOrders=true) (ad:JO P tab) {cal:oy} {pc:L8} (aD:IA P pc) (q:nG P cal):nG P (jx tab pc cal m):=by
 intro t H v H' h μ F w vs fence rd k n hH hl ay;cases t with
 | fn f args =>
  simp only [jx] at h;split at h
  ·cases h
  ·rename_i afn C;obtain ⟨t1,M⟩:=ad f afn C;refine ⟨fun f args e=>(by cases e),?_⟩;split at h
   ·rename_i ty gs he;exact EQ q (t1 _ he) h n hH hl k
   ·rename_i e hn he;exact (t1 e he).old hn H args v H' h μ F w vs fence rd k n hH hl
   ·rename_i he;obtain ⟨fn,i,D⟩:=M fun e h=>by rw [he] at h; cases h
    obtain ⟨k1,k2,J,K,z⟩:=Ed D he;simp only [mZ,sq i k1 z,Runs];exact qB q y i k1 k2 J K h hl hH k n
 | ent f args =>
  simp only [jx] at h;split at h
  ·cases h
  ·rename_i afn C;obtain ⟨t1,M⟩:=ad f afn C;split at h
   ·cases h
   ·rename_i he;obtain ⟨fn,i,D⟩:=M fun e h=>by rw [he] at h; cases h
    obtain ⟨k1,k2,J,K,z⟩:=Ed D he;refine ⟨fun f' aA e=>by cases e; exact sq i k1 z _ _,?_⟩;simp only [mZ,sq i k1 z,Runs];exact qB q y i k1 k2 J K h hl hH k n
 | round b args =>
  refine ⟨fun f args e=>(by cases e),?_⟩;obtain ⟨L,hL⟩:=ay b args rfl;simp only [jx] at h;split at h
  ·rename_i T0 ps ag body hb;split at h
   ·rename_i aB;obtain ⟨L',W,hE⟩:=hH.ent b _ hb;rw [hL] at W; cases W;obtain ⟨aC,r,g1,g2,g3,U,g5,g6,V⟩:=hE;have aE:r.pending=none:=by
     cases hp:r.pending with
     | none=>rfl
     | some c=>rw [hp] at V; exact V.elim
    have hargs:vs.toArray.size=r.params.size:=by
     have h1:=hl.1;simp only [Task.args] at h1;have h2:r.params.size=ps.length:=by rw [<- U]; simp
     simp; omega
    simp only [mZ,hL,run_yield g1 hargs,Runs];split at h
    ·rename_i T1 H1 am;split at h
     ·rename_i N ae Q S aa;split at h
      ·rename_i x T2 H2 ao;split at h
       ·rename_i O af R T ab;have key:RoundIn Fence.wide k P L.blk r.fn ((r.params.zip vs.toArray).foldl (fun tmps (t,a)=>tmps.setIfInBounds t a) r.tmps) r.assign r.body w fun e w'=>∃ u,e=.returned u/\∃ μ',iu sF P μ F H w v H' u w' μ':=by
         have ap:((r.params.zip vs.toArray).foldl (fun tmps (t,a)=>tmps.setIfInBounds t a) r.tmps)=(ps.zip vs).foldl (fun (t:Array Value) (p:Nat × Value)=>t.setIfInBounds p.1 p.2) r.tmps:=by
          rw [<- Array.foldl_toList,Array.toList_zip,U]
         rw [ap];refine roundIn_of_wpIn trivial ?_;have az:Me P (w.heap.size,[]) μ F H w (oI T0 (ps.zip args)) { tmps:=(ps.zip vs).foldl (fun (t:Array Value) (p:Nat × Value)=>t.setIfInBounds p.1 p.2) r.tmps,defers:=[] } :=
          ⟨E8 ps args vs T0 r.tmps hl g3,hH,DM.nil⟩
         refine rr q y r.assign ag g5 _ _ _ _ _ am (Fence.wide.inRound L.blk) k (w.heap.size,[]) μ F w _ _ (.inr ⟨rfl,_,rfl⟩) (Vo _) az fun a1 w1 μ1 o j=>?_;obtain ⟨L1,X,ah⟩:=o.hH.ent b _ aa;rw [j.mu _ _ hL] at X; cases X;obtain ⟨av,r1,q1,q2,q3,q4,q5,q6,q7⟩:=ah;have aq:=(Wz.1 q1).1;refine ⟨_,run_beginRound q1 q2,?_⟩;obtain ⟨ak,s⟩:=iL (I:=sF) (e:=.loop N ae Q S .busy none) o.hH aa rfl (j.mu _ _ hL) (w1.putObj L.blk (.loop { r1 with state:=.busy })) (fun c hc=>World.putObj_heap_other hc) (by simp [World.putObj]) (Tp.same rfl rfl) rfl rfl
          (fun G=>⟨av,_,World.putObj_heap_same aq,rfl,q3.mono (fun _ _ h=>h) (fun _ h=>h) G,q4,q5,q6,q7⟩) rfl
         have al:Me P (w.heap.size,[]) μ1 F (H1.put b (.loop N ae Q S .busy none)) (w1.putObj L.blk (.loop { r1 with state:=.busy })) T1 a1:=⟨s.lr o.hH o.hT,ak,o.hD.stp s⟩
         refine rr q y r.body body g6 _ _ _ _ _ ao (Fence.wide.inRound L.blk) k (w.heap.size,[]) μ1 F _ _ _ (.inr ⟨rfl,_,rfl⟩) (VB j.size s.size) al fun a2 w2 μ2 Z E=>?_;obtain ⟨L2,Y,ai⟩:=Z.hH.ent b _ ab;rw [E.mu _ _ (j.mu _ _ hL)] at Y; cases Y;obtain ⟨ax,r2,s1,s2,s3,s4,s5,s6,s7⟩:=ai;have ar:=(Wz.1 s1).1;have fin:∀ (d:Option Code) (st:LoopState) (A:Option ACode) (B:Bool),(if d.isNone then LoopState.ready else .done)=st->d.isNone=B->(match A,d with | none,none=>True | some c,some c'=>bB P c'=some c | _,_=>False) ->
           some (AV.bool B,H2.put b (.loop O af R T st A))=some (v,H') ->
           ∃ u w',(Instr.endRound L.blk d).run P w2=.ok u w'/\∃ u',Ending.returned u=.returned u'/\∃ μ',iu sF P μ F H w v H' u' w' μ':=by
          intro d st A B e1 e2 e3 e4;cases e4;subst e2;refine ⟨_,_,run_endRound d s1,_,rfl,μ2,?_⟩;obtain ⟨z1,z2⟩:=iL (I:=sF) (e:=.loop O af R T st A) Z.hH ab rfl (E.mu _ _ (j.mu _ _ hL)) (w2.putObj L.blk (.loop { r2 with state:=if d.isNone then .ready else .done,pending:=d })) (fun c hc=>World.putObj_heap_other hc) (by simp [World.putObj]) (Tp.same rfl rfl) rfl rfl
           (fun G=>⟨ax,_,World.putObj_heap_same ar,e1,s3.mono (fun _ _ h=>h) (fun _ h=>h) G,s4,s5,s6,e3⟩) rfl
          exact ⟨.bool _,z1,((j.trans s).trans E).trans z2⟩
         cases x with
         | nrm=>exact fin none .ready none true rfl rfl trivial h
         | ret=>exact fin (some .ret) .done (some .ret) false rfl rfl rfl h
         | exit id=>exact fin (some (.exit id)) .done (some (.exit id)) false rfl rfl rfl h
         | goto g=>exact fin (some (.goto g)) .done (some (.goto g)) false rfl rfl rfl h
        rcases n with ⟨_,rfl⟩ | ⟨_,l,rfl⟩
        ·exact key
        ·exact key
       ·cases h
      ·cases h
     ·cases h
    ·cases h
   ·cases h
  ·cases h
def zJ {tab:Nat->Option au} {m:Nat} {d:L8} (b:IA P d) (a:P.follows .mixedOrders=true) (c:JO P tab):∀ n,nG P (lu tab d m n)
 | 0=>fun t H v H' h=>by cases h
 | n+1=>EZ a c b (zJ b a c n)
end
section
variable {α:Type} (Good:Nat->α->Prop)
def G0 (f:Nat):Option α->Prop
 | none=>True
 | some a=>Good f a
def G1 (f:Nat) (q:Q (Option α)):Prop:=G0 Good (8*f) q.a/\G0 Good (8*f+1) q.b/\G0 Good (8*f+2) q.c/\G0 Good (8*f+3) q.d/\G0 Good (8*f+4) q.e/\G0 Good (8*f+5) q.f/\G0 Good (8*f+6) q.g/\G0 Good (8*f+7) q.h
def G2 (f:Nat) (q:Q (Q (Option α))):Prop:=G1 Good (8*f) q.a/\G1 Good (8*f+1) q.b/\G1 Good (8*f+2) q.c/\G1 Good (8*f+3) q.d/\G1 Good (8*f+4) q.e/\G1 Good (8*f+5) q.f/\G1 Good (8*f+6) q.g/\G1 Good (8*f+7) q.h
def G3 (f:Nat) (q:Q (Q (Q (Option α)))):Prop:=G2 Good (8*f) q.a/\G2 Good (8*f+1) q.b/\G2 Good (8*f+2) q.c/\G2 Good (8*f+3) q.d/\G2 Good (8*f+4) q.e/\G2 Good (8*f+5) q.f/\G2 Good (8*f+6) q.g/\G2 Good (8*f+7) q.h
def G4 (f:Nat) (q:Q (Q (Q (Q (Option α))))):Prop:=G3 Good (8*f) q.a/\G3 Good (8*f+1) q.b/\G3 Good (8*f+2) q.c/\G3 Good (8*f+3) q.d/\G3 Good (8*f+4) q.e/\G3 Good (8*f+5) q.f/\G3 Good (8*f+6) q.g/\G3 Good (8*f+7) q.h
variable {Good}
end
def Tr.nil_get0 (b:Nat):Tr.nil.get b=none:=by
 have:∀ {α:Type} (d:D8) (x:α),Q.at d (Q.all x)=x:=fun d x=>by cases d <;> rfl
 unfold Tr.get Tr.nil;cases Nat.ble b 16777215 with
 | false=>rfl
 | true=>simp only [this]
def Tr.nil_get (n b:Nat):Heap.get (Heap.nil n) b=none:=by
 have h:Nat.ble (Nat.succ b) 0=false:=rfl;unfold Heap.nil Heap.get;simp only [h];exact Tr.nil_get0 b
def Gt (P:Program) (f:Nat) (afn:au):Prop:=(∀ e,afn.ext=some e->ExtOK P f e)/\((∀ e,afn.ext=some e->e.code=true)->∃ fn,P.funcs[f]? = some fn/\SF P fn=some afn)
def Na {P:Program} {f:Nat} {fn:Func} {afn:au} (a:P.funcs[f]? = some fn) (hc:SF P fn=some afn) (he:afn.ext.isNone=true):Gt P f afn:=by
 refine ⟨fun e h=>?_,fun _=>⟨fn,a,hc⟩⟩;rw [h] at he; cases he
def rR {P:Program} {f:Nat} {afn:au} {e:Ext} (he:afn.ext=some e) (hx:e.code=false) (h:ExtOK P f e):Gt P f afn:=by
 refine ⟨fun e' h'=>?_,fun h'=>?_⟩
 ·rw [he] at h'; cases h'; exact h
 ·have:=h' e he; rw [hx] at this; cases this
def Dc:Array Value->Sem Value:=fun args=>do
 let (x,y,b) ← Extern.MathBitsCarry.three "Sub64" args
 pure (Extern.MathBitsCarry.pair ((x+Extern.MathBitsCarry.m64-y-b) % Extern.MathBitsCarry.m64) (if x<y+b then 1 else 0))
def EY {P:Program} (x y b:Nat) (hb:b<=1) (w:World) :
  (Dc #[.int .u64 x,.int .u64 y,.int .u64 b]).run P w =
   .ok (.tuple #[.int .u64 (((x+18446744073709551616-y-b) % 18446744073709551616:Nat):Int),.int .u64 ((if x<y+b then 1 else 0:Nat):Int)]) w:=by
 have:b=0\/b=1:=zO
 rcases this with rfl | rfl <;> rfl
def zm {μ:Mu} {F:Nat->Prop} {w:World} {vs:List Value} {a b c:Int} {k1 k2 d:IntKind} (h:LR μ F w [.int k1 a,.int k2 b,.int d c] vs):vs=[.int k1 a,.int k2 b,.int d c]:=by
 have hl:=h.1
 match vs,hl with
 | [x,y,z],_ =>
  have h1:=h.2 0 _ x rfl rfl;have h2:=h.2 1 _ y rfl rfl;have h3:=h.2 2 _ z rfl rfl;cases h1; cases h2; cases h3; rfl
def Cu {P:Program} {μ:Mu} {F:Nat->Prop} {H:Heap} {w:World} {v:AV} {u:Value} (hH:HR P μ F H w) (a:VR μ F w v u):iu sF P μ F H w v H u w μ :=
 ⟨a,hH,Stp.refl _ _ _ _ _ _⟩
def QR {H H':Heap} {args:List AV} {v:AV} (h:u3 H .add64 args=some (v,H')):∃ x y c:Nat,args=[.int .u64 (.ofNat x),.int .u64 (.ofNat y),.int .u64 (.ofNat c)]/\c<=1/\v=.tup [.int .u64 (.ofNat ((x+y+c) % 2^64)),.int .u64 (.ofNat ((x+y+c) / 2^64))]/\H'=H:=by
 unfold u3 at h;split at h
 all_goals first | contradiction | skip
 ·split at h
  ·rename_i x y c _ hc;cases h;exact ⟨x,y,c,rfl,hc,rfl,rfl⟩
  ·cases h
 all_goals cases h
def PU {H H':Heap} {args:List AV} {v:AV} (h:u3 H .sub64 args=some (v,H')):∃ x y c:Nat,args=[.int .u64 (.ofNat x),.int .u64 (.ofNat y),.int .u64 (.ofNat c)]/\c<=1/\v=.tup [.int .u64 (.ofNat ((x+2^64-y-c) % 2^64)),.int .u64 (.ofNat (if x<y+c then 1 else 0))]/\H'=H:=by
 unfold u3 at h;split at h
 all_goals first | contradiction | skip
 ·split at h
  ·rename_i x y c _ hc;cases h;exact ⟨x,y,c,rfl,hc,rfl,rfl⟩
  ·cases h
 all_goals cases h
def IV {μ:Mu} {F:Nat->Prop} {w:World} (a b:Int):VR μ F w (.tup [.int .u64 a,.int .u64 b]) (.tuple #[.int .u64 a,.int .u64 b]):=by
 refine .tup _ _ rfl fun i d u hi c=>?_
 have:i=0\/i=1\/2<=i:=zO
 rcases this with rfl | rfl | h2
 ·simp at hi c; subst hi; subst c; exact .int _ _
 ·simp at hi c; subst hi; subst c; exact .int _ _
 ·rw [VS (by simpa using h2)] at hi; cases hi
def FM {P:Program} {f:Nat} {fn:Func} (b:P.funcs[f]? = some fn) (h1:(fn.name == "runtime.NumGoroutine")=false) (h2:fn.body.isNone=true) (h3:Extern.findNext fn=none) (a:Extern.find fn=some add64Entry):ExtOK P f .add64:=by
 intro H args v H' h μ F w vs fence rd n d hH hl;obtain ⟨x,y,c,rfl,hc,rfl,rfl⟩:=QR h
 have:=zm hl
 subst this;have key:(add64Entry #[.int .u64 (.ofNat x),.int .u64 (.ofNat y),.int .u64 (.ofNat c)]).run P w=.ok (.tuple #[.int .u64 (.ofNat ((x+y+c) % 2^64)),.int .u64 (.ofNat ((x+y+c) / 2^64))]) w:=by
  refine (run_add64 (x:Int) (y:Int) (c:Int) zO zO zO zO w).trans ?_;have e1:((x:Int)+y+c) % 18446744073709551616=Int.ofNat ((x+y+c) % 2^64):=by rw [Z9]; omega
  have e2:((x:Int)+y+c) / 18446744073709551616=Int.ofNat ((x+y+c) / 2^64):=by rw [Z9]; omega
  rw [e1,e2]
 rw [run_callFunc_extern b h1 h2 h3 a,key];exact ⟨μ,Cu hH (IV _ _)⟩
def FL {P:Program} {f:Nat} {fn:Func} (b:P.funcs[f]? = some fn) (h1:(fn.name == "runtime.NumGoroutine")=false) (h2:fn.body.isNone=true) (h3:Extern.findNext fn=none) (a:Extern.find fn=some Dc):ExtOK P f .sub64:=by
 intro H args v H' h μ F w vs fence rd n d hH hl;obtain ⟨x,y,c,rfl,hc,rfl,rfl⟩:=PU h
 have:=zm hl
 subst this;have key:(Dc #[.int .u64 (.ofNat x),.int .u64 (.ofNat y),.int .u64 (.ofNat c)]).run P w=.ok (.tuple #[.int .u64 (.ofNat ((x+2^64-y-c) % 2^64)),.int .u64 (.ofNat (if x<y+c then 1 else 0))]) w :=
  EY x y c hc w
 rw [run_callFunc_extern b h1 h2 h3 a,key];exact ⟨μ,Cu hH (IV _ _)⟩
def GlobW (w:World):Prop:=∀ g cs,Ma g=some cs->VR (fun _=>none) (fun c=>(Ma c).isSome=true) w (.dp cs 0) (.pointer (some ⟨g,0,none⟩))
def Nf {P:Program} {w:World} (a:GlobW w):HR P (fun _=>none) (fun c=>(Ma c).isSome=true) (Heap.nil 0) w:=by
 refine ⟨fun b L h=>(by cases h),fun c h=>?_,fun b e h=>?_,fun b b' e e' L L' h=>?_,a⟩
 ·cases hc:Ma c with
  | none=>rw [hc] at h; cases h
  | some cs =>
   have:=a c cs hc
   cases this with
   | dp _ _ _ _ _ _ _ _ hb _ _=>exact (Wz.1 hb).1
 ·rw [Tr.nil_get] at h; cases h
 ·rw [Tr.nil_get] at h; cases h
def eZ:L8:=fun _ _=>none
def UJ (tab:Nat->Option au) (t:Task) (H:Heap) (v:AV) (H':Heap):Prop:=∃ N,∀ m n,N<=m->N<=n->lu tab eZ m n t H=some (v,H')
def Ans (tab:Nat->Option au) (t:Task) (H:Heap) (Q:AV->Heap->Prop):Prop:=∃ v H',UJ tab t H v H'/\Q v H'
def O9 (tab:Nat->Option au) (rd:Bool) (c:ACode) (T:Tm) (H:Heap) (x:Ex) (T':Tm) (H':Heap):Prop:=∃ N,∀ m n,N<=m->N<=n->aI (lu tab eZ m n) m rd c T H=some (x,T',H')
def Ans.mono {tab:Nat->Option au} {t:Task} {H:Heap} {Q a:AV->Heap->Prop} (h:Ans tab t H Q) (b:∀ v H',Q v H'->a v H'):Ans tab t H a:=by
 obtain ⟨v,H',hb,h⟩:=h;exact ⟨v,H',hb,b v H' h⟩
section
variable (tab:Nat->Option au)
def iC (ev:Src->AV) (H:Heap) (id:Nat) (o:AOp) (Q:AV->Heap->Prop):Prop :=
 match o with
 | .call f args=>∃ t,iD (ev f) (args.map ev)=some t/\Ans tab t H Q
 | o=>match aN ev o with
  | some v=>Q v H
  | none=>match bg ev H id o with
   | some (v,H')=>Q v H'
   | none=>False
def xF:Nat->List Eo->Tm->Heap->(Tm->Heap->Prop)->Prop
 | _,[],T,H,Q=>Q T H
 | id,o :: os,T,H,Q =>
  match cg T o.guard with
  | some true=>iC tab (Src.ev T) H id o.op fun v H'=>xF (id+1) os (putT T o.dst v) H' Q
  | some false=>xF (id+1) os (putT T o.dst (.tup [])) H Q
  | none=>False
def UT (rd:Bool):ACode->Tm->Heap->(Ex->Tm->Heap->Prop)->Prop
 | .skip,T,H,Q=>Q .nrm T H
 | .region ops,T,H,Q=>xF tab H.next ops T { H with next:=H.next+ops.length } (Q .nrm)
 | .seq a b,T,H,Q=>UT rd a T H fun x T' H'=>match x with
  | .nrm=>UT rd b T' H' Q
  | x=>Q x T' H'
 | .cond c a b,T,H,Q=>match c.ev T with
  | .bool true=>UT rd a T H Q
  | .bool false=>UT rd b T H Q
  | _=>False
 | .block id body,T,H,Q=>UT rd body T H fun x T' H'=>match x with
  | .exit d=>if d=id then Q .nrm T' H' else Q (.exit d) T' H'
  | x=>Q x T' H'
 | .exit id,T,H,Q=>Q (.exit id) T H
 | .goto l,T,H,Q=>Q (.goto l) T H
 | .ret,T,H,Q=>Q .ret T H
 | .scope a,T,H,Q=>UT rd a T H fun x T' H'=>match x with
  | .goto _=>False
  | x=>Q x T' H'
 | c,T,H,Q=>∃ x T' H',O9 tab rd c T H x T' H'/\Q x T' H'
end
section
variable {tab:Nat->Option au}
def l8 {T:Tm} {H:Heap} {id:Nat} {o:AOp} {Q:AV->Heap->Prop} (h:iC tab (Src.ev T) H id o Q):∃ v H',Q v H'/\∃ N,∀ m n,N<=m->N<=n->Ab (lu tab eZ m n) (Src.ev T) H id o=some (v,H'):=by
 have other:∀ (hc:∀ f args,o ≠ .call f args) (h:match aN (Src.ev T) o with | some v=>Q v H | none=>match bg (Src.ev T) H id o with | some (v,H')=>Q v H' | none=>False),
   (∀ cal,Ab cal (Src.ev T) H id o=match aN (Src.ev T) o with | some v=>some (v,H) | none=>bg (Src.ev T) H id o)->∃ v H',Q v H'/\∃ N,∀ m n,N<=m->N<=n->Ab (lu tab eZ m n) (Src.ev T) H id o=some (v,H'):=by
  intro hc h e;split at h
  ·rename_i v a;refine ⟨v,H,h,0,fun m n _ _=>?_⟩;rw [e,a]
  ·rename_i a;split at h
   ·rename_i v H' hh;refine ⟨v,H',h,0,fun m n _ _=>?_⟩;rw [e,a]; exact hh
   ·exact h.elim
 cases o
 case call f args =>
  obtain ⟨t,d,v,H',⟨N,b⟩,c⟩:=h;refine ⟨v,H',c,N,fun m n hm hn=>?_⟩;simp only [Ab,d,Vj,WR];exact b m n hm hn
 all_goals exact other (fun f args e=>by cases e) h (fun cal=>rfl)
def qi:∀ (ops:List Eo) (id:Nat) (T:Tm) (H:Heap) (Q:Tm->Heap->Prop),xF tab id ops T H Q->∃ T' H',Q T' H'/\∃ N,∀ m n,N<=m->N<=n->yF (lu tab eZ m n) id ops T H=some (T',H')
 | [],id,T,H,Q,h=>⟨T,H,h,0,fun _ _ _ _=>rfl⟩
 | o :: os,id,T,H,Q,h=>by
  unfold xF at h;split at h
  ·rename_i d;obtain ⟨v,g,h1,e,f⟩:=l8 h;obtain ⟨T',H',c,a,b⟩:=qi os _ _ _ _ h1;refine ⟨T',H',c,e+a,fun m n hm hn=>?_⟩;unfold yF;rw [d];simp only;rw [f m n zO zO];exact b m n zO zO
  ·rename_i d;obtain ⟨T',H',c,a,b⟩:=qi os _ _ _ _ h;refine ⟨T',H',c,a,fun m n hm hn=>?_⟩;unfold yF;rw [d];exact b m n hm hn
  ·exact h.elim
def eH {rd:Bool}:∀ (c:ACode) (T:Tm) (H:Heap) (Q:Ex->Tm->Heap->Prop),UT tab rd c T H Q->∃ x T' H',O9 tab rd c T H x T' H'/\Q x T' H'
 | .skip,T,H,Q,h=>⟨.nrm,T,H,⟨0,fun _ _ _ _=>rfl⟩,h⟩
 | .exit id,T,H,Q,h=>⟨.exit id,T,H,⟨0,fun _ _ _ _=>rfl⟩,h⟩
 | .goto l,T,H,Q,h=>⟨.goto l,T,H,⟨0,fun _ _ _ _=>rfl⟩,h⟩
 | .ret,T,H,Q,h=>⟨.ret,T,H,⟨0,fun _ _ _ _=>rfl⟩,h⟩
 | .region ops,T,H,Q,h=>by
  obtain ⟨T',H',o,N,g⟩:=qi ops _ _ _ _ h;refine ⟨.nrm,T',H',⟨N,fun m n hm hn=>?_⟩,o⟩;simp only [aI,g m n hm hn]
 | .seq a b,T,H,Q,h=>by
  obtain ⟨x,T1,f,⟨d,e⟩,h1⟩:=eH a _ _ _ h;by_cases hx:x=.nrm
  ·subst hx;obtain ⟨y,T2,H2,⟨j,k⟩,h2⟩:=eH b _ _ _ h1;refine ⟨y,T2,H2,⟨d+j,fun m n hm hn=>?_⟩,h2⟩;simp only [aI,e m n zO zO];exact k m n zO zO
  ·refine ⟨x,T1,f,⟨d,fun m n hm hn=>?_⟩,?_⟩
   ·simp only [aI,e m n hm hn]
    all_goals (cases x <;> first | rfl | exact absurd rfl hx)
   ·cases x <;> first | exact h1 | exact absurd rfl hx
 | .cond c a b,T,H,Q,h=>by
  unfold UT at h;split at h
  ·rename_i hc;obtain ⟨x,T1,f,⟨d,e⟩,h1⟩:=eH a _ _ _ h;exact ⟨x,T1,f,⟨d,fun m n hm hn=>by simp only [aI,hc]; exact e m n hm hn⟩,h1⟩
  ·rename_i hc;obtain ⟨x,T1,f,⟨d,e⟩,h1⟩:=eH b _ _ _ h;exact ⟨x,T1,f,⟨d,fun m n hm hn=>by simp only [aI,hc]; exact e m n hm hn⟩,h1⟩
  ·exact h.elim
 | .block id body,T,H,Q,h=>by
  obtain ⟨x,T1,f,⟨d,e⟩,h1⟩:=eH body _ _ _ h;cases x with
  | exit i =>
   simp only at h1;by_cases hi:i=id
   ·rw [if_pos hi] at h1;exact ⟨.nrm,T1,f,⟨d,fun m n hm hn=>by simp only [aI,e m n hm hn,if_pos hi]⟩,h1⟩
   ·rw [if_neg hi] at h1;exact ⟨.exit i,T1,f,⟨d,fun m n hm hn=>by simp only [aI,e m n hm hn,if_neg hi]⟩,h1⟩
  | nrm=>exact ⟨_,T1,f,⟨d,fun m n hm hn=>by simp only [aI,e m n hm hn]⟩,h1⟩
  | goto l=>exact ⟨_,T1,f,⟨d,fun m n hm hn=>by simp only [aI,e m n hm hn]⟩,h1⟩
  | ret=>exact ⟨_,T1,f,⟨d,fun m n hm hn=>by simp only [aI,e m n hm hn]⟩,h1⟩
 | .scope a,T,H,Q,h=>by
  obtain ⟨x,T1,f,⟨d,e⟩,h1⟩:=eH a _ _ _ h;cases x with
  | goto l=>exact h1.elim
  | nrm=>exact ⟨_,T1,f,⟨d,fun m n hm hn=>by simp only [aI,e m n hm hn]⟩,h1⟩
  | exit l=>exact ⟨_,T1,f,⟨d,fun m n hm hn=>by simp only [aI,e m n hm hn]⟩,h1⟩
  | ret=>exact ⟨_,T1,f,⟨d,fun m n hm hn=>by simp only [aI,e m n hm hn]⟩,h1⟩
 | .loop body,T,H,Q,h=>h
 | .rangeFunc ..,T,H,Q,h=>h
 | .draw ..,T,H,Q,h=>h
 | .drawF ..,T,H,Q,h=>h
 | .rangeM ..,T,H,Q,h=>h
 | .scopeL ..,T,H,Q,h=>h
def SL {f:Nat} {fn:au} {args:List AV} {H:Heap} {Q:AV->Heap->Prop} (a:tab f=some fn) (he:fn.ext=none) (hl:args.length=fn.nparams)
  (h:UT tab false fn.body (args++List.replicate (fn.ntmps-args.length) .undef) H fun x T' H'=>(x=.nrm\/x=.ret)/\∃ v,cr T' H' fn.results=some v/\Q v H'):Ans tab (.fn f args) H Q:=by
 obtain ⟨x,T',H',⟨N,g⟩,hx,v,c,b⟩:=eH _ _ _ _ h;refine ⟨v,H',⟨N+1,fun m n hm hn=>?_⟩,b⟩;obtain ⟨n',rfl⟩:∃ n',n=n'+1:=⟨n-1,zO⟩
 show jx tab eZ (lu tab eZ m n') m (.fn f args) H=_;simp only [jx,a,he,zI,if_pos hl];rw [g m n' zO zO];rcases hx with rfl | rfl <;> simp [c]
def QQ {f:Nat} {fn:au} {args:List AV} {H:Heap} {Q:AV->Heap->Prop} (a:tab f=some fn) (he:fn.ext=none) (hl:args.length=fn.nparams)
  (h:UT tab false fn.body (args++List.replicate (fn.ntmps-args.length) .undef) H fun x T' H'=>(x=.nrm\/x=.ret)/\∃ v,cr T' H' fn.results=some v/\Q v H'):Ans tab (.ent f args) H Q:=by
 obtain ⟨x,T',H',⟨N,g⟩,hx,v,c,b⟩:=eH _ _ _ _ h;refine ⟨v,H',⟨N+1,fun m n hm hn=>?_⟩,b⟩;obtain ⟨n',rfl⟩:∃ n',n=n'+1:=⟨n-1,zO⟩
 show jx tab eZ (lu tab eZ m n') m (.ent f args) H=_;simp only [jx,a,he,zI,if_pos hl];rw [g m n' zO zO];rcases hx with rfl | rfl <;> simp [c]
def yV {f:Nat} {fn:au} {e:Ext} {args:List AV} {H:Heap} {Q:AV->Heap->Prop} {v:AV} {H':Heap} (a:tab f=some fn) (he:fn.ext=some e) (hc:e.code=false) (h:u3 H e args=some (v,H')) (b:Q v H'):Ans tab (.fn f args) H Q:=by
 refine ⟨v,H',⟨1,fun m n hm hn=>?_⟩,b⟩;obtain ⟨n',rfl⟩:∃ n',n=n'+1:=⟨n-1,zO⟩
 show jx tab eZ (lu tab eZ m n') m (.fn f args) H=_;simp only [jx,a,he];cases e <;> first | exact h | (cases hc; done) | (exact absurd h (by unfold u3; intro h; split at h <;> first | (rename_i q _; cases q; done) | (rename_i q; cases q; done) | (cases h; done)))
end
structure Sub (H H':Heap):Prop where
 next:H.next<=H'.next
 get:∀ b e,H.get b=some e->H'.get b=some e
def Wf (H:Heap):Prop:=∀ b e,H.get b=some e->b<H.next
def Sub.refl (H:Heap):Sub H H:=⟨Vo _,fun _ _ h=>h⟩
def Sub.trans {H H' H'':Heap} (h:Sub H H') (h':Sub H' H''):Sub H H'':=⟨VB h.next h'.next,fun b e hb=>h'.get b e (h.get b e hb)⟩
def Sub.bump (H:Heap) (k:Nat):Sub H { H with next:=H.next+k }:=⟨VV _ _,fun _ _ h=>h⟩
def Sub.bump_r {H H':Heap} (h:Sub H H') (k:Nat):Sub H { H' with next:=H'.next+k }:=h.trans (Sub.bump H' k)
def Wf.bump {H:Heap} (h:Wf H) (k:Nat):Wf { H with next:=H.next+k }:=fun b e hb=>VF (h b e hb) (VV _ _)
def Wf.put {H:Heap} (h:Wf H) {b:Nat} (hb:b<H.next) (e:Ent):Wf (H.put b e):=fun c e' hc=>by
 rw [Heap.get_put] at hc;split at hc
 ·rename_i h1; subst h1; exact hb
 ·exact h c e' hc
def Wf.kill {H:Heap} (h:Wf H) (b:Nat):Wf (H.kill b):=fun c e' hc=>by
 rw [Heap.get_kill] at hc;split at hc
 ·cases hc
 ·exact h c e' hc
def Sub.put {H H':Heap} (h:Sub H H') {b:Nat} (hb:H.get b=none) (e:Ent):Sub H (H'.put b e):=⟨h.next,fun c e' hc=>by
 rw [Heap.get_put];split
 ·rename_i h1; subst h1; rw [hb] at hc; cases hc
 ·exact h.get c e' hc⟩
def Sub.kill {H H':Heap} (h:Sub H H') {b:Nat} (hb:H.get b=none):Sub H (H'.kill b):=⟨h.next,fun c e' hc=>by
 rw [Heap.get_kill];split
 ·rename_i h1; subst h1; rw [hb] at hc; cases hc
 ·exact h.get c e' hc⟩
def Wf.fresh {H:Heap} (h:Wf H) {b:Nat} (hb:H.next<=b):H.get b=none:=by
 cases hg:H.get b with
 | none=>rfl
 | some e=>have:=h b e hg; omega
def TG:AV->Prop
 | .own _ _ n c _ _=>n<=c
 | _=>True
def Rd (H:Heap) (sz:Nat) (v:AV) (cells:List AV):Prop:=TG v/\(∀ s,v ≠ .str s)/\∃ n,gL v=some n/\aG H sz n v=some cells
def FI {H H':Heap} (h:Sub H H') {sz n:Nat} {v:AV} {cells:List AV} (a:aG H sz n v=some cells):aG H' sz n v=some cells:=by
 unfold aG at a ⊢;split at a
 ·split at a
  ·rename_i cs ty rw hb;rw [h.get _ _ hb]; exact a
  ·cases a
 ·exact a
 ·exact a
 ·exact a
 ·cases a
def Rd.mono {H H':Heap} (h:Sub H H') {sz:Nat} {v:AV} {cells:List AV} (hr:Rd H sz v cells):Rd H' sz v cells:=by
 obtain ⟨h0,h1,n,h2,h3⟩:=hr;exact ⟨h0,h1,n,h2,FI h h3⟩
def Rd.nil (H:Heap) (sz:Nat):Rd H sz .nilSl []:=⟨trivial,fun s h=>(by cases h),0,rfl,rfl⟩
def Rd.own {H:Heap} {sz b n c:Nat} {ex:Bool} {cs:List AV} {ty:Nat} {rw:Bool} (hb:H.get b=some (.cells cs ty rw)) (hn:cs.length=n*sz) (hc:n<=c):Rd H sz (.own b 0 n c sz ex) cs:=by
 refine ⟨hc,fun s h=>(by cases h),n,rfl,?_⟩;simp only [aG,hb];rw [if_pos zS];simp [<- hn]
def Rd.length {H:Heap} {sz:Nat} {v:AV} {cells:List AV} (h:Rd H sz v cells):∃ n,gL v=some n/\cells.length=n*sz:=by
 obtain ⟨-,h1,n,h2,h3⟩:=h;refine ⟨n,h2,?_⟩;unfold aG at h3;split at h3
 ·split at h3
  ·split at h3
   ·rename_i hc; cases h3; simp; omega
   ·cases h3
  ·cases h3
 ·split at h3
  ·rename_i hc; cases h3; simp; omega
  ·cases h3
 ·split at h3
  ·rename_i hc; cases h3; simp [hc]
  ·cases h3
 ·exact absurd rfl (h1 _)
 ·cases h3
def aq (v:AV) (o:Nat):AV:=match v with
 | .own b off _ _ _ _=>.ptr b (off+o)
 | .sl cs _=>.dp cs o
 | _=>.undef
def Rd.index {H:Heap} {sz:Nat} {v:AV} {cells:List AV} (h:Rd H sz v cells) {ev:Src->AV} {x i:Src} {k:IntKind} {j:Nat} (hx:ev x=v) (hi:ev i=.int k (j:Int)) (hj:j*sz+sz<=cells.length) (c:0<sz):aN ev (.indexAddr sz x i)=some (aq v (j*sz)):=by
 obtain ⟨n,hn,hl⟩:=h.length;obtain ⟨-,h1,m,h2,h3⟩:=h;rw [hn] at h2; cases h2;have a:j<n:=by
  apply Nat.lt_of_not_le
  intro b
  have:=Vy sz b
  omega
 have ha:pb (.int k (j:Int))=some j:=rfl;simp only [aN,hx,hi,ha,Vj,WR];unfold aG at h3;split at h3
 ·split at h3
  ·split at h3
   ·rename_i hc;simp only [gL,V4] at hn;subst hn;show (if j<_/\_=sz then some _ else none)=_;rw [if_pos ⟨a,hc.1⟩];rfl
   ·cases h3
  ·cases h3
 ·split at h3
  ·simp only [gL,V4] at hn;subst hn;show (if j<_ then some _ else none)=_;rw [if_pos a];rfl
  ·cases h3
 ·simp only [gL,V4] at hn;omega
 ·exact absurd rfl (h1 _)
 ·cases h3
def zo {cs:List AV} {off n o:Nat} {k:Option Nat} {w:AV} (b:off<=cs.length) (h:bz ((cs.drop off).take n) o k=some w):bz cs (off+o) k=some w:=by
 unfold bz at h ⊢;cases k with
 | none =>
  simp only at h ⊢;rw [VL] at h;split at h
  ·rw [VM] at h; exact h
  ·cases h
 | some m =>
  simp only at h ⊢;split at h
  ·rename_i a;cases h;simp only [VN,WN] at a;rw [if_pos zO];congr 2
   apply W0
   intro i;simp only [VL,VM];split
   ·rw [if_pos zO]; congr 1; omega
   ·rfl
  ·cases h
def Rd.load {H:Heap} {sz:Nat} {v:AV} {cells:List AV} (h:Rd H sz v cells) {o:Nat} {k:Option Nat} {w:AV} (b:k≠some 0) (a:bz cells o k=some w):aW H k (aq v o)=some w:=by
 obtain ⟨-,h1,n,h2,h3⟩:=h;unfold aG at h3;split at h3
 ·split at h3
  ·rename_i hb;split at h3
   ·rename_i hc;cases h3;simp only [aq,aW,hb];exact zo zO a
   ·cases h3
  ·cases h3
 ·split at h3
  ·cases h3;simp only [aq,aW]
   have:=zo (off:=0) (Vz _) (by simpa using a)
   simpa using this
  ·cases h3
 ·split at h3
  ·cases h3;unfold bz at a;cases k <;> simp at a;rename_i m;exact absurd (by rw [a.1.2]) b
  ·cases h3
 ·exact absurd rfl (h1 _)
 ·cases h3
def Rd.len {H:Heap} {sz:Nat} {v:AV} {cells:List AV} (h:Rd H sz v cells) {ev:Src->AV} {x:Src} (hx:ev x=v) {n:Nat} (hn:cells.length=n*sz) (a:0<sz):aN ev (.len x)=some (.int .i64 (n:Int)):=by
 obtain ⟨m,hm,hl⟩:=h.length
 have:m=n:=Xf a zO
 subst this;obtain ⟨-,h1,-⟩:=h;simp only [aN,hx];cases v <;> simp only [gL,V4] at hm <;> first | (subst hm; rfl) | (cases hm; done) | skip
 exact absurd rfl (h1 _)
def Rd.slice {H:Heap} {sz:Nat} {v:AV} {cells:List AV} (h:Rd H sz v cells) {lo hi:Nat} {L U:Option AV} (hL:(L.map pb).getD (some 0)=some lo) (d:∀ n,gL v=some n->(U.map pb).getD (some n)=some hi) (k:lo<=hi) (hh:hi*sz<=cells.length) (t:0<sz) :
  ∃ o,bL sz v L U none=some o/\Rd H sz o ((cells.take (hi*sz)).drop (lo*sz)):=by
 obtain ⟨n,hn,hl⟩:=h.length;have d:=d n hn;have f:hi<=n:=Zw zO t;have w:lo*sz<=hi*sz:=Vy sz k;obtain ⟨h0,h1,m,h2,h3⟩:=h;rw [hn] at h2; cases h2;cases v with
 | own b off n' c a ex =>
  simp only [gL,V4] at hn;subst hn;simp only [aG] at h3;split at h3
  ·rename_i cs ty rw hb;split at h3
   ·rename_i hc;obtain ⟨rfl,-,u⟩:=hc;cases h3;have x:n'<=c:=h0;have e:(hi-lo)*a=hi*a-lo*a:=Nat.sub_mul ..;have r:=Vy a f;have g:bL a (.own b off n' c a ex) L U none=(if lo<c\/lo=0 then some (.own b (off+lo*a) (hi-lo) (c-lo) a ex) else if ex=true then some (.own b off (hi-lo) (c-lo) a true) else some (.sl [] 0)):=by
     simp only [bL,d,hL,Vj,WR,ne_eq,not_true_eq_false,if_false];rw [if_pos ⟨zO,k⟩]
    have key:((cs.drop off).take (n'*a)).take (hi*a)=(cs.drop off).take (hi*a):=by
     rw [XE,WG r]
    rw [key];by_cases j:lo<c\/lo=0
    ·refine ⟨_,g.trans (if_pos j),?_,fun s h=>(by cases h),hi-lo,rfl,?_⟩
     ·show hi-lo<=c-lo; omega
     ·simp only [aG,hb];rw [if_pos ⟨trivial,Vo _,zO⟩];congr 1
      apply W0
      intro i;simp only [VL,VM];by_cases l:i<(hi-lo)*a
      ·rw [if_pos l,if_pos zO]; congr 1; omega
      ·rw [if_neg l,if_neg zO]
    ·have q:lo=hi:=zO;subst q;have e0:((cs.drop off).take (lo*a)).drop (lo*a)=[]:=by
      apply VZ; simp
     rw [e0];cases ex with
     | true =>
      refine ⟨_,g.trans (by rw [if_neg j,if_pos rfl]),?_,fun s h=>(by cases h),lo-lo,rfl,?_⟩
      ·show lo-lo<=c-lo; omega
      ·simp only [aG,hb];rw [if_pos ⟨trivial,Vo _,by simp; omega⟩]
       simp
     | false =>
      refine ⟨.sl [] 0,g.trans (by rw [if_neg j,if_neg (by simp)]),trivial,fun s h=>(by cases h),0,rfl,?_⟩;simp [aG]
   ·cases h3
  ·cases h3
 | sl cs n' =>
  simp only [gL,V4] at hn;subst hn;simp only [aG] at h3;split at h3
  ·rename_i hc;cases h3;have p:hi*sz<=cs.length:=by have:=Vy sz f; omega
   refine ⟨.sl ((cs.drop (lo*sz)).take ((hi-lo)*sz)) (hi-lo),?_,trivial,fun s h=>(by cases h),hi-lo,rfl,?_⟩
   ·simp only [bL,d,hL,Vj,WR];rw [if_pos ⟨f,k,p⟩]
   ·simp only [aG];have e:(hi-lo)*sz=hi*sz-lo*sz:=Nat.sub_mul ..;rw [if_pos ⟨Vo _,by simp only [VN,WN]; omega⟩];congr 1
    apply W0
    intro i
    have:=Vy sz f
    simp only [VL,VM];split
    ·rw [if_pos zO,if_pos zO]
    ·rw [if_neg zO]
  ·cases h3
 | nilSl =>
  simp only [gL,V4] at hn;subst hn
  have:hi=0:=zO
  subst this
  have:lo=0:=zO
  subst this;refine ⟨.nilSl,?_,trivial,fun s h=>(by cases h),0,rfl,?_⟩
  ·simp only [bL,d,hL]; simp
  ·simp only [aG] at h3 ⊢; simp
 | str s=>exact absurd rfl (h1 s)
 | _=>simp [gL] at hn
def gY {α:Type} (o:Option α) (Q:α->Prop):Prop:=match o with
 | some v=>Q v
 | none=>False
theorem KZ {α:Type} (v:α) (Q:α->Prop):gY (some v) Q=Q v:=rfl
theorem Aa {α β:Type} (o:Option α) (f:α->β) (Q:β->Prop):gY (o.map f) Q=gY o fun v=>Q (f v):=by cases o <;> rfl
def lenV:AV->Option AV
 | .own _ _ n _ _ _=>some (.int .i64 n)
 | .sl _ n=>some (.int .i64 n)
 | .nilSl=>some (.int .i64 0)
 | _=>none
def cL (sz:Nat) (v i:AV):Option AV:=aN (fun s=>match s with | .t 0=>v | _=>i) (.indexAddr sz (.t 0) (.t 1))
def AD (off:Nat):AV->Option AV
 | .ptr b o=>some (.ptr b (o+off))
 | .dp cs o=>some (.dp cs (o+off))
 | _=>none
def DX (k:Option Nat) (off:Nat):AV->Option AV
 | .agg cs=>bz cs off k
 | _=>none
def IU (c a b:AV):Option AV:=match c with
 | .bool t=>some (if t then a else b)
 | _=>none
def JB (k:IntKind):AV->Option AV
 | .int _ n=>some (.int k (k.wrap n))
 | _=>none
def FK (i:Nat):AV->Option AV
 | .tup vs=>vs[i]?
 | _=>none
def iJ (zero:List AV) (parts:List ((Nat × Nat) × AV)):Option AV:=(dj zero parts).map .agg
def Ac:AV->Option AV
 | .ptr b o=>some (.ptr b o)
 | .dp cs o=>some (.dp cs o)
 | .fn (.func f) a c=>some (.fn (.func f) a c)
 | .loopv b=>some (.loopv b)
 | _=>none
def bW (sz:Nat) (v:AV) (lo hi mx:Option AV):Option AV:=match v with
 | .str _=>none
 | v=>bL sz v lo hi mx
section
variable (tab:Nat->Option au) (ev:Src->AV) (H:Heap) (id:Nat) (Q:AV->Heap->Prop)
def Px {o:AOp} {w:AV} (hc:∀ f args,o ≠ .call f args) (h:aN ev o=some w):iC tab ev H id o Q=Q w H:=by
 cases o
 case call f args=>exact absurd rfl (hc f args)
 all_goals
  unfold iC;simp only [h]
def gn {o:AOp} (hc:∀ f args,o ≠ .call f args) (h:aN ev o=none):iC tab ev H id o Q=gY (bg ev H id o) fun r=>Q r.1 r.2:=by
 cases hh:bg ev H id o with
 | none =>
  cases o
  case call f args=>exact absurd rfl (hc f args)
  all_goals
   unfold iC;simp only [h,hh];rfl
 | some r =>
  cases o
  case call f args=>exact absurd rfl (hc f args)
  all_goals
   unfold iC;simp only [h,hh];rfl
def dU {o:AOp} {v:Option AV} (hc:∀ f args,o ≠ .call f args) (h:aN ev o=v) (hn:bg ev H id o=none):iC tab ev H id o Q=gY v fun v=>Q v H:=by
 cases v with
 | some w=>rw [Px tab ev H id Q hc h,KZ]
 | none=>rw [gn tab ev H id Q hc h,hn]; rfl
def Py (c a b:Src):iC tab ev H id (.pick c a b) Q=gY (IU (ev c) (ev a) (ev b)) fun v=>Q v H :=
 dU tab ev H id Q (fun f a e=>by cases e) (by simp only [aN,IU]; cases ev c <;> rfl) rfl
def RB (op:BinOp) (k:BK) (x y:Src):iC tab ev H id (.bin op k x y) Q=gY (ca op k (ev x) (ev y)) fun v=>Q v H :=
 dU tab ev H id Q (fun f a e=>by cases e) rfl rfl
def SX (op:UnOp) (x:Src):iC tab ev H id (.un op x) Q=gY (RP op (ev x)) fun v=>Q v H :=
 dU tab ev H id Q (fun f a e=>by cases e) rfl rfl
def PB (k:IntKind) (x:Src):iC tab ev H id (.conv k x) Q=gY (JB k (ev x)) fun v=>Q v H :=
 dU tab ev H id Q (fun f a e=>by cases e) (by simp only [aN,JB]; cases ev x <;> rfl) rfl
def Rx (x:Src):iC tab ev H id (.len x) Q=gY (lenV (ev x)) fun v=>Q v H :=
 dU tab ev H id Q (fun f a e=>by cases e) (by simp only [aN,lenV]; cases ev x <;> rfl) rfl
def Ry (sz:Nat) (x i:Src):iC tab ev H id (.indexAddr sz x i) Q=gY (cL sz (ev x) (ev i)) fun v=>Q v H :=
 dU tab ev H id Q (fun f a e=>by cases e) (by simp only [aN,cL]) rfl
def SY (off:Nat) (x:Src):iC tab ev H id (.fieldAddr off x) Q=gY (AD off (ev x)) fun v=>Q v H :=
 dU tab ev H id Q (fun f a e=>by cases e) (by simp only [aN,AD]; cases ev x <;> rfl) rfl
def MD (k:Option Nat) (off:Nat) (x:Src):iC tab ev H id (.field k off x) Q=gY (DX k off (ev x)) fun v=>Q v H :=
 dU tab ev H id Q (fun f a e=>by cases e) (by simp only [aN,DX]; cases ev x <;> rfl) rfl
def Rz (i:Nat) (x:Src):iC tab ev H id (.extract i x) Q=gY (FK i (ev x)) fun v=>Q v H :=
 dU tab ev H id Q (fun f a e=>by cases e) (by simp only [aN,FK]; cases ev x <;> rfl) rfl
def ME (z:List AV) (ps:List ((Nat × Nat) × Src)):iC tab ev H id (.build z ps) Q=gY (iJ z (ps.map fun p=>(p.1,ev p.2))) fun v=>Q v H :=
 dU tab ev H id Q (fun f a e=>by cases e) (by simp only [aN,iJ,Vj]; cases dj z (ps.map fun p=>(p.1,ev p.2)) <;> rfl) rfl
def MC (x:Src):iC tab ev H id (.nilCheck x) Q=gY (Ac (ev x)) fun v=>Q v H :=
 dU tab ev H id Q (fun f a e=>by cases e) (by simp only [aN,Ac]; cases ev x <;> rfl) rfl
def MB (sz:Nat) (x:Src) (lo hi mx:Option Src):iC tab ev H id (.slice sz x lo hi mx) Q=gY (bW sz (ev x) (lo.map ev) (hi.map ev) (mx.map ev)) fun v=>Q v H :=
 dU tab ev H id Q (fun f a e=>by cases e) (by simp only [aN,bW]; cases ev x <;> rfl) rfl
def PA (k:Option Nat) (x:Src):iC tab ev H id (.load k x) Q=gY (aW H k (ev x)) fun v=>Q v H:=by
 rw [gn tab ev H id Q (fun f a e=>by cases e) rfl];show gY ((aW H k (ev x)).map fun v=>(v,H)) _=_;rw [Aa]
def MA (n:Nat) (x v:Src):iC tab ev H id (.store n x v) Q=gY (qw H n (ev x) (ev v)) fun H'=>Q .undef H':=by
 rw [gn tab ev H id Q (fun f a e=>by cases e) rfl];show gY ((qw H n (ev x) (ev v)).map fun H'=>(AV.undef,H')) _=_;rw [Aa]
def MF (ty:Nat) (z:List AV):iC tab ev H id (.alloc ty z) Q=Q (.ptr id 0) (H.put id (.cells z ty true)):=by
 rw [gn tab ev H id Q (fun f a e=>by cases e) rfl]; rfl
def PS (f:Nat) (a b args:List AV) (R:Task->Prop):(∃ t,iD (.fn (.func f) a b) args=some t/\R t)=R (.fn f (a++args++b)):=by simp [iD]
def Ks (b:Nat) (args:List AV) (R:Task->Prop):(∃ t,iD (.loopv b) args=some t/\R t)=R (.round b args):=by simp [iD]
def Ka (size bytes ty:Nat) (z:List AV) (x y:Src):iC tab ev H id (.append size bytes ty z x y) Q=gY (bg ev H id (.append size bytes ty z x y)) fun r=>Q r.1 r.2 :=
 gn tab ev H id Q (fun f a e=>by cases e) rfl
def Pz (ty size bytes:Nat) (z:List AV) (l c:Src):iC tab ev H id (.mksl ty size bytes z l c) Q=gY (bg ev H id (.mksl ty size bytes z l c)) fun r=>Q r.1 r.2 :=
 gn tab ev H id Q (fun f a e=>by cases e) rfl
def BA (ty size:Nat) (z:List AV) (n:Nat) (ps:List ((Nat × Nat) × Src)):iC tab ev H id (.buildSlice ty size z n ps) Q=gY (dj z (ps.map fun p=>(p.1,ev p.2))) fun cs=>Q (.own id 0 n n size true) (H.put id (.cells cs ty true)):=by
 rw [gn tab ev H id Q (fun f a e=>by cases e) rfl];have e:bg ev H id (.buildSlice ty size z n ps)=(dj z (ps.map fun p=>(p.1,ev p.2))).map fun cs=>(.own id 0 n n size true,H.put id (.cells cs ty true)):=by
  simp only [bg];cases dj z (ps.map fun p=>(p.1,ev p.2)) <;> rfl
 rw [e,Aa]
end
section
variable {tab:Nat->Option au} {T:Tm} {H:Heap} {Q:Tm->Heap->Prop} {id:Nat}
def uY (T:Tm) (i j:Nat) (v:AV) (h:i<T.length):aa (T.set i v) j=if i=j then v else aa T j:=by
 unfold aa;rw [Vh,Vh,XF];by_cases a:i=j
 ·subst a; simp [h]
 ·simp [a]
theorem Sy (n:Nat):Src.ev T (.t n)=aa T n:=rfl
theorem TD (v:AV):Src.ev T (.c v)=v:=rfl
theorem iM (d:Nat) (v:AV):putT T (some d) v=T.set d v:=rfl
theorem lS (v:AV):putT T none v=T:=rfl
end
def Qu {H:Heap} {sz:Nat} {v:AV} {cells:List AV} (h:Rd H sz v cells) {k:IntKind} {j:Nat} (hj:j*sz+sz<=cells.length) (a:0<sz):cL sz v (.int k (j:Int))=some (aq v (j*sz)) :=
 h.index (ev:=fun s=>match s with | .t 0=>v | _=>.int k (j:Int)) (x:=.t 0) (i:=.t 1) rfl rfl hj a
def Jf {H:Heap} {sz:Nat} {v:AV} {cells:List AV} (h:Rd H sz v cells) {n:Nat} (hn:cells.length=n*sz) (a:0<sz):lenV v=some (.int .i64 (n:Int)):=by
 have:=h.len (ev:=fun _=>v) (x:=.t 0) rfl hn a
 refine Eq.trans ?_ this;simp only [aN,lenV];cases v <;> rfl
section
variable {tab:Nat->Option au} {T:Tm} {H:Heap} {Q:Tm->Heap->Prop} {id:Nat}
end
def QP {tab:Nat->Option au} {f:Nat} {fn:au} {args:List AV} {H:Heap} {Q:AV->Heap->Prop} (a:tab f=some fn) (he:fn.ext=none) (hl:args.length=fn.nparams) (hn:fn.nparams<=fn.ntmps)
  (h:∀ T0:Tm,T0.length=fn.ntmps->(∀ i,i<args.length->aa T0 i=args.getD i .undef)->UT tab false fn.body T0 H fun x T' H'=>(x=.nrm\/x=.ret)/\∃ v,cr T' H' fn.results=some v/\Q v H'):Ans tab (.fn f args) H Q:=by
 refine SL a he hl (h _ zS fun i hi=>?_);unfold aa;rw [Vh,Vh,VT hi]
structure Sw (H H':Heap):Prop where
 sub:Sub H H'
 wf:Wf H'
def Sw.refl {H:Heap} (h:Wf H):Sw H H:=⟨Sub.refl H,h⟩
def Sw.bump {H H':Heap} (h:Sw H H') (k:Nat):Sw H { H' with next:=H'.next+k }:=⟨h.sub.bump_r k,h.wf.bump k⟩
def Sw.trans {H H' H'':Heap} (h:Sw H H') (h':Sw H' H''):Sw H H'':=⟨h.sub.trans h'.sub,h'.wf⟩
def F0 (v:AV) (P Q:Prop):Prop:=match v with
 | .bool true=>P
 | .bool false=>Q
 | _=>False
def Il (b:Bool) (P Q:Prop):F0 (.bool b) P Q=if b=true then P else Q:=by cases b <;> simp [F0]
section
variable {tab:Nat->Option au} {rd:Bool} {T:Tm} {H:Heap} {Q:Ex->Tm->Heap->Prop}
theorem PC (a b:ACode):UT tab rd (.seq a b) T H Q=UT tab rd a T H fun x T' H'=>match x with | .nrm=>UT tab rd b T' H' Q | x=>Q x T' H':=rfl
def MG (c:Src) (a b:ACode):UT tab rd (.cond c a b) T H Q=F0 (c.ev T) (UT tab rd a T H Q) (UT tab rd b T H Q):=by
 show (match c.ev T with | .bool true=>UT tab rd a T H Q | .bool false=>UT tab rd b T H Q | _=>False)=_;unfold F0;split <;> rfl
theorem Kc (id:Nat) (a:ACode):UT tab rd (.block id a) T H Q=UT tab rd a T H fun x T' H'=>match x with | .exit b=>if b=id then Q .nrm T' H' else Q (.exit b) T' H' | x=>Q x T' H':=rfl
theorem Kb (a:ACode):UT tab rd (.scope a) T H Q=UT tab rd a T H fun x T' H'=>match x with | .goto _=>False | x=>Q x T' H':=rfl
end
section
variable (k:IntKind) (a b:Int)
def QK:ca .eql .int (.int k a) (.int k b)=some (.bool (decide (a=b))):=by
 simp only [ca,kQ,if_true]; congr 2
def QG:ca .neq .int (.int k a) (.int k b)=some (.bool (!decide (a=b))):=by
 simp only [ca,kQ,if_true]; congr 2
def JK:ca .lss .int (.int k a) (.int k b)=some (.bool (decide (a<b))):=by simp only [ca,kQ,if_true]
def QH:ca .leq .int (.int k a) (.int k b)=some (.bool (decide (a<=b))):=by simp only [ca,kQ,if_true]
def QI:ca .gtr .int (.int k a) (.int k b)=some (.bool (decide (b<a))):=by simp only [ca,kQ,if_true,gt_iff_lt,ge_iff_le]
def QJ:ca .geq .int (.int k a) (.int k b)=some (.bool (decide (b<=a))):=by simp only [ca,kQ,if_true,gt_iff_lt,ge_iff_le]
def Ef:ca .add .int (.int k a) (.int k b)=some (.int k (k.wrap (a+b))):=by simp only [ca,kQ,if_true]
def JI:ca .sub .int (.int k a) (.int k b)=some (.int k (k.wrap (a-b))):=by simp only [ca,kQ,if_true]
def JJ:ca .mul .int (.int k a) (.int k b)=some (.int k (k.wrap (a*b))):=by simp only [ca,kQ,if_true]
theorem OB (j:IntKind):JB k (.int j a)=some (.int k (k.wrap a)):=rfl
theorem KW (c:Bool) (x y:AV):IU (.bool c) x y=some (if c=true then x else y):=rfl
theorem RN (c:Bool):RP .not (.bool c)=some (.bool !c):=rfl
theorem QM (c e:Bool):ca .eql .bool (.bool c) (.bool e)=some (.bool (c == e)):=rfl
theorem QL (c e:Bool):ca .neq .bool (.bool c) (.bool e)=some (.bool (!(c == e))):=rfl
end
def wrap_i64 {x:Int} (h1 : -9223372036854775808<=x) (h2:x<9223372036854775808):IntKind.i64.wrap x=x:=by
 have e:IntKind.i64.wrap x=if x % 18446744073709551616 ≥ 9223372036854775808 then x % 18446744073709551616-18446744073709551616 else x % 18446744073709551616:=by
  simp [IntKind.wrap,IntKind.signed,IntKind.bits]
 rw [e];split <;> omega
def kj {x:Int}:IntKind.u64.wrap x=x % 18446744073709551616:=by
 simp [IntKind.wrap,IntKind.signed,IntKind.bits]
def gy {x:Int} (h1:0<=x) (h2:x<18446744073709551616):IntKind.u64.wrap x=x:=by rw [kj]; omega
def Rd.notStr {H:Heap} {sz:Nat} {v:AV} {cells:List AV} (h:Rd H sz v cells) (lo hi mx:Option AV):bW sz v lo hi mx=bL sz v lo hi mx:=by
 cases v <;> first | rfl | exact absurd rfl (h.2.1 _)
theorem fN (k:IntKind) (n:Nat):pb (.int k (n:Int))=some n:=rfl
def Rd.hi {H:Heap} {sz:Nat} {v:AV} {cells:List AV} (h:Rd H sz v cells) {k:IntKind} {hi:Nat} (hh:hi*sz<=cells.length) (b:0<sz):∃ a,bW sz v none (some (.int k (hi:Int))) none=some a/\Rd H sz a (cells.take (hi*sz)):=by
 rw [h.notStr];obtain ⟨a,h1,h2⟩:=h.slice (lo:=0) (hi:=hi) (L:=none) (U:=some (.int k (hi:Int))) rfl (fun n _=>rfl) (Vz _) hh b;exact ⟨a,h1,by simpa using h2⟩
def Rd.lo {H:Heap} {sz:Nat} {v:AV} {cells:List AV} (h:Rd H sz v cells) {k:IntKind} {lo:Nat} (hh:lo*sz<=cells.length) (b:0<sz):∃ a,bW sz v (some (.int k (lo:Int))) none none=some a/\Rd H sz a (cells.drop (lo*sz)):=by
 rw [h.notStr];obtain ⟨n,hn,hl⟩:=h.length;obtain ⟨a,h1,h2⟩:=h.slice (lo:=lo) (hi:=n) (L:=some (.int k (lo:Int))) (U:=none) rfl (fun m hm=>by rw [hn] at hm; cases hm; rfl) (Zw zO b) zO b;refine ⟨a,h1,?_⟩;rw [<- hl,VO] at h2; exact h2
def Rd.clip {H:Heap} {sz:Nat} {v:AV} {cells:List AV} (h:Rd H sz v cells) {k j:IntKind} {n:Nat} (hn:cells.length=n*sz) (l:0<sz):∃ g,bW sz v none (some (.int k (n:Int))) (some (.int j (n:Int)))=some g/\Rd H sz g cells:=by
 rw [h.notStr];obtain ⟨m,hm,hl⟩:=h.length
 have:m=n:=Xf l zO
 subst this;obtain ⟨h0,h1,m',h2,h3⟩:=h;rw [hm] at h2; cases h2;cases v with
 | own b off n' c a ex =>
  simp only [gL,V4] at hm;subst hm;simp only [aG] at h3;split at h3
  ·rename_i cs ty rw hb;split at h3
   ·rename_i hc;obtain ⟨rfl,-,i⟩:=hc;have f:n'<=c:=h0;have e:bL a (.own b off n' c a ex) none (some (.int k (n':Int))) (some (.int j (n':Int)))=some (.own b off n' 0 a true)\/bL a (.own b off n' c a ex) none (some (.int k (n':Int))) (some (.int j (n':Int)))=some (.own b off n' n' a true):=by
     simp only [bL,fN,ne_eq,not_true_eq_false,if_false,Vj,WR,Xj,Xa];rw [if_pos ⟨f,Vo _,Vz _⟩];by_cases d:n'=0
     ·left; rw [if_pos d]; simp
     ·right; rw [if_neg d]; simp
    by_cases d:n'=0
    ·subst d;refine ⟨.own b off 0 0 a true,?_,Vo _,fun s h=>(by cases h),0,rfl,?_⟩
     ·rcases e with e | e <;> exact e
     ·simp only [aG,hb];rw [if_pos ⟨trivial,Vo _,zO⟩];exact h3
    ·refine ⟨.own b off n' n' a true,?_,Vo _,fun s h=>(by cases h),n',rfl,?_⟩
     ·simp only [bL,fN,ne_eq,not_true_eq_false,if_false,Vj,WR,Xj,Xa];rw [if_pos ⟨f,Vo _,Vz _⟩,if_neg d]
      simp
     ·simp only [aG,hb];rw [if_pos ⟨trivial,Vo _,i⟩];exact h3
   ·cases h3
  ·cases h3
 | sl cs n' =>
  simp only [gL,V4] at hm;subst hm;simp only [aG] at h3;split at h3
  ·rename_i hc;refine ⟨.sl (cs.take (n'*sz)) n',?_,trivial,fun s h=>(by cases h),n',rfl,?_⟩
   ·simp only [bL,fN,Vj,WR,Xj,Xa];rw [if_pos ⟨Vo _,Vo _,Vz _,hc.2⟩]
    simp
   ·simp only [aG];rw [if_pos ⟨Vo _,by simp only [VN]; omega⟩];rw [XE,Nat.min_self]; exact h3
  ·cases h3
 | nilSl =>
  simp only [gL,V4] at hm;subst hm;exact ⟨.nilSl,rfl,trivial,fun s h=>(by cases h),0,rfl,h3⟩
 | str s=>exact absurd rfl (h1 s)
 | _=>simp [gL] at hm
def Tq {H:Heap} {s:AV} {cells:List AV} (hs:Rd H 1 s cells):lenV s=some (.int .i64 (cells.length:Int)):=Jf hs zO zO
def Bld (H0 H:Heap) (sz ty:Nat) (v:AV) (cells:List AV):Prop :=
 (v=.nilSl/\cells=[])\/∃ b n,v=.own b 0 n n sz false/\H.get b=some (.cells cells ty true)/\cells.length=n*sz/\H0.get b=none
def Bld.nil {H0 H:Heap} {sz ty:Nat}:Bld H0 H sz ty .nilSl []:=.inl ⟨rfl,rfl⟩
def Bld.keep {H0 H H':Heap} {sz ty:Nat} {v:AV} {cells:List AV} (h:Bld H0 H sz ty v cells) (a:∀ b e,H.get b=some e->H'.get b=some e):Bld H0 H' sz ty v cells:=by
 rcases h with h | ⟨b,n,h1,hb,h2⟩
 ·exact .inl h
 ·exact .inr ⟨b,n,h1,a _ _ hb,h2⟩
def FD (H:Heap) (b c:Nat) (e:Ent):(H.put b e).get c=if c=b then some e else H.get c:=by rw [Heap.get_put]
def Lj (H:Heap) (b c:Nat):(H.kill b).get c=if c=b then none else H.get c:=by rw [Heap.get_kill]
def gR (v:AV):Option (List AV):=if v.cells.all AV.one=true then some v.cells else none
def K4 (x y:AV):Option AV:=match x with
 | .int k a=>Ja (.int k a) y
 | _=>none
def HG (x y:AV):Option AV:=match x with
 | .int k a=>I9 (.int k a) y
 | _=>none
theorem DB (k j:IntKind) (a b:Int):K4 (.int k a) (.int j b)=some (.int k (if b > a then b else a)):=rfl
theorem yP (k j:IntKind) (a b:Int):HG (.int k a) (.int j b)=some (.int k (if b<a then b else a)):=rfl
theorem SJ (f:Fn) (a b:List AV):gR (.fn f a b)=some [.fn f a b]:=rfl
theorem QF (k:IntKind) (a:Int):gR (.int k a)=some [.int k a]:=rfl
section
variable {tab:Nat->Option au}
def L5 {b:Nat} {args:List AV} {T:Tm} {ps:List Nat} {a body:ACode} {H:Heap} {Q:AV->Heap->Prop} (hb:H.get b=some (.loop T ps a body .ready none)) (hl:args.length=ps.length)
  (h:UT tab true a (oI T (ps.zip args)) H fun x T1 e=>x=.nrm/\e.get b=some (.loop T ps a body .ready none) /\
   UT tab true body T1 (e.put b (.loop T ps a body .busy none)) fun x _ H2=>H2.get b=some (.loop T ps a body .busy none)/\match x with
    | .nrm=>Q (.bool true) (H2.put b (.loop T ps a body .ready none))
    | .ret=>Q (.bool false) (H2.put b (.loop T ps a body .done (some .ret)))
    | .exit id=>Q (.bool false) (H2.put b (.loop T ps a body .done (some (.exit id))))
    | .goto g=>Q (.bool false) (H2.put b (.loop T ps a body .done (some (.goto g))))):Ans tab (.round b args) H Q:=by
 obtain ⟨x,T1,e,⟨c,f⟩,rfl,j,h2⟩:=eH _ _ _ _ h;obtain ⟨y,T2,H2,⟨d,i⟩,k,h3⟩:=eH _ _ _ _ h2;have key:∀ (v:AV) (H':Heap),Q v H'->(∀ m n,c+d+1<=m->c+d+1<=n->lu tab eZ m n (.round b args) H=some (v,H'))->Ans tab (.round b args) H Q:=fun v H' l hr=>⟨v,H',⟨_,hr⟩,l⟩
 have run:∀ m n,c+d+1<=m->c+d+1<=n->lu tab eZ m n (.round b args) H=match y with
   | .nrm=>some (.bool true,H2.put b (.loop T ps a body .ready none))
   | .ret=>some (.bool false,H2.put b (.loop T ps a body .done (some .ret)))
   | .exit id=>some (.bool false,H2.put b (.loop T ps a body .done (some (.exit id))))
   | .goto g=>some (.bool false,H2.put b (.loop T ps a body .done (some (.goto g)))):=by
  intro m n hm hn;obtain ⟨n',rfl⟩:∃ n',n=n'+1:=⟨n-1,zO⟩
  show jx tab eZ (lu tab eZ m n') m (.round b args) H=_;simp only [jx,hb,if_pos hl,f m n' zO zO,j,i m n' zO zO,k];cases y <;> rfl
 cases y with
 | nrm=>exact key _ _ h3 run
 | ret=>exact key _ _ h3 run
 | exit id=>exact key _ _ h3 run
 | goto g=>exact key _ _ h3 run
def CW {f:Src} {ps:List Nat} {a body:ACode} {T:Tm} {H:Heap} {Q:Ex->Tm->Heap->Prop} {fi:Nat} {args:List AV} (b:iD (f.ev T) [.loopv H.next]=some (.fn fi args))
  (h:Ans tab (.ent fi args) (({ H with next:=H.next+1 }:Heap).put H.next (.loop T ps a body .ready none)) fun _ H2 =>
   (H2.get H.next=some (.loop T ps a body .ready none)/\Q .nrm T (H2.kill H.next))\/(H2.get H.next=some (.loop T ps a body .done (some .ret))/\Q .ret T (H2.kill H.next)) \/
   (∃ id,H2.get H.next=some (.loop T ps a body .done (some (.exit id)))/\Q (.exit id) T (H2.kill H.next))):UT tab false (.rangeFunc f ps a body) T H Q:=by
 obtain ⟨v,H2,⟨N,g⟩,h⟩:=h;have run:∀ (x:Ex) (r:Option (Ex × Tm × Heap)),(∀ m n,N<=m->N<=n->aI (lu tab eZ m n) m false (.rangeFunc f ps a body) T H=r)->∀ T' H',r=some (x,T',H')->O9 tab false (.rangeFunc f ps a body) T H x T' H':=fun x r h T' H' e=>⟨N,fun m n hm hn=>(h m n hm hn).trans e⟩
 rcases h with ⟨h1,h2⟩ | ⟨h1,h2⟩ | ⟨id,h1,h2⟩
 ·refine ⟨_,_,_,run _ _ (fun m n hm hn=>?_) _ _ rfl,h2⟩;simp only [aI,Wo,if_false,b];rw [g m n hm hn];simp only [h1]
 ·refine ⟨_,_,_,run _ _ (fun m n hm hn=>?_) _ _ rfl,h2⟩;simp only [aI,Wo,if_false,b];rw [g m n hm hn];simp only [h1]
 ·refine ⟨_,_,_,run _ _ (fun m n hm hn=>?_) _ _ rfl,h2⟩;simp only [aI,Wo,if_false,b];rw [g m n hm hn];simp only [h1]
def L6 {f:Nat} {fn:au} {args:List AV} {H:Heap} {Q:AV->Heap->Prop} (a:tab f=some fn) (he:fn.ext=none) (hl:args.length=fn.nparams) (hn:fn.nparams<=fn.ntmps)
  (h:∀ T0:Tm,T0.length=fn.ntmps->(∀ i,i<args.length->aa T0 i=args.getD i .undef)->UT tab false fn.body T0 H fun x T' H'=>(x=.nrm\/x=.ret)/\∃ v,cr T' H' fn.results=some v/\Q v H'):Ans tab (.ent f args) H Q:=by
 refine QQ a he hl (h _ zS fun i hi=>?_);unfold aa;rw [Vh,Vh,VT hi]
variable (ev:Src->AV) (H:Heap) (id:Nat) (Q:AV->Heap->Prop)
def RA (ty:Nat) (x:Src):iC tab ev H id (.box ty x) Q=gY (gR (ev x)) fun cs=>Q (.ptr id 0) (H.put id (.cells cs ty true)):=by
 rw [gn tab ev H id Q (fun f a e=>by cases e) rfl];simp only [bg,gR];by_cases h:(ev x).cells.all AV.one=true
 ·rw [if_pos h,if_pos h]; rfl
 ·rw [if_neg h,if_neg h]; rfl
def Rv (a b:Src):iC tab ev H id (.max [a,b]) Q=gY (K4 (ev a) (ev b)) fun v=>Q v H:=by
 refine dU tab ev H id Q (fun f a e=>by cases e) ?_ rfl;simp only [aN,K4,Vq,Vw];cases ev a <;> simp <;> rfl
def Ru (a b:Src):iC tab ev H id (.min [a,b]) Q=gY (HG (ev a) (ev b)) fun v=>Q v H:=by
 refine dU tab ev H id Q (fun f a e=>by cases e) ?_ rfl;simp only [aN,HG,Vq,Vw];cases ev a <;> simp <;> rfl
end
structure WC (tab:Nat->Option au) (rd:Bool) (c:ACode) (T:Tm) (H:Heap) (Q:Ex->Tm->Heap->Prop):Prop where
 run:UT tab rd c T H Q
structure El (tab:Nat->Option au) (id:Nat) (os:List Eo) (T:Tm) (H:Heap) (Q:Tm->Heap->Prop):Prop where
 run:xF tab id os T H Q
structure lJ (tab:Nat->Option au) (ev:Src->AV) (H:Heap) (id:Nat) (o:AOp) (Q:AV->Heap->Prop):Prop where
 run:iC tab ev H id o Q
def rM:WC=UT:=by funext tab rd c T H Q; exact propext ⟨fun h=>h.run,fun h=>⟨h⟩⟩
def yX:El=xF:=by funext tab rd c T H Q; exact propext ⟨fun h=>h.run,fun h=>⟨h⟩⟩
def bT:lJ=iC:=by funext tab rd c T H Q; exact propext ⟨fun h=>h.run,fun h=>⟨h⟩⟩
abbrev GA {α:Sort _} (_:α):Type:=Unit
def gu {α:Type} (o:Option α) (Q:α->Prop) (_:GA Q):Prop:=gY o Q
def JC (v:AV) (P Q:Prop) (_:GA P) (_:GA Q):Prop:=F0 v P Q
def R8 (id:Nat) (H:Heap) (F:Nat->Heap->Prop) (_:GA F):Prop:=F id H
def RJ (v:AV) (F:AV->Prop) (_:GA F):Prop:=F v
def KF (tab:Nat->Option au) (rd:Bool) (b:ACode) (Q:Ex->Tm->Heap->Prop) (x:Ex) (T:Tm) (H:Heap):Prop:=match x with
 | .nrm=>WC tab rd b T H Q
 | x=>Q x T H
def ui (id:Nat) (Q:Ex->Tm->Heap->Prop) (x:Ex) (T:Tm) (H:Heap):Prop:=match x with
 | .exit a=>if a=id then Q .nrm T H else Q (.exit a) T H
 | x=>Q x T H
def Nr (Q:Ex->Tm->Heap->Prop) (x:Ex) (T:Tm) (H:Heap):Prop:=match x with
 | .goto _=>False
 | x=>Q x T H
def HI (Inv:Nat->Tm->Heap->Prop) (k:Nat) (Q:Ex->Tm->Heap->Prop) (x:Ex) (T:Tm) (H:Heap):Prop:=match x with
 | .nrm=>∃ a,a<k/\Inv a T H
 | x=>Q x T H
def OK (v:AV) (args:List AV) (R:Task->Prop) (_:GA R):Prop:=∃ t,iD v args=some t/\R t
def AnsH (tab:Nat->Option au) (t:Task) (H:Heap) (Q:AV->Heap->Prop) (_:GA Q):Prop:=Ans tab t H Q
def iteH (c:Prop) [Decidable c] (P Q:Prop) (_:GA P) (_:GA Q):Prop:=if c then P else Q
def Tj (tab:Nat->Option au) (rd:Bool) (body:ACode) (_:GA body) (T:Tm) (H:Heap) (Q:Ex->Tm->Heap->Prop) (_:GA Q):Prop:=WC tab rd (.loop body) T H Q
def rangeH (tab:Nat->Option au) (f:Src) (ps:List Nat) (a body:ACode) (_:GA body) (_:GA a) (T:Tm) (H:Heap) (Q:Ex->Tm->Heap->Prop) (_:GA Q):Prop:=WC tab false (.rangeFunc f ps a body) T H Q
section
variable {tab:Nat->Option au} {rd:Bool} {T:Tm} {H:Heap}
theorem wF {α:Type} (v:α) (Q:α->Prop):gu (some v) Q ()=Q v:=rfl
theorem Dm (id:Nat) (H:Heap) (F:Nat->Heap->Prop):R8 id H F ()=F id H:=rfl
theorem IK (v:AV) (F:AV->Prop):RJ v F ()=F v:=rfl
def In (b:Bool) (P Q:Prop):JC (.bool b) P Q () ()=iteH (b=true) P Q () ():=Il b P Q
def Ck (P Q:Prop):iteH True P Q () ()=P:=if_pos trivial
def UY (P Q:Prop):iteH False P Q () ()=Q:=if_neg (fun h=>h)
def F8 (f:Nat) (a b args:List AV) (R:Task->Prop):OK (.fn (.func f) a b) args R ()=R (.fn f (a++args++b)):=PS f a b args R
def AY (b:Nat) (args:List AV) (R:Task->Prop):OK (.loopv b) args R ()=R (.round b args):=Ks b args R
def AnsH.use {t:Task} {H:Heap} {P Q:AV->Heap->Prop} (h:Ans tab t H P) (a:∀ v H',P v H'->Q v H'):AnsH tab t H Q ():=h.mono a
def AnsH.eq {t:Task} {H:Heap} {w:AV} {P:Heap->Prop} {Q:AV->Heap->Prop} (h:Ans tab t H fun v H'=>v=w/\P H') (a:∀ H',P H'->Q w H'):AnsH tab t H Q ():=h.mono fun _ H' ⟨e,h1⟩=>e ▸ a H' h1
def iteH.split {c:Prop} [Decidable c] {P Q:Prop} (h1:c->P) (h2:¬ c->Q):iteH c P Q () ():=by
 unfold iteH;split
 ·exact h1 ‹_›
 ·exact h2 ‹_›
end
section
variable {tab:Nat->Option au} (ev:Src->AV) (H:Heap) (id:Nat) (Q:AV->Heap->Prop)
theorem QU (x:Src):lJ tab ev H id (.mv x) Q=RJ (ev x) (fun v=>Q v H) ():=by rw [bT]; rfl
theorem Pp (f:Fn) (a b:List Src):lJ tab ev H id (.mkfn f a b) Q=RJ (.fn f (a.map ev) (b.map ev)) (fun v=>Q v H) ():=by rw [bT]; rfl
def Mz (ty:Nat) (z:List AV):lJ tab ev H id (.alloc ty z) Q=Q (.ptr id 0) (H.put id (.cells z ty true)):=by rw [bT]; exact MF tab ev H id Q ty z
theorem Pn (c a b:Src):lJ tab ev H id (.pick c a b) Q=gu (IU (ev c) (ev a) (ev b)) (fun v=>Q v H) ():=by rw [bT,Py]; rfl
theorem GD (op:BinOp) (k:BK) (x y:Src):lJ tab ev H id (.bin op k x y) Q=gu (ca op k (ev x) (ev y)) (fun v=>Q v H) ():=by rw [bT,RB]; rfl
theorem SU (op:UnOp) (x:Src):lJ tab ev H id (.un op x) Q=gu (RP op (ev x)) (fun v=>Q v H) ():=by rw [bT,SX]; rfl
theorem Pu (k:IntKind) (x:Src):lJ tab ev H id (.conv k x) Q=gu (JB k (ev x)) (fun v=>Q v H) ():=by rw [bT,PB]; rfl
theorem Rp (x:Src):lJ tab ev H id (.len x) Q=gu (lenV (ev x)) (fun v=>Q v H) ():=by rw [bT,Rx]; rfl
theorem Rq (sz:Nat) (x i:Src):lJ tab ev H id (.indexAddr sz x i) Q=gu (cL sz (ev x) (ev i)) (fun v=>Q v H) ():=by rw [bT,Ry]; rfl
theorem SW (off:Nat) (x:Src):lJ tab ev H id (.fieldAddr off x) Q=gu (AD off (ev x)) (fun v=>Q v H) ():=by rw [bT,SY]; rfl
theorem Mt (k:Option Nat) (off:Nat) (x:Src):lJ tab ev H id (.field k off x) Q=gu (DX k off (ev x)) (fun v=>Q v H) ():=by rw [bT,MD]; rfl
theorem Rr (i:Nat) (x:Src):lJ tab ev H id (.extract i x) Q=gu (FK i (ev x)) (fun v=>Q v H) ():=by rw [bT,Rz]; rfl
theorem My (z:List AV) (ps:List ((Nat × Nat) × Src)):lJ tab ev H id (.build z ps) Q=gu (iJ z (ps.map fun p=>(p.1,ev p.2))) (fun v=>Q v H) ():=by rw [bT,ME]; rfl
theorem Ms (x:Src):lJ tab ev H id (.nilCheck x) Q=gu (Ac (ev x)) (fun v=>Q v H) ():=by rw [bT,MC]; rfl
theorem Mp (sz:Nat) (x:Src) (lo hi mx:Option Src):lJ tab ev H id (.slice sz x lo hi mx) Q=gu (bW sz (ev x) (lo.map ev) (hi.map ev) (mx.map ev)) (fun v=>Q v H) ():=by rw [bT,MB]; rfl
theorem Pr (k:Option Nat) (x:Src):lJ tab ev H id (.load k x) Q=gu (aW H k (ev x)) (fun v=>Q v H) ():=by rw [bT,PA]; rfl
theorem J3 (size bytes ty:Nat) (z:List AV) (x y:Src):lJ tab ev H id (.append size bytes ty z x y) Q=gu (bg ev H id (.append size bytes ty z x y)) (fun r=>Q r.1 r.2) ():=by rw [bT,Ka]; rfl
theorem Po (ty size bytes:Nat) (z:List AV) (l c:Src):lJ tab ev H id (.mksl ty size bytes z l c) Q=gu (bg ev H id (.mksl ty size bytes z l c)) (fun r=>Q r.1 r.2) ():=by rw [bT,Pz]; rfl
theorem Bz (ty size:Nat) (z:List AV) (n:Nat) (ps:List ((Nat × Nat) × Src)):lJ tab ev H id (.buildSlice ty size z n ps) Q=gu (dj z (ps.map fun p=>(p.1,ev p.2))) (fun cs=>Q (.own id 0 n n size true) (H.put id (.cells cs ty true))) ():=by rw [bT,BA]; rfl
theorem Rs (ty:Nat) (x:Src):lJ tab ev H id (.box ty x) Q=gu (gR (ev x)) (fun cs=>Q (.ptr id 0) (H.put id (.cells cs ty true))) ():=by rw [bT,RA]; rfl
theorem Ro (a b:Src):lJ tab ev H id (.max [a,b]) Q=gu (K4 (ev a) (ev b)) (fun v=>Q v H) ():=by rw [bT,Rv]; rfl
theorem Rm (a b:Src):lJ tab ev H id (.min [a,b]) Q=gu (HG (ev a) (ev b)) (fun v=>Q v H) ():=by rw [bT,Ru]; rfl
theorem Mo (n:Nat) (x v:Src):lJ tab ev H id (.store n x v) Q=gu (qw H n (ev x) (ev v)) (fun a=>Q .undef a) ():=by rw [bT,MA]; rfl
theorem Pw (f:Src) (args:List Src):lJ tab ev H id (.call f args) Q=OK (ev f) (args.map ev) (fun t=>AnsH tab t H Q ()) ():=by rw [bT]; rfl
end
section
variable {tab:Nat->Option au} {rd:Bool} {T:Tm} {H:Heap} {Q:Ex->Tm->Heap->Prop}
def Pv (c:Src) (a b:ACode):WC tab rd (.cond c a b) T H Q=JC (c.ev T) (WC tab rd a T H Q) (WC tab rd b T H Q) () ():=by rw [rM]; exact MG c a b
theorem JZ (ops:List Eo):WC tab rd (.region ops) T H Q=R8 H.next { H with next:=H.next+ops.length } (fun id H'=>El tab id ops T H' (Q .nrm)) ():=by rw [rM,yX]; rfl
def Rk (a b:ACode):WC tab rd (.seq a b) T H Q=WC tab rd a T H (KF tab rd b Q):=by
 rw [rM,PC];congr 1
 funext x T H
 cases x <;> simp [KF,rM]
def Et (id:Nat) (a:ACode):WC tab rd (.block id a) T H Q=WC tab rd a T H (ui id Q):=by rw [rM]; exact Kc id a
def Mq (a:ACode):WC tab rd (.scope a) T H Q=WC tab rd a T H (Nr Q):=by rw [rM]; exact Kb a
theorem Pm:WC tab rd .skip T H Q=Q .nrm T H:=by rw [rM]; rfl
theorem Pt (id:Nat):WC tab rd (.exit id) T H Q=Q (.exit id) T H:=by rw [rM]; rfl
theorem Ps (id:Nat):WC tab rd (.goto id) T H Q=Q (.goto id) T H:=by rw [rM]; rfl
theorem Rl:WC tab rd .ret T H Q=Q .ret T H:=by rw [rM]; rfl
theorem Nm (b:ACode):KF tab rd b Q .nrm T H=WC tab rd b T H Q:=rfl
theorem Nl (b:ACode):KF tab rd b Q .ret T H=Q .ret T H:=rfl
theorem KE (b:ACode) (i:Nat):KF tab rd b Q (.exit i) T H=Q (.exit i) T H:=rfl
theorem KC (b:ACode) (i:Nat):KF tab rd b Q (.goto i) T H=Q (.goto i) T H:=rfl
theorem OP (i:Nat):ui i Q .nrm T H=Q .nrm T H:=rfl
theorem OO (i:Nat):ui i Q .ret T H=Q .ret T H:=rfl
theorem LQ (i j:Nat):ui i Q (.goto j) T H=Q (.goto j) T H:=rfl
theorem LS (i j:Nat):ui i Q (.exit j) T H=iteH (j=i) (Q .nrm T H) (Q (.exit j) T H) () ():=rfl
theorem Np:Nr Q .nrm T H=Q .nrm T H:=rfl
theorem No:Nr Q .ret T H=Q .ret T H:=rfl
theorem KG (i:Nat):Nr Q (.exit i) T H=Q (.exit i) T H:=rfl
theorem Fo (Inv:Nat->Tm->Heap->Prop) (k:Nat):HI Inv k Q .nrm T H = ∃ a,a<k/\Inv a T H:=rfl
theorem N3 (Inv:Nat->Tm->Heap->Prop) (k:Nat):HI Inv k Q .ret T H=Q .ret T H:=rfl
theorem La (Inv:Nat->Tm->Heap->Prop) (k i:Nat):HI Inv k Q (.exit i) T H=Q (.exit i) T H:=rfl
theorem K9 (Inv:Nat->Tm->Heap->Prop) (k i:Nat):HI Inv k Q (.goto i) T H=Q (.goto i) T H:=rfl
theorem Pq (c:ACode):WC tab rd (.loop c) T H Q=Tj tab rd c () T H Q ():=rfl
theorem Mr (f:Src) (ps:List Nat) (a c:ACode):WC tab false (.rangeFunc f ps a c) T H Q=rangeH tab f ps a c () () T H Q ():=rfl
end
section
variable {tab:Nat->Option au} {T:Tm} {H:Heap} {Q:Tm->Heap->Prop} {id:Nat}
theorem CV:El tab id [] T H Q=Q T H:=by rw [yX]; rfl
theorem yZ (d:Option Nat) (o:AOp) (os:List Eo):El tab id (⟨d,o,none⟩ :: os) T H Q=lJ tab (Src.ev T) H id o fun v H'=>El tab (id+1) os (putT T d v) H' Q:=by rw [yX,bT]; rfl
def pa {f:Nat} {fn:au} {args:List AV} {Q:AV->Heap->Prop} (a:tab f=some fn) (he:fn.ext=none) (hl:args.length=fn.nparams) (hn:fn.nparams<=fn.ntmps)
  (h:∀ T0:Tm,T0.length=fn.ntmps->(∀ i,i<args.length->aa T0 i=args.getD i .undef)->WC tab false fn.body T0 H fun x T' H'=>(x=.nrm\/x=.ret)/\∃ v,cr T' H' fn.results=some v/\Q v H'):Ans tab (.fn f args) H Q :=
 QP a he hl hn fun T0 h1 h2=>(h T0 h1 h2).run
def Bp {f:Nat} {fn:au} {args:List AV} {Q:AV->Heap->Prop} (a:tab f=some fn) (he:fn.ext=none) (hl:args.length=fn.nparams) (hn:fn.nparams<=fn.ntmps)
  (h:∀ T0:Tm,T0.length=fn.ntmps->(∀ i,i<args.length->aa T0 i=args.getD i .undef)->WC tab false fn.body T0 H fun x T' H'=>(x=.nrm\/x=.ret)/\∃ v,cr T' H' fn.results=some v/\Q v H'):Ans tab (.ent f args) H Q :=
 L6 a he hl hn fun T0 h1 h2=>(h T0 h1 h2).run
end
section
variable {tab:Nat->Option au}
def rangeH.use {f:Src} {ps:List Nat} {a body:ACode} {T:Tm} {H:Heap} {Q:Ex->Tm->Heap->Prop} {fi:Nat} {args:List AV} (b:iD (f.ev T) [.loopv H.next]=some (.fn fi args))
  (h:Ans tab (.ent fi args) (({ H with next:=H.next+1 }:Heap).put H.next (.loop T ps a body .ready none)) fun _ H2 =>
   (H2.get H.next=some (.loop T ps a body .ready none)/\Q .nrm T (H2.kill H.next))\/(H2.get H.next=some (.loop T ps a body .done (some .ret))/\Q .ret T (H2.kill H.next)) \/
   (∃ id,H2.get H.next=some (.loop T ps a body .done (some (.exit id)))/\Q (.exit id) T (H2.kill H.next))):rangeH tab f ps a body () () T H Q ():=by
 unfold rangeH;exact ⟨CW b h⟩
def R7 (b:Nat) (T:Tm) (ps:List Nat) (a body:ACode) (Q:AV->Heap->Prop) (x:Ex) (_:Tm) (H2:Heap):Prop:=H2.get b=some (.loop T ps a body .busy none)/\match x with
 | .nrm=>Q (.bool true) (H2.put b (.loop T ps a body .ready none))
 | .ret=>Q (.bool false) (H2.put b (.loop T ps a body .done (some .ret)))
 | .exit id=>Q (.bool false) (H2.put b (.loop T ps a body .done (some (.exit id))))
 | .goto g=>Q (.bool false) (H2.put b (.loop T ps a body .done (some (.goto g))))
theorem ko (b:Nat) (T T':Tm) (ps:List Nat) (a body:ACode) (Q:AV->Heap->Prop) (H2:Heap):R7 b T ps a body Q .nrm T' H2=(H2.get b=some (.loop T ps a body .busy none)/\Q (.bool true) (H2.put b (.loop T ps a body .ready none))):=rfl
def mR {b:Nat} {args:List AV} {T:Tm} {ps:List Nat} {a body:ACode} {H:Heap} {Q:AV->Heap->Prop} (hb:H.get b=some (.loop T ps a body .ready none)) (hl:args.length=ps.length)
  (h:WC tab true a (oI T (ps.zip args)) H fun x T1 c=>x=.nrm/\c.get b=some (.loop T ps a body .ready none)/\WC tab true body T1 (c.put b (.loop T ps a body .busy none)) (R7 b T ps a body Q)):Ans tab (.round b args) H Q:=by
 refine L5 hb hl ?_;simp only [rM] at h;refine Eq.mpr (congrArg (UT tab true a (oI T (ps.zip args)) H) ?_) h
 funext x T1 c
 refine congrArg (fun p=>x=.nrm/\c.get b=some (.loop T ps a body .ready none)/\p) ?_;refine congrArg (UT tab true body T1 (c.put b (.loop T ps a body .busy none))) ?_
 funext y T2 H2
 cases y <;> rfl
end
end Go.Proofs.YtkmepoeklibegaaGreat.Ev
