/- A part. -/
import Derived.Test.YteaefaohjlmjdaaGreatA0
import Derived.Test.YteaefaohjlmjdaaGreatEvMem
import Derived.Scope
import Derived.Maps.RangeRun
import Derived.Sort.Row
import Derived.Sort.Grow
import Derived.Sort.Statements
import Derived.Deep.Draws
import Derived.Laws.Externs
import Derived.Lib.Bytealg
import Derived.CallsIn
set_option linter.all false
namespace Go.Proofs.YteaefaohjlmjdaaGreat.Ev
open Go
def Kv {α β:Type} {f:α->Option β}:∀ (xs:List α) (a:List β),xs.mapM f=some a->a.length=xs.length/\∀ (i:Nat) (x:α),xs[i]? = some x->∃ y,a[i]? = some y/\f x=some y
 | [],a,h=>by simp at h; subst h; exact ⟨rfl,fun i x h=>by simp at h⟩
 | x :: xs,a,h=>by
  simp only [Yi,YZ,kS,cO] at h;obtain ⟨y,hy,c,b,h⟩:=h;cases h;obtain ⟨h1,h2⟩:=Kv xs c b;refine ⟨by simp [h1],fun i x' hx=>?_⟩;cases i with
  | zero=>simp at hx; subst hx; exact ⟨y,rfl,hy⟩
  | succ i=>simpa using h2 i x' (by simpa using hx)
theorem getD_of {α:Type} {l:List α} {i:Nat} {x d:α} (h:l[i]? = some x):l.getD i d=x:=by rw [iF,h]; rfl
def UR (l:List DI) (i:Nat):jT :=
 let d:=l.getD i default
 { dst:=d.dst,op:=d.op,guard:=d.guard,uses:=((d.op.slots++(match d.guard with | some (t,_)=>[t] | none=>[])).eraseDups).map fun t=>(t,KE l i d.preds t),cls:=d.cls,looks:=Kz l i:jT }
def JF {P:Program} {ops:Array Oper} {os:List Oper} {H:List (List Nat)} {l:List DI} {ds:List jT} (u:∀ (i:Nat) (o:Oper),os[i]? = some o->ops[i]? = some o)
  (hl:os.zipIdx.mapM (fun (o,i)=>UT P ops H o i)=some l) (A:(List.range l.length).map (UR l)=ds) (D:JG os l ds=true):vG P ops l ds/\l.length=os.length:=by
 obtain ⟨h1,h2⟩:=Kv _ _ hl;have f:l.length=os.length:=by simpa using h1
 simp only [JG,Ky] at D;obtain ⟨⟨⟨ok1,w⟩,z⟩,m⟩:=D;have I:ds.length=l.length:=by rw [<- A]; simp
 have F:∀ i,i<l.length->∃ o,os[i]? = some o:=fun i hi=>⟨os[i]'(f ▸ hi),eA _⟩
 have E:∀ i,i<l.length->∃ o,ops[i]? = some o/\UT P ops H o i=some (l.getD i default):=by
  intro i hi;have hx:os.zipIdx[i]? = some (os[i]'(f ▸ hi),i):=by simp [f ▸ hi]
  obtain ⟨y,hy,J⟩:=h2 i _ hx;exact ⟨_,u i _ (eA (f ▸ hi)),by rw [getD_of hy]; exact J⟩
 have C:∀ i o,i<l.length->ops[i]? = some o->os.getD i default=o:=by
  intro i o hi b;obtain ⟨L,B⟩:=F i hi
  have:=u i L B
  rw [b] at this; cases this;exact getD_of B
 have K:l.length<=ops.size:=by
  rcases YO l.length with h | h
  ·omega
  ·obtain ⟨o,b⟩:=F (l.length-1) zO
   have:=(XJ.1 (u _ _ b)).1
   omega
 simp only [Kj,GR,XU,Ky,OL,Yp,beq_iff_eq,decide_eq_true_eq,Yz] at ok1;simp only [Kk,GR,XU,Ky,Yp,XE,bne_iff_ne,ne_eq,Yz,Option.isNone_iff_eq_none] at w;simp only [OM,GR,XU] at z;simp only [Kl,GR,XU,Ky] at m;refine ⟨⟨K,I,fun i hi=>?_,fun i hi=>?_,fun i hi=>?_,fun i o hi b j hj=>?_,fun i o hi b p hp=>?_,fun i j r hj h1 h2=>?_,fun i j r hj h1 h2=>?_,fun i hi t j v=>?_,fun i hi t v j' s hd=>?_,fun i hi k adds hm a ha=>?_,fun i hi hc k M=>?_,fun i hi hc=>?_⟩,f⟩
 ·obtain ⟨o,b,hd⟩:=E i hi;simp only [UT,wI] at hd;obtain ⟨g,hg,hd⟩:=hd;exact ⟨o,b,by unfold fe; rw [<- hd],by rw [<- hd]; exact hg,by rw [<- hd]⟩
 ·obtain ⟨x,hx,he⟩:∃ x,ds[i]? = some x/\x.dst=fe l i/\x.op=(l.getD i default).op/\x.guard=(l.getD i default).guard/\x.cls=fP l i:=by
   rw [<- A,XA,Zv hi];exact ⟨_,rfl,rfl,rfl,rfl,rfl⟩
  rw [getD_of hx];exact he
 ·obtain ⟨o,b,hd⟩:=E i hi;simp only [UT,wI] at hd;obtain ⟨g,hg,hd⟩:=hd;unfold fP;rw [<- hd];simp only [Sj];split
  ·exact .inl rfl
  ·split
   ·exact .inr (.inl rfl)
   ·exact .inr (.inr rfl)
 ·have he:=C i o hi b;exact (ok1 i hi).1 j (by rw [he]; exact hj)
 ·have he:=C i o hi b;obtain ⟨j,hj,hh⟩:=(ok1 i hi).2 p hp;rw [he] at hj;exact ⟨j,hj,hh⟩
 ·rcases (w j hj i r).1 with (h | h) | h
  ·exact absurd h h1
  ·exact absurd h2 h
  ·exact h
 ·rcases (w j hj i r).2 with h | h
  ·rw [show (l.getD i default).cls=2 from h1,show (l.getD j default).cls=2 from h2] at h; simp at h
  ·exact h
 ·have:=z i hi (t,some j) v
  simp only [ON,Ky,GR,XU,Yp,beq_iff_eq,decide_eq_true_eq,Yz,bne_iff_ne,ne_eq] at this;obtain ⟨⟨⟨c,d⟩,e⟩,n⟩:=this;refine ⟨c,d,e,fun j' s hd=>?_⟩;rcases n j' s with ((h | h) | h) | h
  ·exact absurd hd h
  ·exact .inl h
  ·exact .inr (.inl h)
  ·exact .inr (.inr h)
 ·have:=z i hi (t,none) v
  simp only [ON,GR,XU,Yp,beq_iff_eq,Yz,bne_iff_ne,ne_eq] at this;rcases this j' s with (h | h) | h
  ·exact absurd hd h
  ·exact .inl h
  ·exact .inr h
 ·have:=(m i hi).1 (k,adds) hm
  simp only [OP,GR,Ky,beq_iff_eq,decide_eq_true_eq,Yz,XE,] at this;obtain ⟨⟨⟨c,d⟩,e⟩,n⟩:=this a ha;exact ⟨c,d,by simpa using e,n⟩
 ·have:=(m i hi).2
  rw [if_pos (show (l.getD i default).cls=0 from hc)] at this;simp only [OO,GR,XU,Yp,OL,Ky,beq_iff_eq,decide_eq_true_eq,Yz] at this;rcases this k zO with ⟨q,G,h | h⟩ | ⟨p,hp,rfl⟩
  ·exact .inl ⟨q,G,h.1,h.2⟩
  ·exact .inr (.inl ⟨q,G,h.1,h.2⟩)
  ·exact .inr (.inr ⟨p.2,hp⟩)
 ·have:=(m i hi).2
  rw [if_neg (show ¬ (l.getD i default).cls=0 by have:(l.getD i default).cls=2:=hc; omega),if_neg (show ¬ (l.getD i default).cls=1 by have:(l.getD i default).cls=2:=hc; omega)] at this;unfold Sa at this;split at this
  ·rename_i p hp;simp only [Ky,GR,XU,beq_iff_eq,decide_eq_true_eq] at this;obtain ⟨⟨c,d⟩,e⟩:=this;refine ⟨p.1,p.2,hp,c,d,fun a ha=>?_⟩
   have:=e a ha
   have h1:(a∈dR l (p.1+1)) ↔ (dR l (p.1+1)).contains a=true:=by simp
   rw [h1,this]
   simp
  ·cases this
def Hi {P:Program} {ops:Array Oper} {ds:List jT} {late:List Nat} (h:K5 P ops=some (ds,late)):∃ l,vG P ops l ds/\l.length=ops.size/\late=ym l:=by
 simp only [K5] at h;split at h
 ·cases h
 rename_i l hl;split at h
 rotate_left
 ·cases h
 rename_i b;simp only [QW,Prod.mk.injEq] at h;obtain ⟨a,c⟩:=h;rw [a] at b;obtain ⟨G,d⟩:=JF (ops:=ops) (os:=ops.toList) (fun i o h=>by simpa using h) hl a b;exact ⟨l,G,by simpa using d,c.symm⟩
def vE {l:List DI} {ds:List jT} (a:ds.length=l.length) (hc:∀ i,i<l.length->(ds.getD i default).cls=fP l i) :
  ∀ q,q<=l.length->((ds.take q).filter fun d=>d.cls == 2).length=((List.range q).filter fun i=>(l.getD i default).cls == 2).length
 | 0,_=>rfl
 | q+1,h=>by
  rw [BU zO,List.range_succ,XY,XY,C5,C5,vE a hc q zO]
  have:=hc q zO
  rw [iF,eA zO,Yc] at this;congr 1;simp only [YR,ZH];rw [this,show (l.getD q default).cls=fP l q from rfl];split <;> rfl
section
variable {P:Program} {ops:Array Oper} {l:List DI} {ds:List jT} {T0:Tm} {s:DS} {base:Nat} {F:Nat->Prop} {μ0:Mu} {H0:Heap} {w0:World} {df:List Deferred}
def Pw {cal:oJ} (y:nR P cal) {fence:Fence} {rd:Bool} (x:FenceOK fence rd) {n:Nat} {Q:Exit->Act->World->Prop} (G:vG P ops l ds) (E:l.length=ops.size)
  (A:∀ i,i<l.length->UX cal base T0 s i (ds.getD i default)) (B:∀ i,i<l.length->kP base T0 s i (ds.getD i default)=true)
  (q:∀ S k μ a w,(∀ j,j<l.length->S j=true)->Inv P l T0 s base F μ0 H0 w0 df S k μ a w->Q .normal a w) :
  ∀ (d:Nat) (b:Array Bool) (k:Nat) (μ:Mu) (a:Act) (w:World),b.size=l.length->Nm (fun j=>b.getD j false) l.length=d ->
   Inv P l T0 s base F μ0 H0 w0 df (fun j=>b.getD j false) k μ a w->wpAnyIn fence n P .any ops Q d b a w:=by
 intro d
 induction d with
 | zero =>
  intro b k μ a w c t J;have m:=Hw _ t;refine ⟨?_,q _ k μ a w m J⟩
  apply List.eq_nil_iff_forall_not_mem.2
  intro j hj;have h0:=(mem_ready.1 hj).1;have hlt:j<b.size:=by
   rcases Nat.lt_or_ge j b.size with h | h
   ·exact h
   ·simp [ZD h] at h0
  have:=m j (c ▸ hlt)
  simp [hlt] at h0 this;rw [h0] at this; cases this
 | succ d C =>
  intro b k μ a w c t J;refine ⟨fun hr=>?_,fun i hi=>?_⟩
  ·refine q _ k μ a w ?_ J;intro j
   induction j using Nat.strongRecOn with
   | _ j hj =>
    intro hlt;cases f:b.getD j false with
    | true=>rfl
    | false =>
     exfalso
     obtain ⟨o,g,_⟩:=G.op j hlt
     have:j∈Region.ready .any ops b:=by
      refine mem_ready.2 ⟨?_,o,g,fun e he hb=>?_⟩
      ·have:j<b.size:=zO
       simp [this] at f ⊢; exact f
      ·have hm:e.on∈mg o:=by
        unfold mg;exact nC.2 ⟨e,C4.2 ⟨by simpa using he,hb⟩,rfl⟩
       have z:=G.back j o hlt g _ hm;exact hj e.on z zO
     rw [hr] at this; cases this
  ·obtain ⟨h0,o,g,m⟩:=mem_ready.1 hi;have hlt:i<b.size:=by
    rcases Nat.lt_or_ge i b.size with h | h
    ·exact h
    ·simp [ZD h] at h0
   have f:b.getD i false=false:=by simp [hlt] at h0 ⊢; exact h0
   have u:(fun j=>(b.setIfInBounds i true).getD j false)=add (fun j=>b.getD j false) i:=by
    funext j
    by_cases e:j=i
    ·subst e; simp [add,hlt]
    ·rw [getD_set_ne false (Ne.symm e)]; simp [add,e]
   refine MN y x J G (A i (c ▸ hlt)) (LU (B i (c ▸ hlt)) k) (c ▸ hlt) f (fun p hp=>?_) fun a' w' μ' D v=>?_
   ·obtain ⟨j,hj,hh⟩:=G.pre i o (c ▸ hlt) g p hp;unfold mg at hj;obtain ⟨e,he,rfl⟩:=nC.1 hj;rw [C4] at he;have r:=m e (by simpa using he.1) he.2;rcases hh with rfl | hh
    ·exact r
    ·refine J.cl e.on ?_ r p hh
     have:=G.back i o (c ▸ hlt) g e.on (by unfold mg; exact nC.2 ⟨e,C4.2 he,rfl⟩)
     omega
   ·refine C _ D μ' a' w' (by simp [c]) ?_ (u ▸ v);rw [u]
    have:=K2 (S:=fun j=>b.getD j false) f l.length (c ▸ hlt)
    omega
def HR.of_heap {μ:Mu} {H:Heap} {w w':World} (h:HR P μ F H w) (a:w'.heap=w.heap):HR P μ F H w' :=
 ⟨fun b L hb=>a ▸ h.dom b L hb,fun c hc=>a ▸ h.fb c hc,fun b e hb=>let ⟨L,hL,d⟩:=h.ent b e hb; ⟨L,hL,d.mono (fun _ _ h=>h) (fun _ h=>h) (fun c _=>by rw [a]) (by rw [a]) (fun hr=>d.notF hr)⟩,h.inj,fun g cs hg=>(h.gl g cs hg).mono (fun _ _ h=>h) (fun _ h=>h) fun c _=>by rw [a]⟩
def JE {cal:oJ} (Z:nR P cal) (hm:P.follows .mixedOrders=true) {fence:Fence} {rd:Bool} (R:FenceOK fence rd) {n id:Nat} {late:List Nat} {Q:Exit->Act->World->Prop} {T T':Tm} {H H':Heap} {μ:Mu} {a:Act} {w:World}
  (hc:K5 P ops=some (ds,late)) (f:Hj cal ds late T H=some (T',H')) (hT:LR μ F w T a.tmps.toList) (hH:HR P μ F H w)
  (W:∀ a' w' μ',a'.defers=a.defers->LR μ' F w' T' a'.tmps.toList->HR P μ' F H' w'->Stp tG P μ F H w μ' F H' w'->Q .normal a' w') :
  (Code.region id ops true).wpIn fence n P Q a w:=by
 obtain ⟨l,G,r,rfl⟩:=Hi hc;unfold Hj at f;split at f
 ·cases f
 rename_i s hs;split at f
 rotate_left
 ·cases f
 rename_i ae;cases f;have z:∀ d∈ds,d.cls=0\/d.cls=1\/d.cls=2:=by
  intro d hd;obtain ⟨i,hi,rfl⟩:=U0 hd;have B:i<l.length:=by rw [<- G.dlen]; exact hi
  have h1:=G.cl i B;rw [<- (G.dso i B).2.2.2,getD_of (eA hi)] at h1;exact h1
 obtain ⟨k1,k2,k3,k4,k5⟩:=MO ds 0 _ _ z hs;have hcl:∀ i,i<l.length->(ds.getD i default).cls=fP l i:=fun i hi=>(G.dso i hi).2.2.2;have p:∀ i,i<l.length->ds[i]? = some (ds.getD i default):=by
  intro i hi
  have:i<ds.length:=by rw [G.dlen]; exact hi
  rw [eA this];simp [iF,eA this]
 have Y:s.Vs.length=l.length:=by rw [k2,G.dlen]; simp
 have ad:∀ i,i<l.length->UX cal H.next T s i (ds.getD i default):=by
  intro i hi;obtain ⟨s1,s2,v,I,e3,e4,e5⟩:=k5 i _ (p i hi);rw [RO] at v;refine Tj v I (z _ (Cv (p i hi))) (by simpa using e3) (by simpa using e4) (fun u hu j hj=>?_) (fun h2 k adds hl=>?_)
  ·obtain ⟨t,u⟩:=u;have hj:u=some j:=hj;subst hj;exact (G.useS i hi t j hu).2.2.1
  ·have y:fP l i=2:=(hcl i hi) ▸ h2;obtain ⟨kk,ag,C,K,M,_⟩:=G.act i hi y;rw [hl] at C; cases C;refine ⟨?_,fun a ha=>(G.look i hi k adds (by rw [hl]; exact Al ..) a ha).2.2.2⟩;rw [e5,vE G.dlen hcl i zO];obtain ⟨q1,q2⟩:=PZ hi y
   have:=HZ q1 K (q2.trans M.symm)
   rw [this]
   simp; omega
 have g:s.Cs.getD 0 default = { H with next:=H.next+ds.length }:=by rw [wg k1.2.1 (by simp)]; rfl
 have O:s.Cs.length=(aH l).length+1:=by
  have:=vE G.dlen hcl l.length (o0 _)
  rw [MU (by rw [G.dlen]; exact o0 _)] at this;rw [k4,this]; simp [aH]; omega
 obtain ⟨w1,m⟩:∃ w1,w1 = { w with drawn:=w.drawn+1 }:=⟨_,rfl⟩
 have U:HR P μ F H w1:=hH.of_heap (by rw [m]);have N:HR P μ F (s.Cs.getD 0 default) w1:=by rw [g]; exact U.bump _
 have af:Stp tG P μ F H w μ F H w1:=by
  subst m;exact ⟨fun _ _ h=>h,fun _ h=>h,o0 _,fun _ _ _=>rfl,fun b L hb hL=>.inr ⟨b,L,hb,hL,rfl⟩,o0 _,fun _ _ _ h=>h,fun b L h=>.inl ⟨b,L,h,rfl⟩,fun b e h _ _=>⟨e,h⟩,fun b e L h hL=>.inr ⟨b,e,L,h,hL,rfl⟩,Tp.draw,rfl,rfl⟩
 have hz:Hh l s H.next (fun _=>false) 0=s.Cs.getD 0 default:=by
  unfold Hh
  have:Fb l (fun _=>false) 0=[]:=by simp [Fb]
  rw [this]; rfl
 have D:∀ j,(Array.replicate ops.size false).getD j false=false:=by
  intro j;rcases Nat.lt_or_ge j ops.size with h | h
  ·simp [h]
  ·simp [ZD (show (Array.replicate ops.size false).size<=j by simpa using h)]
 have E:Inv P l T s H.next F μ (s.Cs.getD 0 default) w1 a.defers (fun j=>(Array.replicate ops.size false).getD j false) 0 μ a w1:=by
  have hf:(fun j=>(Array.replicate ops.size false).getD j false)=fun _=>false:=funext D;rw [hf];refine ⟨fun j _ h=>(by cases h),xq _,fun q _=>(by simp),?_,by rw [hz]; exact N,fun j hj _ _=>?_,?_,fun j hj _=>kF hH (Ob _ _),by rw [hz]; exact Stp.refl _ _ _ _ _ _,rfl⟩
  ·rw [P3]; exact LR.mono (w:=w) (w':=w1) (fun _ _ h=>h) (fun _ h=>h) (fun _ _=>by rw [m]) hT
  ·rw [g];cases hg:H.get (H.next+j) with
   | none=>exact hg
   | some e =>
    obtain ⟨L,hL,_⟩:=hH.ent _ e hg;rw [kF hH (Ob _ _)] at hL; cases hL
  ·rw [g,G.dlen]; exact o0 _
 refine wpIn_region_any hm ?_;rw [<- m];refine Pw Z R G r ad (fun i hi=>?_) (fun S k μ' a' w' o J=>?_) ops.size _ 0 μ a w1 (by simp [r]) ?_ E
 ·have:=Gf ds 0 ae i _ (p i hi)
  rwa [RO] at this
 ·have hk:k=(aH l).length:=by
   rcases Nat.lt_or_ge k (aH l).length with h | h
   ·have:=(J.act k h).1 (o _ (sE h).1); omega
   ·have:=J.kle; omega
  subst hk;have X:TS l T s S=gM T ds s.Vs:=by
   rw [L6 G.dlen Y (fun i hi=>(G.dso i hi).1)];unfold TS
   apply Ym
   intro t _;exact AP _ o
  have ab:Fb l S (aH l).length=ym l:=by
   rw [<- Rp];unfold Fb
   apply Z5
   intro x hx;rw [o x (by simpa using hx)]
  have aa:s.Cs.getLastD default=s.Cs.getD (aH l).length default:=by
   rw [List.getLastD_eq_getLast?,List.getLast?_eq_getElem?,O,iF]; rfl
  have V:Hh l s H.next S (aH l).length=dL H.next s.Es (s.Cs.getLastD default) (ym l):=by
   unfold Hh; rw [ab,aa]
  have A:=J.hr;have c:=J.st;rw [V] at A c;refine W a' w' μ' J.df (X ▸ J.tm) A (af.trans ?_);rw [g] at c;exact ⟨c.mu,c.fr,c.size,c.keep,c.rw,B5 (Ob _ _) c.next,fun b hb _ hn=>c.new b (Eb hb (Ob _ _)) zO hn,c.rng,fun b e hb hl _=>c.old b e hb (Eb hl (Ob _ _)) zO,c.alv,c.tape,c.os,c.out⟩
 ·rw [K0 _ (fun j _=>D j),r]
end
section
variable {μ μ':Mu} {F:Nat->Prop} {w w':World}
def VR.back (q:∀ b L,μ b=some L->μ' b=some L) {c:AV} {v0:Value} (h0:VR μ F w c v0):∀ {v:Value},VR μ' F w' c v->VR μ F w' c v:=by
 induction h0 with
 | undef v0=>intro v h; exact .undef v
 | bool b=>intro v h; cases h; exact .bool b
 | int k n=>intro v h; cases h; exact .int k n
 | str s=>intro v h; cases h; exact .str s
 | nilPtr=>intro v h; cases h; exact .nilPtr
 | nilSl=>intro v h; cases h; exact .nilSl
 | nilFn=>intro v h; cases h; exact .nilFn
 | nilIf=>intro v h; cases h; exact .nilIf
 | nilMap=>intro v h; cases h; exact .nilMap
 | agg cs vs hl B g =>
  intro v h;cases h with
  | agg _ us A C =>
   refine .agg cs us A fun i c u hc e=>?_;obtain ⟨x,hx⟩:∃ x,vs[i]? = some x:=⟨vs[i]'(by have:=(B4.1 hc).1; omega),XT _⟩
   exact g i c x hc hx (C i c u hc e)
 | tup cs vs hl B g =>
  intro v h;cases h with
  | tup _ us A C =>
   refine .tup cs us A fun i c u hc e=>?_;obtain ⟨x,hx⟩:∃ x,vs[i]? = some x:=⟨vs[i]'(by have:=(B4.1 hc).1; omega),XT _⟩
   exact g i c x hc hx (C i c u hc e)
 | sl0 a cap =>
  intro v h;cases h with
  | sl0 a cap=>exact .sl0 a cap
  | sl _ _ cap blk off arr ty fr d j m l p=>exact .sl0 _ _
 | sl cells n cap blk off arr ty fr H hb hn I B g =>
  intro v h;cases h with
  | sl0 a cap=>exact .sl0 a cap
  | sl _ _ cap' y D r E z d j m l p =>
   refine .sl cells n cap' y D r E z d j m l fun i c u hc e=>?_;obtain ⟨x,hx⟩:∃ x,arr[off+i]? = some x:=⟨arr[off+i]'(by have:=(B4.1 hc).1; omega),XT _⟩
   exact g i c x hc hx (p i c u hc e)
 | dp cells o blk off arr ty fr H hb I B g =>
  intro v h;cases h with
  | dp _ _ y D r E z d j l p =>
   refine .dp cells o y D r E z d j l fun i c u hc e=>?_;obtain ⟨x,hx⟩:∃ x,arr[off+i]? = some x:=⟨arr[off+i]'(by have:=(B4.1 hc).1; omega),XT _⟩
   exact g i c x hc hx (p i c u hc e)
 | own b off n c sz ex L cap h1 h2 h3 h4 h5 h6 =>
  intro v h;cases h with
  | own _ _ _ _ _ _ L' cap' d j m l p G =>
   have:=q _ _ h1
   rw [d] at this;cases this;exact .own b off n c sz ex L cap' h1 j m l p G
 | ptr b off L h1 =>
  intro v h;cases h with
  | ptr _ _ L' d =>
   have:=q _ _ h1
   rw [d] at this;cases this;exact .ptr b off L h1
 | fn f as bs us vs h1 h2 h3 h4 J K =>
  intro v h;cases h with
  | fn _ _ _ M N d j m l =>
   refine .fn f as bs M N d (fun i c u hc e=>?_) m fun i c u hc e=>?_
   ·obtain ⟨x,hx⟩:∃ x,us[i]? = some x:=⟨us[i]'(by have:=(B4.1 hc).1; omega),XT _⟩
    exact J i c x hc hx (j i c u hc e)
   ·obtain ⟨x,hx⟩:∃ x,vs[i]? = some x:=⟨vs[i]'(by have:=(B4.1 hc).1; omega),XT _⟩
    exact K i c x hc hx (l i c u hc e)
 | ifc t x v0 hx g =>
  intro v h;cases h with
  | ifc _ _ u e=>exact .ifc t x u (g e)
 | map b L h1 =>
  intro v h;cases h with
  | map _ L' d =>
   have:=q _ _ h1
   rw [d] at this;cases this;exact .map b L h1
 | loopv b L h1 =>
  intro v h;cases h with
  | loopv _ L' d =>
   have:=q _ _ h1
   rw [d] at this;cases this;exact .loopv b L h1
def LR.back (d:∀ b L,μ b=some L->μ' b=some L) {cs:List AV} {vs0 vs:List Value} (h0:LR μ F w cs vs0) (h:LR μ' F w' cs vs):LR μ F w' cs vs:=by
 refine ⟨h.1,fun i c v hc a=>?_⟩;obtain ⟨x,hx⟩:∃ x,vs0[i]? = some x:=⟨vs0[i]'(by have:=(B4.1 hc).1; have:=h0.1; omega),eA _⟩
 exact (h0.2 i c x hc hx).back d (h.2 i c v hc a)
end
def MJ:Ex->Exit
 | .nrm=>.normal
 | .exit i=>.exit i
 | .goto l=>.goto l
 | .ret=>.ret
def DM (B:Nat × List Deferred) (μ:Mu) (F:Nat->Prop) (w:World) (ds:List Deferred):Prop :=
 ∃ Ds:List Nat,ds=Ds.map (fun D=>{ target:=.collected D,args:=#[] })++B.2/\Ds.Nodup /\
  ∀ D∈Ds,B.1<=D/\D<w.heap.size/\w.heap[D]? = some (.deferred (some []))/\¬ F D/\∀ b L,μ b=some L->L.blk≠D
section
variable {P:Program} {μ:Mu} {F:Nat->Prop} {H:Heap} {w:World} {T:Tm} {a:Act} {B:Nat × List Deferred}
def DM.nil {B:Nat × List Deferred}:DM B μ F w B.2:=⟨[],rfl,List.nodup_nil,fun D h=>by cases h⟩
def DM.stp {I:Nat->Prop} {μ':Mu} {H':Heap} {w':World} {ds:List Deferred} (h:DM B μ F w ds) (a:Stp I P μ F H w μ' F H' w'):DM B μ' F w' ds:=by
 obtain ⟨Ds,h1,h2,h3⟩:=h;refine ⟨Ds,h1,h2,fun D hD=>?_⟩;obtain ⟨f,c,g,i,d⟩:=h3 D hD;refine ⟨f,Eb c a.size,?_,i,fun b L hb=>?_⟩
 ·rw [a.keep D c fun b L _ hL=>d b L hL]; exact g
 ·rcases a.rng b L hb with ⟨b0,L0,h0,e⟩ | hge
  ·rw [<- e]; exact d b0 L0 h0
  ·omega
structure No (P:Program) (B:Nat × List Deferred) (μ:Mu) (F:Nat->Prop) (H:Heap) (w:World) (T:Tm) (a:Act):Prop where
 hT:LR μ F w T a.tmps.toList
 hH:HR P μ F H w
 hD:DM B μ F w a.defers
def lH (P:Program) (rd:Bool) (c:Code) (T:Tm) (H:Heap) (x:Ex) (T':Tm) (H':Heap):Prop :=
 ∀ (fence:Fence) (n:Nat) (B:Nat × List Deferred) (μ:Mu) (F:Nat->Prop) (w:World) (a:Act) (Q:Exit->Act->World->Prop),FenceOK fence rd->B.1<=w.heap.size->No P B μ F H w T a ->
  (∀ a' w' μ',No P B μ' F H' w' T' a'->Stp tG P μ F H w μ' F H' w'->Q (MJ x) a' w')->c.wpIn fence n P Q a w
def DM.back {μ':Mu} {ds:List Deferred} (a:∀ b L,μ b=some L->μ' b=some L) (h:DM B μ' F w ds):DM B μ F w ds:=by
 obtain ⟨Ds,h1,h2,h3⟩:=h;exact ⟨Ds,h1,h2,fun D hD=>⟨(h3 D hD).1,(h3 D hD).2.1,(h3 D hD).2.2.1,(h3 D hD).2.2.2.1,fun b L hb=>(h3 D hD).2.2.2.2 b L (a b L hb)⟩⟩
def DM.keep {w':World} {ds:List Deferred} (h:DM B μ F w ds) (hs:w.heap.size<=w'.heap.size) (f:∀ (D:Nat),w.heap[D]? = some (.deferred (some []))->w'.heap[D]? = w.heap[D]?):DM B μ F w' ds:=by
 obtain ⟨Ds,h1,h2,h3⟩:=h;refine ⟨Ds,h1,h2,fun D hD=>?_⟩;obtain ⟨b,c,a,d,e⟩:=h3 D hD;exact ⟨b,Eb c hs,(f D a).trans a,d,e⟩
def EM {H:Heap} (hH:HR P μ F H w) {b:Nat} {e:Ent} (h:H.ro.get b=some e):∃ e0,H.get b=some e0/\e0.ro=some e:=by
 rw [Heap.get_ro] at h;split at h
 ·cases hg:H.get b with
  | none=>rw [hg] at h; cases h
  | some e0=>rw [hg] at h; exact ⟨e0,rfl,h⟩
 ·rename_i hlt;obtain ⟨L,hL,_⟩:=hH.ent b e h
  have:=(hH.dom b L hL).1
  omega
def Ur {H:Heap} (hH:HR P μ F H w) {b:Nat}:¬ H.ro.rwAt b:=by
 rintro ⟨e,h,hr⟩;obtain ⟨e0,-,h0⟩:=EM hH h;cases e0 <;> simp only [Ent.ro] at h0 <;> first | (cases h0; done) | (simp only [QW] at h0; subst h0; cases hr)
def Us {H:Heap} (hH:HR P μ F H w):HR P μ F H.ro w:=by
 refine ⟨hH.dom,hH.fb,fun b e h=>?_,fun b b' e e' L L' h h' hL d hb=>?_,hH.gl⟩
 ·obtain ⟨e0,h0,he⟩:=EM hH h;obtain ⟨L,hL,a⟩:=hH.ent b e0 h0;refine ⟨L,hL,?_⟩;cases e0 <;> simp only [Ent.ro] at he <;> first | (cases he; done) | (simp only [QW] at he; subst he)
  ·obtain ⟨arr,fr,h1,h2,h3,h4,h5,h6,f⟩:=a;exact ⟨arr,fr,h1,h2,h3,h4,h5,fun h=>(by cases h),fun _=>trivial⟩
  ·exact a.2
  ·exact a
 ·obtain ⟨e0,h0,-⟩:=EM hH h;obtain ⟨c,h1,-⟩:=EM hH h';exact hH.inj b b' e0 c L L' h0 h1 hL d hb
def Q0 {I:Nat->Prop} {H H2 H':Heap} {μ':Mu} {w':World} (hH:HR P μ F H w) (h2:∀ b,H2.get b=H.ro.get b) (a:Stp I P μ F H2 w μ' F H' w'):∀ c,c<w.heap.size->w'.heap[c]? = w.heap[c]? :=
 fun c hc=>a.keep c hc fun b L ⟨e,he,hr⟩ _=>absurd ⟨e,h2 b ▸ he,hr⟩ (Ur hH)
def BX {cal:oJ} {m:Nat} {rd:Bool} {c:Code} {ac:ACode} (hc:∀ T H x T' H',aL cal m rd ac T H=some (x,T',H')->lH P rd c T H x T' H') :
  ∀ (k:Nat) (T:Tm) (H:Heap) (x:Ex) (T':Tm) (H':Heap),BY (aL cal m rd ac) k T H=some (x,T',H') ->
  ∀ (fence:Fence) (n:Nat) (B:Nat × List Deferred) (μ:Mu) (F:Nat->Prop) (w:World) (a:Act) (Q:Exit->Act->World->Prop),FenceOK fence rd->B.1<=w.heap.size->No P B μ F H w T a ->
  (∀ a' w' μ',No P B μ' F H' w' T' a'->Stp tG P μ F H w μ' F H' w'->Q (MJ x) a' w')->x ≠ .nrm/\Code.roundsIn fence n P c Q k a w
 | 0,T,H,x,T',H',h=>by cases h
 | k+1,T,H,x,T',H',h=>by
  intro fence n B μ F w a Q f d j i;simp only [BY] at h;split at h
  ·rename_i T1 l h1;refine ⟨?_,?_⟩
   ·
    have key:∀ (k:Nat) (T:Tm) (H:Heap) (x:Ex) (T':Tm) (H':Heap),BY (aL cal m rd ac) k T H=some (x,T',H')->x ≠ .nrm:=by
     intro k
     induction k with
     | zero=>intro T H x T' H' h; cases h
     | succ k r =>
      intro T H x T' H' h;simp only [BY] at h;split at h
      ·exact r _ _ _ _ _ h
      ·rename_i hne;intro e;subst e;exact hne _ _ h
    exact key _ _ _ _ _ _ h
   ·rw [roundsIn_succ];refine hc T H _ _ _ h1 fence n B μ F w a _ f d j fun a' w' μ' g b=>?_;exact (BX hc k T1 l x T' H' h fence n B μ' F w' a' Q f (B5 d b.size) g fun o s μ2 p q=>i o s μ2 p (b.trans q)).2
  ·rename_i hne;have hx:x ≠ .nrm:=fun e=>by subst e; exact hne _ _ h
   refine ⟨hx,?_⟩;rw [roundsIn_succ];refine hc T H _ _ _ h fence n B μ F w a _ f d j fun a' w' μ' g b=>?_
   have:=i a' w' μ' g b
   cases x <;> first | exact this | exact absurd rfl hx
def Gv (hH:HR P μ F H w) (o:Obj):HR P μ F H (w.alloc o)/\Stp tG P μ F H w μ F H (w.alloc o):=by
 have a:∀ c,c<w.heap.size->(w.alloc o).heap[c]? = w.heap[c]?:=fun c hc=>A7 _ _ hc;have f:(w.alloc o).heap.size=w.heap.size+1:=by simp
 refine ⟨⟨fun b L hb=>?_,fun c hc=>?_,fun b e hb=>?_,hH.inj,fun g cs hg=>(hH.gl g cs hg).mono (fun _ _ h=>h) (fun _ h=>h) fun c hc=>a c (hH.fb c hc)⟩,⟨fun _ _ h=>h,fun _ h=>h,zO,fun c hc _=>a c hc,fun b L hb hL=>.inr ⟨b,L,hb,hL,rfl⟩,o0 _,fun _ _ _ h=>h,fun b L h=>.inl ⟨b,L,h,rfl⟩,fun b e h _ _=>⟨e,h⟩,fun b e L h hL=>.inr ⟨b,e,L,h,hL,rfl⟩,Tp.same rfl rfl,rfl,rfl⟩⟩
 ·have:=hH.dom b L hb; exact ⟨this.1,zO⟩
 ·have:=hH.fb c hc; omega
 ·obtain ⟨L,hL,d⟩:=hH.ent b e hb;exact ⟨L,hL,d.mono (fun _ _ h=>h) (fun _ h=>h) (fun c hc=>a c (hH.fb c hc)) (a _ (hH.dom b L hL).2) (fun hr=>d.notF hr)⟩
def yz (a b:Code):bE P (.seq a b)=(do some (.seq (<- bE P a) (<- bE P b))):=by rw [bE]
def BV {c:Code} {ac:ACode} (h:bE P c=some ac):(ac=.ret->c=.ret)/\(∀ id,ac=.exit id->c=.exit id)/\(∀ l,ac=.goto l->c=.goto l):=by
 have no:∀ {ac:ACode},ac ≠ .ret->(∀ id,ac ≠ .exit id)->(∀ l,ac ≠ .goto l)->(ac=.ret->c=.ret)/\(∀ id,ac=.exit id->c=.exit id)/\(∀ l,ac=.goto l->c=.goto l) :=
  fun h1 h2 h3=>⟨fun h=>absurd h h1,fun id h=>absurd h (h2 id),fun l h=>absurd h (h3 l)⟩
 cases c with
 | ret=>cases h; exact ⟨fun _=>rfl,fun id h=>(by cases h),fun l h=>(by cases h)⟩
 | exit id=>cases h; exact ⟨fun h=>(by cases h),fun id h=>(by cases h; rfl),fun l h=>(by cases h)⟩
 | goto l=>cases h; exact ⟨fun h=>(by cases h),fun id h=>(by cases h),fun l h=>(by cases h; rfl)⟩
 | skip=>cases h; exact no (fun h=>by cases h) (fun id h=>by cases h) (fun l h=>by cases h)
 | label l=>cases h; exact no (fun h=>by cases h) (fun id h=>by cases h) (fun l h=>by cases h)
 | refuse w=>cases h; exact no (fun h=>by cases h) (fun id h=>by cases h) (fun l h=>by cases h)
 | region i ops d =>
  simp only [bE] at h;split at h
  ·split at h
   ·cases h; exact no (fun h=>by cases h) (fun id h=>by cases h) (fun l h=>by cases h)
   ·cases h; exact no (fun h=>by cases h) (fun id h=>by cases h) (fun l h=>by cases h)
  ·simp only [wI] at h;obtain ⟨_,_,h⟩:=h;subst h; exact no (fun h=>by cases h) (fun id h=>by cases h) (fun l h=>by cases h)
 | seq e g =>
  have he:=yz (P:=P) e g
  ·rw [he] at h;simp only [kS,cO] at h;obtain ⟨_,_,_,_,h⟩:=h;cases h; exact no (fun h=>by cases h) (fun id h=>by cases h) (fun l h=>by cases h)
 | cond c a b =>
  simp only [bE,kS,cO] at h;obtain ⟨_,_,_,_,_,_,h⟩:=h;cases h; exact no (fun h=>by cases h) (fun id h=>by cases h) (fun l h=>by cases h)
 | block i a =>
  simp only [bE,kS,cO] at h;obtain ⟨_,_,h⟩:=h;cases h; exact no (fun h=>by cases h) (fun id h=>by cases h) (fun l h=>by cases h)
 | loop a =>
  simp only [bE,kS,cO] at h;obtain ⟨_,_,h⟩:=h;cases h; exact no (fun h=>by cases h) (fun id h=>by cases h) (fun l h=>by cases h)
 | scope a =>
  simp only [bE,kS,cO] at h;obtain ⟨_,_,h⟩:=h;cases h;unfold EK;split
  ·split
   ·exact no (fun h=>by cases h) (fun id h=>by cases h) (fun l h=>by cases h)
   ·exact no (fun h=>by cases h) (fun id h=>by cases h) (fun l h=>by cases h)
  ·exact no (fun h=>by cases h) (fun id h=>by cases h) (fun l h=>by cases h)
 | rangeFunc f ps a b =>
  simp only [bE,kS,cO] at h;obtain ⟨_,_,_,_,_,_,h⟩:=h;cases h; exact no (fun h=>by cases h) (fun id h=>by cases h) (fun l h=>by cases h)
theorem Q2 {c:Code} (h:bE P c=some .ret):c=.ret:=(BV h).1 rfl
theorem Pr {c:Code} {id:Nat} (h:bE P c=some (.exit id)):c=.exit id:=(BV h).2.1 id rfl
theorem Pn {c:Code} {id:Nat} (h:bE P c=some (.goto id)):c=.goto id:=(BV h).2.2 id rfl
def qK {cal:oJ} (aj:nR P cal) {fence:Fence} (z:FenceOK fence false) {n:Nat} {g:Operand} {ps:Array Tmp} {C body:Code} {s:Src} {t y:ACode} (hs:eB g=some s) (h1:bE P C=some t) (h2:bE P body=some y)
  {fi:Nat} {args:List AV} {v:AV} {H2:Heap} (p:iU (s.ev T) [.loopv H.next]=some (.fn fi args))
  (au:cal (.ent fi args) (({ H with next:=H.next+1 }:Heap).put H.next (.loop T ps.toList t y .ready none))=some (v,H2)) (hB:B.1<=w.heap.size) (f:No P B μ F H w T a) {Q:Exit->Act->World->Prop}
  (al:∀ T' o k l st j,H2.get H.next=some (.loop T' o k l st j)->st ≠ .busy/\∀ (r:Option Code),(match j,r with | none,none=>True | some c,some c'=>bE P c'=some c | _,_=>False) ->
   ∀ a' w' μ',No P B μ' F (H2.kill H.next) w' T a'->Stp tG P μ F H w μ' F (H2.kill H.next) w'->(match r with | none=>Q .normal a' w' | some c=>c.wpIn fence n P Q a' w'))
  (am:∃ T' o k l st j,H2.get H.next=some (.loop T' o k l st j)):(Code.rangeFunc g ps C body).wpIn fence n P Q a w:=by
 refine wpIn_rangeFunc fun fn _=>?_;have ar:fence.round=none:=by
  rcases z with ⟨_,rfl⟩ | ⟨h,_⟩; · rfl
  ·cases h
 obtain ⟨ad,V⟩:=Gv f.hH (.deferred (some []));obtain ⟨i,m⟩:∃ i:Loop,i = { state:=.ready,pending:=none,fn,tmps:=a.tmps,params:=ps,assign:=C,body,defers:=w.heap.size }:=⟨_,rfl⟩
 have av:(w.alloc (.deferred (some []))).heap.size=w.heap.size+1:=by simp
 have Z:μ H.next=none:=kF f.hH (o0 _)
 obtain ⟨X,d⟩:=oX (I:=fun b=>b=H.next) (ad.bump 1) Z (ZS _) (.loop i) (.loop T ps.toList t y .ready none) 0 0 (fun w' N hn K=>by
  refine ⟨K,i,hn,by rw [m],?_,by rw [m],by rw [m]; exact h1,by rw [m]; exact h2,by rw [m]; trivial⟩;rw [m];exact ((V.lr f.hH f.hT).mono (jm Z) (fun _ h=>h) N)) rfl (w.alloc (.deferred (some []))) rfl (Tp.same rfl rfl) rfl rfl
 rw [av] at X d;have G:Stp tG P μ F H w (μ.upd H.next ⟨w.heap.size+1,0,0⟩) F (({ H with next:=H.next+1 }:Heap).put H.next (.loop T ps.toList t y .ready none)) ((w.alloc (.deferred (some []))).alloc (.loop i)) :=
  V.trans ⟨d.mu,d.fr,d.size,d.keep,d.rw,B5 (Nat.le_succ _) d.next,fun b hb _ hn=>d.new b (Nat.lt_succ_of_lt hb) (fun e=>by have e:b=H.next:=e; omega) hn,d.rng,fun b e hb hl _=>d.old b e hb (Nat.lt_succ_of_lt hl) (fun e=>by have e:b=H.next:=e; omega),d.alv,d.tape,d.os,d.out⟩
 have af:DM B (μ.upd H.next ⟨w.heap.size+1,0,0⟩) F ((w.alloc (.deferred (some []))).alloc (.loop i)) ([{ target:=.collected w.heap.size,args:=#[] }]++a.defers):=by
  obtain ⟨Ds,S,e2,e3⟩:=f.hD.stp G;obtain ⟨ab,f1,f2,f3⟩:=f.hD;have hlt:∀ D∈Ds,D<w.heap.size:=by
   intro D hD;have hm:({ target:=.collected D,args:=#[] }:Deferred)∈ab.map (fun D=>({ target:=.collected D,args:=#[] }:Deferred)):=by
    rw [<- List.append_cancel_right (S.symm.trans f1)];exact nC.2 ⟨D,hD,rfl⟩
   obtain ⟨R,ae,he⟩:=nC.1 hm
   have:R=D:=by injection he with he _; injection he
   subst this;exact (f3 R ae).2.1
  refine ⟨w.heap.size :: Ds,by simp [S],Ze.2 ⟨fun h=>Nat.lt_irrefl _ (hlt _ h),e2⟩,fun D hD=>?_⟩;rcases FC.1 hD with rfl | hD
  ·refine ⟨hB,by rw [World.size_alloc,World.size_alloc]; omega,?_,fun h=>by have:=f.hH.fb _ h; omega,fun b L hb=>?_⟩
   ·rw [A7 _ _ (by simp)]; exact World.alloc_heap_new w _
   ·by_cases e:b=H.next
    ·subst e; simp at hb; subst hb; simp
    ·rw [cD _ e] at hb; have:=(f.hH.dom b L hb).2; omega
  ·exact e3 D hD
 have hv:=aQ f.hT hs;have M:=G.vr f.hH hv;have aq:LR (μ.upd H.next ⟨w.heap.size+1,0,0⟩) F ((w.alloc (.deferred (some []))).alloc (.loop i)) [.loopv H.next] [.func (.yield (w.heap.size+1)) #[] #[]]:=LR.cons (.loopv _ _ (upd_same _ _)) LR.nil
 generalize aw:s.ev T=fv at p M
 cases fv <;> simp only [iU] at p <;> first | (cases p; done) | skip
 rename_i ff first cap
 cases ff <;> simp only at p <;> first | (cases p; done) | skip
 cases p
 generalize ap:a.eval g=gv at M
 cases M with
 | fn _ _ _ us O k1 k2 k3 k4 =>
 have hl:=((LR.of_agg k1 k2).append aq).append (LR.of_agg k3 k4);obtain ⟨A,aa⟩:=aj _ _ _ _ au _ F _ _ fence false (n-1) z X hl (fun b args e=>by cases e);have A:=A _ _ rfl;simp only [nu,A,Runs] at aa;refine ⟨w.heap.size+1,[{ target:=.collected w.heap.size,args:=#[] }],(w.alloc (.deferred (some []))).alloc (.loop i),{ target:=.fn (.func fi) O,args:=us ++ #[.func (.yield (w.heap.size+1)) #[] #[]] },(w.alloc (.deferred (some []))).alloc (.loop i),
  _,_,_,?_,?_,fun f' _=>z.fn f',?_,z.depth n,aa.mono fun e w3 ⟨u,he,μ3,q⟩=>?_⟩
 ·rw [ar,m]; exact run_enterLoop_outer _ _ _ _ _
 ·have e:(#[Operand.const (Value.func (.yield (w.heap.size+1)) #[] #[])]).map a.eval = #[Value.func (.yield (w.heap.size+1)) #[] #[]]:=by simp only [List.map_toArray,uz,B3]; rfl
  simp only [resolve,ap,Deferred.ofValue,e,Sem.run_pure]
 ·have e:(us ++ #[Value.func (.yield (w.heap.size+1)) #[] #[]]++O)=(us.toList++[Value.func (.yield (w.heap.size+1)) #[] #[]]++O.toList).toArray:=by apply Array.ext'; simp
  simp only [invoke,e];exact A
 ·subst he;obtain ⟨T',o,k,l,st,j,J⟩:=am;obtain ⟨ah,ao⟩:=al T' o k l st j J;obtain ⟨L,hL,hE⟩:=q.heap.ent _ _ J;have W:=q.stp.mu _ _ (upd_same (μ:=μ) H.next ⟨w.heap.size+1,0,0⟩);rw [W] at hL; cases hL;obtain ⟨K,r,E,g2,g3,g4,g5,g6,U⟩:=hE;simp only at E;have hlt:=(XJ.1 E).1;obtain ⟨q1,q2⟩:=jc (I:=tG) (e:=.loop T' o k l .exhausted j) q.heap J rfl W (w3.putObj (w.heap.size+1) (.loop { r with state:=.exhausted })) (fun c hc=>World.putObj_heap_other hc) (by simp [World.putObj]) (Tp.same rfl rfl) rfl rfl
   (fun N=>⟨K,_,World.putObj_heap_same hlt,rfl,g3.mono (fun _ _ h=>h) (fun _ h=>h) N,g4,g5,g6,U⟩) rfl
  obtain ⟨q3,q4⟩:=uY (I:=tG) q1 H.next
  have Y:∀ x,((H2.put H.next (.loop T' o k l .exhausted j)).kill H.next).get x=(H2.kill H.next).get x:=by
   intro x; simp only [Heap.get_kill,Heap.get_put]; split <;> rfl
  have q5:=q3.congr (H2:=H2.kill H.next) rfl Y;have q6:Stp tG P μ F H w μ3 F (H2.kill H.next) (w3.putObj (w.heap.size+1) (.loop { r with state:=.exhausted })) :=
   (G.trans (q.stp.trans (q2.trans q4))).congr rfl fun x e he=>⟨e,by rw [Y]; exact he,rfl⟩
  refine ⟨r.pending,_,run_endLoop E (by rw [g2]; exact ah),?_⟩;have ag:No P B μ3 F (H2.kill H.next) (w3.putObj (w.heap.size+1) (.loop { r with state:=.exhausted })) T { a with defers:=[{ target:=.collected w.heap.size,args:=#[] }]++a.defers } :=
   ⟨q6.lr f.hH f.hT,q5,(af.stp q.stp).stp (q2.trans q4)⟩
  exact ao r.pending U _ _ μ3 ag q6
def cK {P:Program} {b:Frame} {a:Act} {k:List Item} {cs:List Frame} {w:World} {c:Code}:step P (lone (b.atR a (.code (.scope c) :: k)) cs w)=.next (lone (b.atR a (.code c :: .inScope c :: k)) cs w) :=
 step_lone_go (by simp [stepG,stepG.exec,Frame.atR])
def nT {P:Program} {b:Frame} {a:Act} {k:List Item} {cs:List Frame} {w:World} {c:Code}:step P (lone (b.atR a (.inScope c :: k)) cs w)=.next (lone (b.atR a k) cs w) :=
 step_lone_go (by simp [stepG,stepG.exec,Frame.atR])
def Ik {P:Program} {F:Fence} {n:Nat} {a:Act} {w:World} {Q:Exit->Act->World->Prop} {c:Code} (h:c.wpIn F n P (Exit.noGoto Q) a w):(Code.scope c).wpIn F n P Q a w:=by
 intro b k cs p hb hr;have h0:(lone (b.atR a (.code (.scope c) :: k)) cs w).fenced P F:=fenced_calm hb hr rfl;obtain ⟨e,g,i,f,d⟩:=h b (.inScope c :: k) cs p hb hr;cases e with
 | normal=>exact ⟨.normal,g,i,f,.head h0 cK (StepsIn.trans d (.one (fenced_calm hb hr rfl) nT))⟩
 | exit m =>
  have hx:exitTo m (.inScope c :: k)=exitTo m k:=by simp [exitTo]
  exact ⟨.exit m,g,i,f,fun q j=>.head h0 cK (d.1 q (by rw [hx]; exact j)),
   fun o j=>let ⟨r,h1,h2⟩:=d.2 o (by rw [hx]; exact j); ⟨r,h1,.head h0 cK h2⟩⟩
 | goto l=>exact f.elim
 | ret=>exact ⟨_,g,i,f,.of_steps (.one h0 cK) d⟩
 | panic s=>exact ⟨_,g,i,f,.of_steps (.one h0 cK) d⟩
 | outgrown=>exact ⟨_,g,i,f,.of_steps (.one h0 cK) d⟩
def A0 {cal:oJ} {m:Nat} {rd:Bool} {T:Tm} {H:Heap}:aL cal m rd J8 T H=none:=by
 unfold J8;simp only [aL];split <;> rfl
def Pf (l:Nat) (J:Act->World->Prop) (Q:Exit->Act->World->Prop):Exit->Act->World->Prop
 | .goto b,a,w=>b=l/\J a w
 | e,a,w=>Q e a w
def FQ (F:Fence) (n:Nat) (P:Program) (c rest:Code) (Q:Exit->Act->World->Prop) (a:Act) (w:World):Prop :=
 ∀ (b:Frame) (k:List Item) (cs:List Frame),b.roundOf=F.round->F.fn b.fn->F.room (cs.length+1+n) ->
  ∃ e a' w',Q e a' w'/\ArrivesIn (Machine.fenced P F) P (lone (b.atR a (.code rest :: .inScope c :: k)) cs w) b k cs e a' w'
def LX {P:Program} {F:Fence} {n:Nat} {a:Act} {w:World} {Q:Exit->Act->World->Prop} {c rest:Code} {l:Nat} (t:findLabel c l=some rest) (h:rest.wpIn F n P (Pf l (FQ F n P c rest Q) Q) a w):FQ F n P c rest Q a w:=by
 intro b k cs o hb hr;have hg:gotoIn l (.inScope c :: k)=some (.code rest :: .inScope c :: k):=by simp [gotoIn,t]
 obtain ⟨e,g,i,f,d⟩:=h b (.inScope c :: k) cs o hb hr;cases e with
 | normal=>exact ⟨.normal,g,i,f,StepsIn.trans d (.one (fenced_calm hb hr rfl) nT)⟩
 | exit m =>
  have hx:exitTo m (.inScope c :: k)=exitTo m k:=by simp [exitTo]
  exact ⟨.exit m,g,i,f,fun x j=>d.1 x (by rw [hx]; exact j),fun v j=>d.2 v (by rw [hx]; exact j)⟩
 | goto A =>
  obtain ⟨rfl,r⟩:=f;obtain ⟨q,p,y,u,s⟩:=r b k cs o hb hr;exact ⟨q,p,y,u,.of_steps (d.1 _ hg) s⟩
 | ret=>exact ⟨_,g,i,f,d⟩
 | panic z=>exact ⟨_,g,i,f,d⟩
 | outgrown=>exact ⟨_,g,i,f,d⟩
def FU {P:Program} {F:Fence} {n:Nat} {a:Act} {w:World} {Q:Exit->Act->World->Prop} {c rest:Code} {l:Nat} (t:findLabel c l=some rest) (h:c.wpIn F n P (Pf l (FQ F n P c rest Q) Q) a w):(Code.scope c).wpIn F n P Q a w:=by
 intro b k cs o hb hr;have hg:gotoIn l (.inScope c :: k)=some (.code rest :: .inScope c :: k):=by simp [gotoIn,t]
 have h0:(lone (b.atR a (.code (.scope c) :: k)) cs w).fenced P F:=fenced_calm hb hr rfl;obtain ⟨e,g,i,f,d⟩:=h b (.inScope c :: k) cs o hb hr;cases e with
 | normal=>exact ⟨.normal,g,i,f,.head h0 cK (StepsIn.trans d (.one (fenced_calm hb hr rfl) nT))⟩
 | exit m =>
  have hx:exitTo m (.inScope c :: k)=exitTo m k:=by simp [exitTo]
  exact ⟨.exit m,g,i,f,fun x j=>.head h0 cK (d.1 x (by rw [hx]; exact j)),
   fun v j=>let ⟨y,h1,h2⟩:=d.2 v (by rw [hx]; exact j); ⟨y,h1,.head h0 cK h2⟩⟩
 | goto B =>
  obtain ⟨rfl,r⟩:=f;obtain ⟨q,p,z,u,s⟩:=r b k cs o hb hr;exact ⟨q,p,z,u,.of_steps (.head h0 cK (d.1 _ hg)) s⟩
 | ret=>exact ⟨_,g,i,f,.of_steps (.one h0 cK) d⟩
 | panic A=>exact ⟨_,g,i,f,.of_steps (.one h0 cK) d⟩
 | outgrown=>exact ⟨_,g,i,f,.of_steps (.one h0 cK) d⟩
def za {cal:oJ} {m:Nat} {rd:Bool} {c rest:Code} {i:ACode} {l:Nat} (p:findLabel c l=some rest) (hc:∀ T H x T' H',aL cal m rd i T H=some (x,T',H')->lH P rd rest T H x T' H') :
  ∀ (k:Nat) (T:Tm) (H:Heap) (x:Ex) (T':Tm) (H':Heap),KI l (aL cal m rd i) k T H=some (x,T',H') ->
  ∀ (fence:Fence) (n:Nat) (B:Nat × List Deferred) (μ:Mu) (F:Nat->Prop) (w:World) (a:Act) (Q:Exit->Act->World->Prop),FenceOK fence rd->B.1<=w.heap.size->No P B μ F H w T a ->
  (∀ a' w' μ',No P B μ' F H' w' T' a'->Stp tG P μ F H w μ' F H' w'->Q (MJ x) a' w')->FQ fence n P c rest Q a w
 | 0,T,H,x,T',H',h=>by cases h
 | k+1,T,H,x,T',H',h=>by
  intro fence n B μ F w a Q f d o j;simp only [KI] at h;refine LX p ?_;split at h
  ·rename_i u T1 q h1;split at h
   ·rename_i e;subst e;refine hc T H _ _ _ h1 fence n B μ F w a _ f d o fun a' w' μ' g b=>⟨rfl,?_⟩
    exact za p hc k T1 q x T' H' h fence n B μ' F w' a' Q f (B5 d b.size) g fun r v μ2 s t=>j r v μ2 s (b.trans t)
   ·cases h
  ·rename_i hne;refine hc T H _ _ _ h fence n B μ F w a _ f d o fun a' w' μ' g b=>?_
   have:=j a' w' μ' g b
   cases x with
   | goto u=>exact absurd h (hne _ _ _)
   | _=>exact this
def LN {cal:oJ} {m:Nat} {rd:Bool} {i j:Code} {g b:ACode} (h1:∀ T H x T' H',aL cal m rd g T H=some (x,T',H')->lH P rd i T H x T' H') (h2:∀ T H x T' H',aL cal m rd b T H=some (x,T',H')->lH P rd j T H x T' H')
  (T:Tm) (H:Heap) (x:Ex) (T':Tm) (H':Heap) (h:aL cal m rd (.seq g b) T H=some (x,T',H')):lH P rd (.seq i j) T H x T' H':=by
 intro fence n B μ F w a Q e d l k;simp only [aL] at h;refine wpIn_seq ?_;split at h
 ·rename_i T1 o q;refine h1 T H _ _ _ q fence n B μ F w a _ e d l fun a' w' μ' f c=>?_;exact h2 T1 o _ _ _ h fence n B μ' F w' a' Q e (B5 d c.size) f fun b s μ2 p r=>k b s μ2 p (c.trans r)
 ·rename_i hne;refine h1 T H _ _ _ h fence n B μ F w a _ e d l fun a' w' μ' f c=>?_
  have:=k a' w' μ' f c
  cases x <;> first | exact this | exact absurd h (hne _ _)
def Mv {c:Code} {ac:ACode} (h:bE P c=some ac):(∃ e g,c=.seq e g)\/(∃ l,c=.label l)\/∀ l,bS ac l=none:=by
 cases c with
 | seq e g=>exact .inl ⟨e,g,rfl⟩
 | label l=>exact .inr (.inl ⟨l,rfl⟩)
 | ret=>cases h; exact .inr (.inr fun l=>rfl)
 | exit id=>cases h; exact .inr (.inr fun l=>rfl)
 | goto l=>cases h; exact .inr (.inr fun l=>rfl)
 | skip=>cases h; exact .inr (.inr fun l=>rfl)
 | refuse w=>cases h; exact .inr (.inr fun l=>rfl)
 | region i ops d =>
  right; right
  simp only [bE] at h;split at h
  ·split at h
   ·cases h; exact fun l=>rfl
   ·cases h; exact fun l=>rfl
  ·simp only [wI] at h;obtain ⟨_,_,h⟩:=h;subst h; exact fun l=>rfl
 | cond c a b =>
  simp only [bE,kS,cO] at h;obtain ⟨_,_,_,_,_,_,h⟩:=h;cases h; exact .inr (.inr fun l=>rfl)
 | block i a =>
  simp only [bE,kS,cO] at h;obtain ⟨_,_,h⟩:=h;cases h; exact .inr (.inr fun l=>rfl)
 | loop a =>
  simp only [bE,kS,cO] at h;obtain ⟨_,_,h⟩:=h;cases h; exact .inr (.inr fun l=>rfl)
 | rangeFunc f ps a b =>
  simp only [bE,kS,cO] at h;obtain ⟨_,_,_,_,_,_,h⟩:=h;cases h; exact .inr (.inr fun l=>rfl)
 | scope a =>
  right; right
  simp only [bE,kS,cO] at h;obtain ⟨a',_,h⟩:=h;cases h;unfold EK;split
  ·rename_i k j;split
   ·intro l;cases a' <;> first | rfl | (simp [Fl] at j; done)
   ·exact fun l=>rfl
  ·exact fun l=>rfl
def GP {cal:oJ} {m:Nat} {rd:Bool} {N:Nat} (A:∀ p:Code,SizeOf.sizeOf p<N->∀ (ac:ACode),bE P p=some ac->∀ (T:Tm) (H:Heap) (x:Ex) (T':Tm) (H':Heap),aL cal m rd ac T H=some (x,T',H')->lH P rd p T H x T' H') (l:Nat) :
  ∀ (b:Code),SizeOf.sizeOf b<N->∀ (c:ACode),bE P b=some c->(bS c l=none->findLabel b l=none)/\∀ d,bS c l=some d->∃ rest,findLabel b l=some rest/\∀ T H x T' H',aL cal m rd d T H=some (x,T',H')->lH P rd rest T H x T' H':=by
 intro b;have other:∀ c:ACode,(∀ l,bS c l=none)->findLabel b l=none->(bS c l=none->findLabel b l=none)/\∀ d,bS c l=some d->∃ rest,findLabel b l=some rest/\∀ T H x T' H',aL cal m rd d T H=some (x,T',H')->lH P rd rest T H x T' H' :=
  fun c h1 h2=>⟨fun _=>h2,fun d h=>by rw [h1] at h; cases h⟩
 induction b with
 | label J =>
  intro k c hc;cases hc;simp only [bS,findLabel];refine ⟨fun h=>?_,fun d h=>?_⟩
  ·split at h
   ·cases h
   ·rename_i e; rw [if_neg e]
  ·split at h
   ·rename_i e;cases h;rw [if_pos e];exact ⟨_,rfl,fun T H x T' H' h fence n B μ F w a Q I G v u=>by cases h; exact wpIn_skip (u a w μ v (Stp.refl _ _ _ _ _ _))⟩
   ·cases h
 | seq j i C D =>
  intro k c hc;have E:∀ g f,bE P j=some g->bE P i=some f->(bS (.seq g f) l=none->findLabel (.seq j i) l=none)/\∀ d,bS (.seq g f) l=some d->∃ rest,findLabel (.seq j i) l=some rest/\∀ T H x T' H',aL cal m rd d T H=some (x,T',H')->lH P rd rest T H x T' H':=by
   intro g f h1 h2;have t:=C (fun c h1 h2=>⟨fun _=>h2,fun d h=>by rw [h1] at h; cases h⟩) (by simp at k; omega) g h1;have z:=D (fun c h1 h2=>⟨fun _=>h2,fun d h=>by rw [h1] at h; cases h⟩) (by simp at k; omega) f h2;cases o:bS g l with
   | none =>
    have q:bS (.seq g f) l=bS f l:=by simp only [bS,o]
    have s:findLabel (.seq j i) l=findLabel i l:=by simp only [findLabel,t.1 o]
    rw [q,s];exact z
   | some r =>
    obtain ⟨rest,hr,y⟩:=t.2 r o;have q:bS (.seq g f) l=some (.seq r f):=by simp only [bS,o]
    have s:findLabel (.seq j i) l=some (.seq rest i):=by simp only [findLabel,hr]
    rw [q,s];refine ⟨fun h=>(by cases h),fun d h=>?_⟩;cases h;exact ⟨_,rfl,LN y (A i (by simp at k; omega) f h2)⟩
  have he:=yz (P:=P) j i
  ·rw [he] at hc;simp only [kS,cO] at hc;obtain ⟨g,h1,f,h2,hc⟩:=hc;cases hc;exact E g f h1 h2
 | _ =>
  intro k c hc;rcases Mv hc with ⟨_,_,h⟩ | ⟨_,h⟩ | h
  ·cases h
  ·cases h
  ·exact other c h rfl
def rZ {cal:oJ} (M:nR P cal) (af:P.follows .mixedOrders=true) {m:Nat} {rd:Bool}:∀ (c:Code) (ac:ACode),bE P c=some ac->∀ (T:Tm) (H:Heap) (x:Ex) (T':Tm) (H':Heap),aL cal m rd ac T H=some (x,T',H')->lH P rd c T H x T' H':=by
 intro c
 induction hk:SizeOf.sizeOf c using Nat.strongRecOn generalizing c with
 | _ k t =>
 have t:∀ z:Code,SizeOf.sizeOf z<SizeOf.sizeOf c->∀ (ac:ACode),bE P z=some ac->∀ (T:Tm) (H:Heap) (x:Ex) (T':Tm) (H':Heap),aL cal m rd ac T H=some (x,T',H')->lH P rd z T H x T' H':=fun z h=>t (SizeOf.sizeOf z) (hk ▸ h) z rfl;cases c with
 | skip =>
  intro ac hc T H x T' H' h fence n B μ F w a Q i o d f;cases hc; cases h;exact wpIn_skip (f a w μ d (Stp.refl _ _ _ _ _ _))
 | label l =>
  intro ac hc T H x T' H' h fence n B μ F w a Q i o d f;cases hc;simp only [aL] at h;cases h;exact wpIn_label (f a w μ d (Stp.refl _ _ _ _ _ _))
 | exit id =>
  intro ac hc T H x T' H' h fence n B μ F w a Q i o d f;cases hc; cases h;exact wpIn_exit (f a w μ d (Stp.refl _ _ _ _ _ _))
 | goto l =>
  intro ac hc T H x T' H' h fence n B μ F w a Q i o d f;cases hc; cases h;exact wpIn_goto (f a w μ d (Stp.refl _ _ _ _ _ _))
 | ret =>
  intro ac hc T H x T' H' h fence n B μ F w a Q i o d f;cases hc; cases h;exact wpIn_ret (f a w μ d (Stp.refl _ _ _ _ _ _))
 | refuse aq =>
  intro ac hc T H x T' H' h;cases hc;rw [A0] at h; cases h
 | scope b =>
  have aj:=t;have t:=t b (by simp);intro ac hc T H x T' H' h fence n B μ F w a Q i o d f;simp only [bE,kS,cO] at hc;obtain ⟨A,hb,hc⟩:=hc;have aa:aL cal m rd (.scope A) T H=some (x,T',H')->(Code.scope b).wpIn fence n P Q a w:=by
   intro h;simp only [aL] at h;refine Ik ?_;split at h
   ·cases h
   ·rename_i hne;refine t A hb T H _ _ _ h fence n B μ F w a _ i o d fun a' w' μ' u j=>?_
    have:=f a' w' μ' u j
    cases x with
    | goto l=>exact absurd h (hne _ _ _)
    | _=>exact this
  cases hc;unfold EK at h;split at h
  ·rename_i l hl;split at h
   ·rename_i ar ad;obtain ⟨rest,hf,ag⟩:=(GP aj l b (by simp) A hb).2 ar ad;simp only [aL] at h;refine FU hf ?_;split at h
    ·rename_i l' T1 I h1;split at h
     ·rename_i e;subst e;refine t A hb T H _ _ _ h1 fence n B μ F w a _ i o d fun a' w' μ' u j=>⟨rfl,?_⟩
      exact za hf ag m T1 I x T' H' h fence n B μ' F w' a' Q i (B5 o j.size) u fun y Z μ2 R X=>f y Z μ2 R (j.trans X)
     ·cases h
    ·rename_i hne;refine t A hb T H _ _ _ h fence n B μ F w a _ i o d fun a' w' μ' u j=>?_
     have:=f a' w' μ' u j
     cases x with
     | goto l=>exact absurd h (hne _ _ _)
     | _=>exact this
   ·exact aa h
  ·exact aa h
 | region id ops draw =>
  intro ac hc T H x T' H' h fence n B μ F w a Q i o d f;simp only [bE] at hc;cases draw with
  | true =>
   simp only [if_true] at hc;split at hc
   ·rename_i p W;obtain ⟨ds,late⟩:=p;cases hc;simp only [aL] at h;split at h
    ·rename_i T1 I C;cases h;refine JE M af i W C d.hT d.hH fun a' w' μ' hd S O j=>?_;exact f a' w' μ' ⟨S,O,hd ▸ d.hD.stp j⟩ j
    ·cases h
   ·cases hc;rw [A0] at h; cases h
  | false =>
   simp only [XC,if_false,wI] at hc;obtain ⟨rs,W,rfl⟩:=hc;simp only [aL] at h;split at h
   ·rename_i T1 I C;cases h;refine EO M i W C d.hT d.hH fun a' w' μ' hd S O j=>?_;exact f a' w' μ' ⟨S,O,hd ▸ d.hD.stp j⟩ j
   ·cases h
 | seq E G =>
  have N:=t E zS;have Y:=t G zS;intro ac hc T H x T' H' h;have al:∀ D y,bE P E=some D->bE P G=some y->aL cal m rd (.seq D y) T H=some (x,T',H')->lH P rd (.seq E G) T H x T' H':=by
   intro D y h1 h2 h fence n B μ F w a Q i o d f;simp only [aL] at h;refine wpIn_seq ?_;split at h
   ·rename_i T1 I C;refine N D h1 T H _ _ _ C fence n B μ F w a _ i o d fun a' w' μ' u j=>?_;exact Y y h2 T1 I _ _ _ h fence n B μ' F w' a' Q i (B5 o j.size) u fun y Z μ2 R X=>f y Z μ2 R (j.trans X)
   ·rename_i hne;refine N D h1 T H _ _ _ h fence n B μ F w a _ i o d fun a' w' μ' u j=>?_
    have:=f a' w' μ' u j
    cases x <;> first | exact this | exact absurd h (hne _ _)
  have he:=yz (P:=P) E G
  ·rw [he] at hc;simp only [kS,cO] at hc;obtain ⟨D,h1,y,h2,hc⟩:=hc;cases hc;exact al D y h1 h2 h
 | cond c E G =>
  have N:=t E zS;have Y:=t G zS;intro ac hc T H x T' H' h fence n B μ F w a Q i o d f;simp only [bE,kS,cO] at hc;obtain ⟨s,hs,D,h1,y,h2,hc⟩:=hc;cases hc;simp only [aL] at h;have J:=aQ d.hT hs;split at h
  ·rename_i e;rw [e] at J
   generalize U:a.eval c=cv at J
   cases J;exact wpIn_cond_true U (N D h1 T H _ _ _ h fence n B μ F w a Q i o d f)
  ·rename_i e;rw [e] at J
   generalize U:a.eval c=cv at J
   cases J;exact wpIn_cond_false U (Y y h2 T H _ _ _ h fence n B μ F w a Q i o d f)
  ·cases h
 | block id b =>
  have t:=t b zS;intro ac hc T H x T' H' h fence n B μ F w a Q i o d f;simp only [bE,kS,cO] at hc;obtain ⟨A,hb,hc⟩:=hc;cases hc;simp only [aL] at h;refine wpIn_block ?_;split at h
  ·rename_i ap T1 I C;split at h
   ·rename_i e;cases h;refine t A hb T H _ _ _ C fence n B μ F w a _ i o d fun a' w' μ' u j=>?_
    have:=f a' w' μ' u j
    simp only [MJ,Exit.inBlock,e,if_true];exact this
   ·rename_i e;cases h;refine t A hb T H _ _ _ C fence n B μ F w a _ i o d fun a' w' μ' u j=>?_
    have:=f a' w' μ' u j
    simp only [MJ,Exit.inBlock,e,if_false];exact this
  ·rename_i hne;refine t A hb T H _ _ _ h fence n B μ F w a _ i o d fun a' w' μ' u j=>?_
   have:=f a' w' μ' u j
   cases x <;> first | exact this | exact absurd h (hne _ _ _)
 | loop b =>
  have t:=t b (by simp);intro ac hc T H x T' H' h fence n B μ F w a Q i o d f;simp only [bE,kS,cO] at hc;obtain ⟨A,hb,hc⟩:=hc;cases hc;simp only [aL] at h;exact wpIn_loop_rounds m (BX (t A hb) m T H x T' H' h fence n B μ F w a Q i o d f).2
 | rangeFunc g ps ab body =>
  intro ac hc T H x T' H' h fence n B μ F w a Q i o d f;simp only [bE,kS,cO] at hc;obtain ⟨s,hs,D,h1,y,h2,hc⟩:=hc;cases hc;simp only [aL] at h;split at h
  ·cases h
  rename_i V;have V:rd=false:=by simpa using V
  subst V;split at h
  ·rename_i fi args ht;split at h
   ·rename_i v H2 C;split at h
    ·rename_i T0 ao b1 b2 L;cases h;refine qK M i hs h1 h2 ht C o d (fun T' am E G st pe hg=>?_) ⟨_,_,_,_,_,_,L⟩;rw [L] at hg; cases hg;refine ⟨by simp,fun r hr a' w' μ' u j=>?_⟩;cases r with
     | none=>exact f a' w' μ' u j
     | some c=>exact hr.elim
    ·rename_i T0 ao b1 b2 pc L;have fin:∀ (x':Ex) (cc:Code),x'=x->T'=T->H'=H2.kill H.next->(∀ z,bE P z=some pc->z=cc)->(∀ (a':Act) (w':World),Q (MJ x') a' w'->cc.wpIn fence n P Q a' w')->(Code.rangeFunc g ps ab body).wpIn fence n P Q a w:=by
      intro x' cc e1 e2 e3 ae ah;subst e1; subst e2; subst e3;refine qK M i hs h1 h2 ht C o d (fun T' am E G st pe hg=>?_) ⟨_,_,_,_,_,_,L⟩;rw [L] at hg; cases hg;refine ⟨by simp,fun r hr a' w' μ' u j=>?_⟩;cases r with
      | none=>exact hr.elim
      | some c =>
       have:=ae c hr
       subst this;exact ah _ _ (f a' w' μ' u j)
     split at h
     ·cases h; exact fin .ret .ret rfl rfl rfl (fun z K=>Q2 K) (fun a' w' q=>wpIn_ret q)
     ·cases h; exact fin (.exit _) (.exit _) rfl rfl rfl (fun z K=>Pr K) (fun a' w' q=>wpIn_exit q)
     ·cases h; exact fin (.goto _) (.goto _) rfl rfl rfl (fun z K=>Pn K) (fun a' w' q=>wpIn_goto q)
     ·cases h
    ·cases h
   ·cases h
  ·cases h
end
def JW (_:Program) (_:Ng):Prop:=True
end Go.Proofs.YteaefaohjlmjdaaGreat.Ev
namespace Go.Proofs.YteaefaohjlmjdaaGreat.Ev
open Go
open Go.Sort
def UY {α:Type} (enc:α->Value):Prop:=∀ x,(enc x).oneCell'=true
def Ro {α:Type} (a:α->α->Int) (x y:α):Bool:=decide (a x y<0)
def mF {α:Type} [Inhabited α] (enc:α->Value) (w:World) (blk off m:Nat) (a:Array α) (os:Array Obj):World:=grow (putRow enc (Sort.ahead w m) blk off a) os
def Sq {α:Type} [Inhabited α] (P:Program) (g:Nat) (cb:Array Value) (enc:α->Value) (b:α->α->Int) (blk off size:Nat) (w:World):Prop :=
 ∀ (m:Nat) (os:Array Obj) (a:Array α),a.size=size->∀ x y:α,
  Calls P g (#[enc x,enc y]++cb) (mF enc w blk off m a os) fun e w'=>e=.returned (.int .i64 (b x y))/\∃ q c,w'=grow ((mF enc w blk off m a os).drewN q) c
def JV (P:Program) (S:Nat) (gs:List Nat):Prop :=
 (∃ fn,P.funcs[S]? = some fn ∧ fn.body.isSome=true ∧ fn.name ≠ "runtime.NumGoroutine") ∧ P6 ∧
 (∀ g∈gs,∀ args w,(callFunc g args).run P w=.ok (.enter g args) w) /\
 (∀ (p:Option Addr) (cap:Nat) (b:Value) (w:World),Calls P S #[.slice p 0 cap,b] w fun e w'=>e=.returned (.tuple #[])/\w'=w) /\
 ∀ (k:Nat) (enc:Fin (k+1)->Value) (a:Fin (k+1)->Fin (k+1)->Int) (g:Nat) (cb:Array Value) (blk cap:Nat) (w:World),g∈gs->UY enc->SWO (Ro a)->(∀ x y,Ro a x y=false->Ro a y x=false->x=y) ->
  Sq P g cb enc a blk 0 (k+1) w->Holds enc w blk 0 (List.finRange (k+1)).toArray->blk<w.heap.size->k+1<4611686018427387904 ->
  Calls P S #[.slice (some ⟨blk,0,none⟩) (k+1:Nat) cap,.func (.func g) #[] cb] w fun e w'=>e=.returned (.tuple #[])/\∃ m os,w'=mF enc w blk 0 m ((List.finRange (k+1)).mergeSort fun x y=>!(Ro a) y x).toArray os
def Il {W w':World} (hs:W.heap.size<=w'.heap.size) (f:∀ c,c<W.heap.size->w'.heap[c]? = W.heap[c]?) (j:w'.tape=W.tape) (hd:W.drawn<=w'.drawn) (g:w'.os=W.os) (hp:w'.output=W.output) :
  w'=grow (W.drewN (w'.drawn-W.drawn)) (w'.heap.extract W.heap.size w'.heap.size):=by
 obtain ⟨h1,t1,d1,a,p1⟩:=w';obtain ⟨h,t,d,o,p⟩:=W;simp only at *;subst j; subst g; subst hp;unfold grow World.drewN;have b:h1=h++h1.extract h.size h1.size:=by
  apply Array.ext_getElem?
  intro i;by_cases hi:i<h.size
  ·rw [XZ hi]; exact f i hi
  ·rw [Array.getElem?_append_right zO,Array.getElem?_extract];by_cases hj:i<h1.size
   ·rw [if_pos zO]; congr 1; omega
   ·rw [if_neg zO];exact ZD zO
 have e:d1=d+(d1-d):=zO;show (⟨h1,t1,d1,a,p1⟩:World)=⟨h++h1.extract h.size h1.size,t1,d+(d1-d),a,p1⟩;rw [<- b,<- e]
section
variable {P:Program} {μ:Mu} {F:Nat->Prop} {H:Heap} {w:World}
def Jq (hH:HR P μ F H w) (os:Array Obj):HR P μ F H (grow w os)/\Stp tG P μ F H w μ F H (grow w os):=by
 have a:∀ c,c<w.heap.size->(grow w os).heap[c]? = w.heap[c]?:=fun c hc=>by
  show (w.heap++os)[c]? = _;rw [XZ hc]
 have f:w.heap.size<=(grow w os).heap.size:=by
  show _<=(w.heap++os).size
  simp
 refine ⟨⟨fun b L hb=>?_,fun c hc=>?_,fun b e hb=>?_,hH.inj,fun g cs hg=>(hH.gl g cs hg).mono (fun _ _ h=>h) (fun _ h=>h) fun c hc=>a c (hH.fb c hc)⟩,⟨fun _ _ h=>h,fun _ h=>h,f,fun c hc _=>a c hc,fun b L hb hL=>.inr ⟨b,L,hb,hL,rfl⟩,o0 _,fun _ _ _ h=>h,fun b L h=>.inl ⟨b,L,h,rfl⟩,fun b e h _ _=>⟨e,h⟩,fun b e L h hL=>.inr ⟨b,e,L,h,hL,rfl⟩,Tp.same rfl rfl,rfl,rfl⟩⟩
 ·have:=hH.dom b L hb; exact ⟨this.1,zO⟩
 ·have:=hH.fb c hc; omega
 ·obtain ⟨L,hL,d⟩:=hH.ent b e hb;exact ⟨L,hL,d.mono (fun _ _ h=>h) (fun _ h=>h) (fun c hc=>a c (hH.fb c hc)) (a _ (hH.dom b L hL).2) (fun hr=>d.notF hr)⟩
def se {f:Nat} {fn:Func} {vs:Array Value} {a:Fence} {rd:Bool} {n:Nat} {R:Value → World → Prop} (d:P.funcs[f]? = some fn) (hb:fn.body.isSome=true) (hn:fn.name ≠ "runtime.NumGoroutine") (b:FenceOK a rd)
  (h:Calls P f vs w fun e w'=>∃ u,e=.returned u/\R u w'):Runs a n P ((callFunc f vs).run P w) R:=by
 have hr:(callFunc f vs).run P w=.ok (.enter f vs) w:=by
  obtain ⟨c,hc⟩:=ZV.1 hb;simp [callFunc,d,hn,hc]
 rw [hr];unfold Runs;simp only;have key:CallsIn Fence.wide n P f vs w fun e w'=>∃ u,e=.returned u/\R u w':=callsIn_wide.2 h;rcases b with ⟨_,rfl⟩ | ⟨_,l,rfl⟩
 ·exact key
 ·exact key
def Bo {α:Type} [Inhabited α] (enc:α->Value) (w:World) (blk off m:Nat) (a:Array α) (os:Array Obj):(∀ c,c<w.heap.size->c≠blk->(mF enc w blk off m a os).heap[c]? = w.heap[c]?)/\w.heap.size<=(mF enc w blk off m a os).heap.size:=by
 have e:(mF enc w blk off m a os).heap=w.heap.modify blk (onCells (putCells enc off a))++os:=rfl;rw [e];refine ⟨fun c hc hne=>?_,by simp⟩;rw [XZ (by simpa using hc),YK,if_neg (Ne.symm hne)]
def DR {cal:oJ} {g:Nat} {caps:List AV} {D:Heap} {x:AV}:∀ {l:List AV} {cs:List Int},r8 cal g caps D x l=some cs->cs.length=l.length/\∀ (j:Nat) (y:AV),l[j]? = some y->∃ a,cal (.fn g ([x,y]++caps)) D=some (.int .i64 (cs.getD j 0),a)
 | [],cs,h=>by
  simp only [r8,QW] at h;subst h;exact ⟨rfl,fun j y h=>by simp at h⟩
 | y :: l,cs,h=>by
  simp only [r8] at h;split at h
  ·rename_i c a b h1 h2;cases h;obtain ⟨k1,k2⟩:=DR h2;refine ⟨by simp [k1],fun j z hz=>?_⟩;cases j with
   | zero=>simp at hz; subst hz; exact ⟨a,h1⟩
   | succ j=>exact k2 j z (by simpa using hz)
  ·cases h
def Ci {cal:oJ} {g:Nat} {caps:List AV} {D:Heap} {all:List AV}:∀ {l:List AV} {M:List (List Int)},tz cal g caps D all l=some M->∀ (i:Nat) (x:AV),l[i]? = some x->r8 cal g caps D x all=some (M.getD i [])
 | [],M,h,i,x,hx=>by simp at hx
 | x :: l,M,h,i,z,hz=>by
  simp only [tz] at h;split at h
  ·rename_i r a h1 h2;cases h;cases i with
   | zero=>simp at hz; subst hz; exact h1
   | succ i=>exact Ci h2 i z (by simpa using hz)
  ·cases h
def Gc {cal:oJ} (ah:nR P cal) {S ty:Nat} {gs:List Nat} (hS:JV P S gs) {args:List AV} {v:AV} {H':Heap} (h:Dn cal ty gs H args=some (v,H')) {vs:List Value} {fence:Fence} {rd:Bool} (C:FenceOK fence rd) (hH:HR P μ F H w) (hl:LR μ F w args vs) (n:Nat) :
  Runs fence n P ((callFunc S vs.toArray).run P w) fun u w'=>∃ μ',iJ tG P μ F H w v H' u w' μ':=by
 obtain ⟨⟨fn,J,hb,hn⟩,ar,ao,aa,aB⟩:=hS;have O:∀ {a b:AV},LR μ F w [a,b] vs->∃ x y,vs=[x,y]/\VR μ F w a x/\VR μ F w b y:=fun {a b} h=>by
  have h1:=h.1
  match vs,h1 with
  | [x,y],_=>exact ⟨x,y,rfl,h.head,h.tail.head⟩
 unfold Dn at h;split at h
 ·cases h;obtain ⟨x,y,rfl,hx,hy⟩:=O hl;cases hx;refine se J hb hn C ((aa none 0 y w).mono ?_);rintro e w' ⟨rfl,rfl⟩;exact ⟨_,rfl,μ,.tup [] #[] rfl (fun i c v h=>by simp at h),hH,Stp.refl _ _ _ _ _ _⟩
 ·rename_i b off len c sz ex g caps;split at h
  ·rename_i hz;cases h;subst hz;obtain ⟨x,y,rfl,hx,hy⟩:=O hl;cases hx with
   | own _ _ _ _ _ _ L cap Q o2 o3 o4 o5 o6 =>
   refine se J hb hn C ((aa _ cap y w).mono ?_);rintro e w' ⟨rfl,rfl⟩;exact ⟨_,rfl,μ,.tup [] #[] rfl (fun i c v h=>by simp at h),hH,Stp.refl _ _ _ _ _ _⟩
  split at h
  ·rename_i cs aE N;split at h
   ·rename_i hc;obtain ⟨rfl,rfl,rfl,aG,h0,af,hg,ab⟩:=hc;split at h
    ·rename_i M hM;split at h
     ·rename_i s;cases h;obtain ⟨x,y,rfl,hx,hy⟩:=O hl;obtain ⟨L,hL,hE⟩:=hH.ent b _ N;cases hx with
      | own _ _ _ _ _ _ L' cap Q o2 o3 o4 o5 o6 =>
      rw [hL] at Q; cases Q;cases hy with
      | fn _ _ _ us ub q1 q2 q3 q4 =>
      obtain rfl:us = #[]:=Zw (by simpa using q1.symm);obtain ⟨arr,fr,B,a2,a3,a4,a5,a6,-⟩:=hE;obtain ⟨Z,rfl⟩:=a6 rfl;have ag:=(hH.dom b L hL).2;obtain ⟨k,rfl⟩:∃ k,len=k+1:=⟨len-1,zO⟩
      obtain ⟨enc,am⟩:∃ enc:Fin (k+1)->Value,enc=fun i=>arr[i.val]!:=⟨_,rfl⟩
      have Y:∀ i:Fin (k+1),arr[i.val]? = some (enc i):=fun i=>by
       have hi:i.val<arr.size:=by have:=i.isLt; omega
       rw [am,XT hi];simp [hi]
      have r:∀ i:Fin (k+1),cs[i.val]? = some (cs.getD i.val .undef):=fun i=>by
       have hi:i.val<cs.length:=by have:=i.isLt; omega
       rw [eA hi];simp [hi]
      have A:∀ i:Fin (k+1),VR μ F w (cs.getD i.val .undef) (enc i):=fun i=>a5 _ _ _ (r i) (Y i);obtain ⟨l,X⟩:∃ l:Fin (k+1)->Fin (k+1)->Int,l=fun i j=>(M.getD i.val []).getD j.val 0:=⟨_,rfl⟩
      have hlt:∀ i j,Ro l i j=Nl M i.val j.val:=fun i j=>by rw [X]; rfl
      obtain ⟨w1,w2,w3⟩:=s;have hT:∀ x y,Ro l x y=false->Ro l y x=false->x=y:=fun x y f d=>by
       rw [hlt] at f d;rcases w2 _ x.isLt _ y.isLt with e | e
       ·exact Fin.ext e
       ·rw [f,d] at e; cases e
      have aC:SWO (Ro l):=by
       refine ⟨fun x=>by rw [hlt]; exact w1 _ x.isLt,fun x y z f d=>?_,fun x y z f d=>?_⟩
       ·rw [hlt] at *; exact w3 _ x.isLt _ y.isLt _ z.isLt f d
       ·rw [hlt] at *;cases ad:Nl M x.val z.val with
        | false=>rfl
        | true =>
         rcases w2 _ x.isLt _ y.isLt with e | e
         ·rw [<- e,ad] at d; cases d
         ·rw [f] at e;have e3:Nl M y.val x.val=true:=by simpa using e.symm
          rw [w3 _ y.isLt _ x.isLt _ z.isLt e3 ad] at d; cases d
      have av:UY enc:=fun i=>by
       refine (A i).oneCell ?_;rw [GR] at ab;exact ab _ (Cv (r i))
      have aj:Sq P g ub enc l L.blk 0 (k+1) w:=by
       intro m os T aF x y;obtain ⟨W,hW⟩:∃ W,W=mF enc w L.blk 0 m T os:=⟨_,rfl⟩
       rw [<- hW];obtain ⟨E,G⟩:=Bo enc w L.blk 0 m T os;rw [<- hW] at E G;have o:∀ c,F c->W.heap[c]? = w.heap[c]?:=fun c hc=>E c (hH.fb c hc) fun e=>Z (e ▸ hc);have V:HR P μ F (H.kill b) W:=by
        have K:∀ b' e',(H.kill b).get b'=some e'->b'≠b/\H.get b'=some e':=fun b' e' h=>by
         rw [Heap.get_kill] at h;split at h
         ·cases h
         ·exact ⟨by assumption,h⟩
        refine ⟨fun b' L' h'=>⟨(hH.dom b' L' h').1,Eb (hH.dom b' L' h').2 G⟩,fun c hc=>Eb (hH.fb c hc) G,fun b' e' h'=>?_,fun b1 b2 f d L1 L2 h1 h2=>hH.inj b1 b2 f d L1 L2 (K _ _ h1).2 (K _ _ h2).2,fun g cs hg=>(hH.gl g cs hg).mono (fun _ _ h=>h) (fun _ h=>h) o⟩;obtain ⟨hne,h'⟩:=K b' e' h';obtain ⟨L',D,U⟩:=hH.ent b' e' h';exact ⟨L',D,U.mono (fun _ _ h=>h) (fun _ h=>h) o (E _ (hH.dom b' L' D).2 fun e=>hne (hH.inj b' b e' _ L' L h' N D hL e)) (fun hr=>U.notF hr)⟩
       have hD:=Us V;have ax:=Ci hM x.val _ (r x);obtain ⟨D',ay⟩:=(DR ax).2 y.val _ (r y);have hargs:LR μ F W ([cs.getD x.val .undef,cs.getD y.val .undef]++caps) ([enc x,enc y]++ub.toList):=by
        refine LR.cons ((A x).mono (fun _ _ h=>h) (fun _ h=>h) o) (LR.cons ((A y).mono (fun _ _ h=>h) (fun _ h=>h) o) ⟨by simpa using q3,fun i c v hc t=>?_⟩);exact (q4 i c v hc (by simpa using t)).mono (fun _ _ h=>h) (fun _ h=>h) o
       have run:=(ah _ _ _ _ ay μ F W _ Fence.wide false 0 (.inl ⟨rfl,rfl⟩) hD hargs (fun b args h=>by cases h)).2;have ae:([enc x,enc y]++ub.toList).toArray = #[enc x,enc y]++ub:=by
        apply Array.ext'
        simp
       simp only [nu,ae,ao g hg,Runs] at run;refine (callsIn_wide.1 run).mono ?_;rintro e R ⟨u,rfl,μ',hd⟩;obtain ⟨dv,dh,ds⟩:=hd;cases dv;refine ⟨by rw [X],R.drawn-W.drawn,R.heap.extract W.heap.size R.heap.size,?_⟩;exact Il ds.size (Q0 V (fun b=>rfl) ds) ds.tape.1 (ds.tape.2 ar) ds.os ds.out
      have ap:Holds enc w L.blk 0 (List.finRange (k+1)).toArray:=by
       intro j hj;have hj:j<k+1:=by simpa using hj
       have f:(List.finRange (k+1)).toArray[j]! = ⟨j,hj⟩:=by
        simp [hj]
       rw [f,RO,qp B];exact ⟨Y ⟨j,hj⟩,by simp [World.frozen?,B]⟩
      have al:=aB k enc l g ub L.blk cap w hg av aC hT aj ap ag af;refine se J hb hn C (al.mono ?_);rintro e w' ⟨rfl,m,os,rfl⟩;have aq:((List.finRange (k+1)).mergeSort fun x y=>!(Ro l) y x)=lv M (k+1):=by
       unfold lv;congr 1
       funext x y
       rw [hlt]
      rw [aq];obtain ⟨q,s⟩:∃ q,q=lv M (k+1):=⟨_,rfl⟩
      have au:q.length=k+1:=by rw [s]; unfold lv; rw [List.length_mergeSort,List.length_finRange]
      rw [<- s];obtain ⟨p1,p2⟩:=jc (I:=tG) (e:=.cells (q.map fun i=>cs.getD i.val .undef) aE true) hH N rfl hL (putRow enc (Sort.ahead w m) L.blk 0 q.toArray) (fun c hc=>by
        show (w.heap.modify L.blk _)[c]? = _;rw [YK,if_neg (Ne.symm hc)]) (by show (w.heap.modify L.blk _).size=_; simp) ⟨rfl,fun _=>Ob _ _⟩ rfl rfl
       (fun o=>by
        refine ⟨putCells enc 0 q.toArray arr,(0,0),?_,by simp [putCells,a2],a3,by simp [putCells,au]; omega,fun i c v hc t=>?_,fun _=>⟨Z,rfl⟩,fun h=>by cases h⟩
        ·show (w.heap.modify L.blk _)[L.blk]? = _;rw [YK,if_pos rfl,B]; rfl
        ·rw [XA,wI] at hc;obtain ⟨p,hp,rfl⟩:=hc;obtain ⟨hi,aw⟩:=B4.1 hp;have aD:v=enc p:=by
          simp only [putCells,Array.getElem?_mapIdx,wI] at t;obtain ⟨z,hz,rfl⟩:=t;rw [if_pos ⟨xq _,by simpa using hi⟩];congr 1;simp [hi,aw]
         rw [aD];exact (A p).mono (fun _ _ h=>h) (fun _ h=>h) o) rfl
      obtain ⟨r1,r2⟩:=Jq p1 os;exact ⟨_,rfl,μ,.tup [] #[] rfl (fun i c v h=>by simp at h),r1,p2.trans r2⟩
     ·cases h
    ·cases h
   ·cases h
  ·cases h
 ·cases h
end
section
variable {P:Program} {μ:Mu} {F:Nat->Prop} {H:Heap} {w:World} {T:Tm} {a:Act} {B:Nat}
def IJ {tmps:Array Value} {r:ResultVar} {c:Nat × Option (Option Nat)} {v:AV} (hT:LR μ F w T tmps.toList) (hH:HR P μ F H w) (hr:HL P r=some c) (h:oS T H c=some v) :
  ∃ u,((match r with | .tmp t=>pure (tmps.getD t undef) | .cell a t=>do loadVar t (<- asAddr (tmps.getD a undef)):Sem Value)).run P w=.ok u w/\VR μ F w v u:=by
 have hg:=fun t=>KN (a:=⟨tmps,[]⟩) hT t;cases r with
 | tmp t=>cases hr; cases h; exact ⟨_,rfl,hg t⟩
 | cell a t =>
  simp only [HL,kS,cO] at hr;obtain ⟨k,f,hr⟩:=hr;cases hr;simp only [oS] at h;have hx:=hg a;split at h
  ·rename_i b o e;rw [e] at hx;obtain ⟨L,hL,hp⟩:=EU hx;split at h
   ·rename_i cs ty rw hb;obtain ⟨arr,fr,h1,h2,h3,h4,h5,h6,g⟩:=gh hH hb hL;obtain ⟨u,d,hr⟩:=Fg (o:=o) (off:=0) h1 zO (by simpa using h5) f h;rw [RO] at d;simp only at hp;refine ⟨u,?_,hr⟩;simp only [Sem.run_bind,hp,asAddr,Sem.run_pure,Result.andThen_ok,d]
   ·cases h
  ·cases h
def tU {tmps:Array Value} (hT:LR μ F w T tmps.toList) (hH:HR P μ F H w):∀ (c:List ResultVar) (b:List (Nat × Option (Option Nat))) (vs:List AV),c.mapM (HL P)=some b->b.mapM (oS T H)=some vs ->
  ∃ us:List Value,(c.mapM fun | .tmp t=>pure (tmps.getD t undef) | .cell a t=>do loadVar t (<- asAddr (tmps.getD a undef)):Sem (List Value)).run P w=.ok us w/\LR μ F w vs us
 | [],b,vs,h,h'=>by simp at h; subst h; simp at h'; subst h'; exact ⟨[],by simp,LR.nil⟩
 | r :: c,b,vs,h,h'=>by
  simp only [Yi,YZ,kS,cO] at h;obtain ⟨x,hx,xs,g,h⟩:=h;cases h;simp only [Yi,YZ,kS,cO] at h';obtain ⟨y,hy,j,i,h'⟩:=h';cases h';obtain ⟨u,e,hr⟩:=IJ hT hH hx hy;obtain ⟨us,f,d⟩:=tU hT hH c xs j g i;refine ⟨u :: us,?_,LR.cons hr d⟩;simp only [Yi,Sem.run_bind,e,Result.andThen_ok,f,Sem.run_pure]
def CY {fn:Func} {tmps:Array Value} {b:List (Nat × Option (Option Nat))} {v:AV} (hT:LR μ F w T tmps.toList) (hH:HR P μ F H w) (d:fn.results.toList.mapM (HL P)=some b) (h:cq T H b=some v) :
  ∃ u,(results fn tmps).run P w=.ok u w/\VR μ F w v u:=by
 simp only [cq,kS,cO] at h;obtain ⟨vs,k,h⟩:=h;obtain ⟨us,j,hr⟩:=tU hT hH _ _ _ d k;have hm:(fn.results.mapM fun | .tmp t=>pure (tmps.getD t undef) | .cell a t=>do loadVar t (<- asAddr (tmps.getD a undef)):Sem (Array Value)).run P w=.ok us.toArray w:=by
  rw [Array.mapM_eq_mapM_toList];simp only [Sem.run_map,j,Result.andThen_ok]
 have f:(results fn tmps).run P w=.ok (if h:us.toArray.size=1 then us.toArray[0] else .tuple us.toArray) w:=by
  unfold results;simp only [Sem.run_bind];exact (congrArg (fun r:Result (Array Value)=>r.andThen fun a w'=>Sem.run P (pure (if h:a.size=1 then a[0] else Value.tuple a)) w') hm)
 refine ⟨_,f,?_⟩;split at h
 ·cases h
  match us,hr with
  | [u],hr=>exact hr.head
  | [],hr=>have:=hr.1; simp at this
  | _ :: _ :: _,hr=>have:=hr.1; simp at this
 ·rename_i hne;cases h;have hl:=hr.1;have h1:us.toArray.size≠1:=by
   intro e;simp at e
   match vs,hl with
   | [v],_=>exact hne v rfl
   | [],hl=>simp at hl; omega
   | _ :: _ :: _,hl=>simp at hl; omega
  rw [dif_neg h1];exact .tup _ _ (by simpa using hl) fun i c u hc g=>hr.2 i c u hc (by simpa using g)
def Md (hH:HR P μ F H w) {D:Nat} {o:Obj} (f:¬ F D) (hn:∀ b L,μ b=some L->L.blk≠D):HR P μ F H (w.putObj D o):=by
 have a:∀ c,c≠D->(w.putObj D o).heap[c]? = w.heap[c]?:=fun c hc=>World.putObj_heap_other hc;have i:(w.putObj D o).heap.size=w.heap.size:=by simp [World.putObj]
 refine ⟨fun b L hb=>?_,fun c hc=>?_,fun b e hb=>?_,hH.inj,fun g cs hg=>(hH.gl g cs hg).mono (fun _ _ h=>h) (fun _ h=>h) fun c hc=>a c fun e=>f (e ▸ hc)⟩
 ·rw [i]; exact hH.dom b L hb
 ·rw [i]; exact hH.fb c hc
 ·obtain ⟨L,hL,d⟩:=hH.ent b e hb;exact ⟨L,hL,d.mono (fun _ _ h=>h) (fun _ h=>h) (fun c hc=>a c fun e=>f (e ▸ hc)) (a _ (hn b L hL)) (fun hr=>d.notF hr)⟩
def wx {fn:Func} {tmps:Array Value} {i:List (Nat × Option (Option Nat))} {v:AV} {μ0:Mu} {H0:Heap} {w0:World} (n:Nat) (l:fn.results.toList.mapM (HL P)=some i) (o:cq T H i=some v) :
  ∀ (Ds:List Nat) (w:World),Ds.Nodup->(∀ D∈Ds,w0.heap.size<=D/\D<w.heap.size/\w.heap[D]? = some (.deferred (some []))/\¬ F D/\∀ b L,μ b=some L->L.blk≠D) ->
   LR μ F w T tmps.toList->HR P μ F H w->Stp tG P μ0 F H0 w0 μ F H w ->
   LeavesInM Fence.wide n P fn tmps (fun e w'=>∃ u,e=.returned u/\∃ μ',iJ tG P μ0 F H0 w0 v H u w' μ') (Ds.map fun D=>{ target:=.collected D,args:=#[] }) .returning w
 | [],w,_,_,hT,hH,a=>by
  obtain ⟨u,r,hr⟩:=CY hT hH l o;exact ⟨u,r,u,rfl,μ,hr,hH,a⟩
 | D :: Ds,w,d,hD,hT,hH,a=>by
  obtain ⟨y,z,p,j,q⟩:=hD D (Al ..);have d:=Ze.1 d;have f:∀ c,c≠D->(w.putObj D (.deferred none)).heap[c]? = w.heap[c]?:=fun c hc=>World.putObj_heap_other hc;have m:(w.putObj D (.deferred none)).heap.size=w.heap.size:=by simp [World.putObj]
  refine ⟨fun e=>(by cases e),.inl ⟨D,_,rfl,run_takeDeferred p,?_⟩⟩;refine wx n l o Ds _ d.2 (fun g k=>?_) (hT.mono (fun _ _ h=>h) (fun _ h=>h) fun c hc=>f c fun e=>j (e ▸ hc)) (Md hH j q) ?_
  ·obtain ⟨k1,k2,s,t,x⟩:=hD g (tZ _ k);exact ⟨k1,by rw [m]; exact k2,by rw [f g fun e=>d.1 (e ▸ k)]; exact s,t,x⟩
  ·exact ⟨a.mu,a.fr,by rw [m]; exact a.size,fun c hc hn=>by rw [f c zO]; exact a.keep c hc hn,a.rw,a.next,a.new,a.rng,a.old,a.alv,a.tape.trans (Tp.same rfl rfl),a.os,a.out⟩
def EN {μ:Mu} {F:Nat->Prop} {w:World} (n:Nat):LR μ F w (List.replicate n .undef) (List.replicate n undef):=by
 induction n with
 | zero=>exact LR.nil
 | succ n a=>exact LR.cons (.undef _) a
def rj {cal:oJ} (r:nR P cal) (t:P.follows .mixedOrders=true) {m:Nat} {f:Nat} {fn:Func} {afn:aA} {args:List AV} {v:AV} {H':Heap} (s:P.funcs[f]? = some fn) (hb:fn.body.isSome=true) (q:∀ c,fn.body=some c->bE P c=some afn.body)
  (p:fn.results.toList.mapM (HL P)=some afn.results) (y:afn.ntmps=fn.ntmps)
  (h:Bk cal m afn args H=some (v,H')) {vs:List Value} (j:LR μ F w args vs) (hH:HR P μ F H w) (n:Nat) {fence:Fence} {rd:Bool} (o:FenceOK fence rd) :
  CallsIn fence n P f vs.toArray w fun e w'=>∃ u,e=.returned u/\∃ μ',iJ tG P μ F H w v H' u w' μ':=by
 have key:CallsIn Fence.wide n P f vs.toArray w fun e w'=>∃ u,e=.returned u/\∃ μ',iJ tG P μ F H w v H' u w' μ':=by
  obtain ⟨c,hc⟩:=ZV.1 hb;unfold Bk at h;split at h
  ·have A:No P (w.heap.size,[]) μ F H w (args++List.replicate (afn.ntmps-args.length) .undef) { tmps:=vs.toArray++Array.replicate (fn.ntmps-vs.toArray.size) undef,defers:=[] }:=by
    refine ⟨?_,hH,DM.nil⟩;have hl:=j.1;simp only [Array.toList_append,Array.toList_replicate,Zd];rw [<- hl,y];exact j.append (EN _)
   refine callsIn_of_wp_marks s hc trivial ?_;have fin:∀ (x:Ex) (T1:Tm) (a:Heap),(x=.nrm\/x=.ret)->aL cal m false afn.body (args++List.replicate (afn.ntmps-args.length) .undef) H=some (x,T1,a)->(cq T1 a afn.results).map (fun v=>(v,a))=some (v,H') ->
     c.wpIn Fence.wide n P (bodyPostM Fence.wide n P fn fun e w'=>∃ u,e=.returned u/\∃ μ',iJ tG P μ F H w v H' u w' μ') { tmps:=vs.toArray++Array.replicate (fn.ntmps-vs.toArray.size) undef,defers:=[] } w:=by
    intro x T1 a hx b d;simp only [wI] at d;obtain ⟨C,B,d⟩:=d;cases d;refine rZ r t c afn.body (q c hc) _ _ _ _ _ b Fence.wide n (w.heap.size,[]) μ F w _ _ (.inl ⟨rfl,rfl⟩) (o0 _) A fun a' w' μ' i z=>?_;obtain ⟨Ds,g,k,e3⟩:=i.hD;have g:a'.defers=Ds.map (fun D=>({ target:=.collected D,args:=#[] }:Deferred)):=g.trans (X5 _)
    have:=wx (tmps:=a'.tmps) (fn:=fn) n p B Ds w' k e3 i.hT i.hH z
    rw [<- g] at this;rcases hx with rfl | rfl <;> exact this
   split at h
   ·rename_i T1 a b; exact fin .nrm T1 a (.inl rfl) b h
   ·rename_i T1 a b; exact fin .ret T1 a (.inr rfl) b h
   ·cases h
  ·cases h
 rcases o with ⟨_,rfl⟩ | ⟨_,l,rfl⟩
 ·exact key
 ·exact key
def P9 (P:Program) (f:Nat) (e:Ext):Prop:=∀ H args v H',wM H e args=some (v,H')->∀ (μ:Mu) (F:Nat->Prop) (w:World) (vs:List Value) (fence:Fence) (rd:Bool) (n:Nat),FenceOK fence rd->HR P μ F H w->LR μ F w args vs ->
 Runs fence n P ((callFunc f vs.toArray).run P w) fun u w'=>∃ μ',iJ tG P μ F H w v H' u w' μ'
def ExtOK (P:Program) (f:Nat):Ext->Prop
 | .sortF _ gs=>JV P f gs
 | e=>P9 P f e
def ExtOK.old {P:Program} {f:Nat} {e:Ext} (h:ExtOK P f e) (hn:∀ ty gs,e ≠ .sortF ty gs):P9 P f e:=by
 cases e <;> first | exact h | exact absurd rfl (hn _ _)
def Lf (P:Program) (tab:Nat->Option aA):Prop:=∀ f afn,tab f=some afn->(∀ e,afn.ext=some e->ExtOK P f e)/\((∀ e,afn.ext=some e->e.code=true)->∃ fn,P.funcs[f]? = some fn/\TN P fn=some afn)
def FI {fn:Func} {afn:aA} (h:TN P fn=some afn) (he:afn.ext=none):fn.body.isSome=true ∧ (∀ c,fn.body=some c → bE P c=some afn.body) ∧ fn.results.toList.mapM (HL P)=some afn.results ∧ afn.ntmps=fn.ntmps ∧ fn.name ≠ "runtime.NumGoroutine":=by
 unfold TN at h;split at h
 ·cases h; cases he
 split at h
 ·cases h; cases he
 split at h
 ·simp only [kS,cO] at h;obtain ⟨t,i,d,hd,h⟩:=h;split at h
  ·simp only [cO] at h;obtain ⟨n,hn,b,hb,h⟩:=h;cases h; cases he
  ·cases h
 ·simp only [kS,cO] at h;obtain ⟨b,hb,h⟩:=h;split at h
  ·cases h
  ·rename_i e;simp only [cO] at h;obtain ⟨j,f,c,hc,h⟩:=h;cases h;exact ⟨by simp [hb],fun g a=>by rw [hb] at a; cases a; exact hc,f,rfl,e⟩
def Gp {μ:Mu} {F:Nat->Prop} {w:World}:∀ (ps:List Nat) (args:List AV) (vs:List Value) (T:Tm) (tm:Array Value),LR μ F w args vs->LR μ F w T tm.toList ->
  LR μ F w (oU T (ps.zip args)) ((ps.zip vs).foldl (fun (t:Array Value) (p:Nat × Value)=>t.setIfInBounds p.1 p.2) tm).toList
 | [],args,vs,T,tm,_,h=>by simpa [oU] using h
 | p :: ps,[],[],T,tm,_,h=>by simpa [oU] using h
 | p :: ps,[],_ :: _,T,tm,h,_=>by have:=h.1; simp at this
 | p :: ps,_ :: _,[],T,tm,h,_=>by have:=h.1; simp at this
 | p :: ps,a :: args,v :: vs,T,tm,hl,h=>by
  simp only [List.zip_cons_cons,oU,Yo];exact Gp ps args vs _ _ hl.tail (by rw [ZM]; exact h.set p hl.head)
def tu {f:Nat} {fn:Func} (a:P.funcs[f]? = some fn) (hb:fn.body.isSome=true) (hn:fn.name ≠ "runtime.NumGoroutine") (args:Array Value) (w:World):(callFunc f args).run P w=.ok (.enter f args) w:=by
 obtain ⟨c,hc⟩:=ZV.1 hb;simp [callFunc,a,hn,hc]
structure Shut (Ds:List Nat) (w w':World):Prop where
 other:∀ c,c ∉ Ds->w'.heap[c]? = w.heap[c]?
 size:w'.heap.size=w.heap.size
 tape:Tp w w'
 os:w'.os=w.os
 out:w'.output=w.output
def Shut.nil (w:World):Shut [] w w:=⟨fun _ _=>rfl,rfl,Tp.same rfl rfl,rfl,rfl⟩
def Shut.cons {D:Nat} {Ds:List Nat} {w w':World} (h:Shut Ds (w.putObj D (.deferred none)) w'):Shut (D :: Ds) w w' :=
 ⟨fun c hc=>(h.other c fun hm=>hc (tZ _ hm)).trans (World.putObj_heap_other fun e=>hc (e ▸ Al ..)),h.size.trans (by simp [World.putObj]),(Tp.same rfl rfl).trans h.tape,h.os,h.out⟩
def Shut.hr {Ds:List Nat} {w w':World} (h:Shut Ds w w') (hH:HR P μ F H w) (hD:∀ D∈Ds,¬ F D/\∀ b L,μ b=some L->L.blk≠D):HR P μ F H w':=by
 have d:∀ c,F c->w'.heap[c]? = w.heap[c]?:=fun c hc=>h.other c fun hm=>(hD c hm).1 hc;refine ⟨fun b L hb=>?_,fun c hc=>?_,fun b e hb=>?_,hH.inj,fun g cs hg=>(hH.gl g cs hg).mono (fun _ _ h=>h) (fun _ h=>h) d⟩
 ·rw [h.size]; exact hH.dom b L hb
 ·rw [h.size]; exact hH.fb c hc
 ·obtain ⟨L,hL,a⟩:=hH.ent b e hb;exact ⟨L,hL,a.mono (fun _ _ h=>h) (fun _ h=>h) d (h.other _ fun hm=>(hD _ hm).2 b L hL rfl) (fun hr=>a.notF hr)⟩
def Shut.lr {Ds:List Nat} {w w':World} {as:List AV} {vs:List Value} (h:Shut Ds w w') (hl:LR μ F w as vs) (hD:∀ D∈Ds,¬ F D):LR μ F w' as vs :=
 hl.mono (fun _ _ h=>h) (fun _ h=>h) fun c hc=>h.other c fun hm=>hD c hm hc
def Shut.stp {Ds:List Nat} {w0 w w':World} {μ0:Mu} {H0:Heap} (h:Shut Ds w w') (a:Stp tG P μ0 F H0 w0 μ F H w) (hD:∀ D∈Ds,w0.heap.size<=D):Stp tG P μ0 F H0 w0 μ F H w' :=
 ⟨a.mu,a.fr,by rw [h.size]; exact a.size,fun c hc hn=>(h.other c fun hm=>by have:=hD c hm; omega).trans (a.keep c hc hn),a.rw,a.next,a.new,a.rng,a.old,a.alv,a.tape.trans h.tape,h.os.trans a.os,h.out.trans a.out⟩
def Gh {tab:Nat->Option aA} {m:Nat} (y:P.follows .mixedOrders=true) (ad:Lf P tab) {cal:oJ} {pc:Ng} (aE:JW P pc) (q:nR P cal):nR P (jW tab pc cal m):=by
 intro t H v H' h μ F w vs fence rd k n hH hl ax;cases t with
 | fn f args =>
  simp only [jW] at h;split at h
  ·cases h
  ·rename_i afn C;obtain ⟨t1,M⟩:=ad f afn C;refine ⟨fun f args e=>(by cases e),?_⟩;split at h
   ·rename_i ty gs he;exact Gc q (t1 _ he) h n hH hl k
   ·rename_i e hn he;exact (t1 e he).old hn H args v H' h μ F w vs fence rd k n hH hl
   ·rename_i he;obtain ⟨fn,i,D⟩:=M fun e h=>by rw [he] at h; cases h
    obtain ⟨k1,k2,J,K,z⟩:=FI D he;simp only [nu,tu i k1 z,Runs];exact rj q y i k1 k2 J K h hl hH k n
 | ent f args =>
  simp only [jW] at h;split at h
  ·cases h
  ·rename_i afn C;obtain ⟨t1,M⟩:=ad f afn C;split at h
   ·cases h
   ·rename_i he;obtain ⟨fn,i,D⟩:=M fun e h=>by rw [he] at h; cases h
    obtain ⟨k1,k2,J,K,z⟩:=FI D he;refine ⟨fun f' aB e=>by cases e; exact tu i k1 z _ _,?_⟩;simp only [nu,tu i k1 z,Runs];exact rj q y i k1 k2 J K h hl hH k n
 | round b args =>
  refine ⟨fun f args e=>(by cases e),?_⟩;obtain ⟨L,hL⟩:=ax b args rfl;simp only [jW] at h;split at h
  ·rename_i T0 ps ag body hb;split at h
   ·rename_i aC;obtain ⟨L',W,hE⟩:=hH.ent b _ hb;rw [hL] at W; cases W;obtain ⟨aD,r,g1,g2,g3,U,g5,g6,V⟩:=hE;have aF:r.pending=none:=by
     cases hp:r.pending with
     | none=>rfl
     | some c=>rw [hp] at V; exact V.elim
    have hargs:vs.toArray.size=r.params.size:=by
     have h1:=hl.1;simp only [Task.args] at h1;have h2:r.params.size=ps.length:=by rw [<- U]; simp
     simp; omega
    simp only [nu,hL,run_yield g1 hargs,Runs];split at h
    ·rename_i T1 H1 ao;split at h
     ·rename_i N ae Q S aa;split at h
      ·rename_i x T2 H2 ap;split at h
       ·rename_i O af R T ab;have key:RoundIn Fence.wide k P L.blk r.fn ((r.params.zip vs.toArray).foldl (fun tmps (t,a)=>tmps.setIfInBounds t a) r.tmps) r.assign r.body w fun e w'=>∃ u,e=.returned u/\∃ μ',iJ tG P μ F H w v H' u w' μ':=by
         have aq:((r.params.zip vs.toArray).foldl (fun tmps (t,a)=>tmps.setIfInBounds t a) r.tmps)=(ps.zip vs).foldl (fun (t:Array Value) (p:Nat × Value)=>t.setIfInBounds p.1 p.2) r.tmps:=by
          rw [<- Array.foldl_toList,Array.toList_zip,U]
         rw [aq];refine roundIn_of_wpIn trivial ?_;have ay:No P (w.heap.size,[]) μ F H w (oU T0 (ps.zip args)) { tmps:=(ps.zip vs).foldl (fun (t:Array Value) (p:Nat × Value)=>t.setIfInBounds p.1 p.2) r.tmps,defers:=[] } :=
          ⟨Gp ps args vs T0 r.tmps hl g3,hH,DM.nil⟩
         refine rZ q y r.assign ag g5 _ _ _ _ _ ao (Fence.wide.inRound L.blk) k (w.heap.size,[]) μ F w _ _ (.inr ⟨rfl,_,rfl⟩) (o0 _) ay fun a1 w1 μ1 o j=>?_;obtain ⟨L1,X,ah⟩:=o.hH.ent b _ aa;rw [j.mu _ _ hL] at X; cases X;obtain ⟨av,r1,q1,q2,q3,q4,q5,q6,q7⟩:=ah;have ar:=(XJ.1 q1).1;refine ⟨_,run_beginRound q1 q2,?_⟩;obtain ⟨al,s⟩:=jc (I:=tG) (e:=.loop N ae Q S .busy none) o.hH aa rfl (j.mu _ _ hL) (w1.putObj L.blk (.loop { r1 with state:=.busy })) (fun c hc=>World.putObj_heap_other hc) (by simp [World.putObj]) (Tp.same rfl rfl) rfl rfl
          (fun G=>⟨av,_,World.putObj_heap_same ar,rfl,q3.mono (fun _ _ h=>h) (fun _ h=>h) G,q4,q5,q6,q7⟩) rfl
         have am:No P (w.heap.size,[]) μ1 F (H1.put b (.loop N ae Q S .busy none)) (w1.putObj L.blk (.loop { r1 with state:=.busy })) T1 a1:=⟨s.lr o.hH o.hT,al,o.hD.stp s⟩
         refine rZ q y r.body body g6 _ _ _ _ _ ap (Fence.wide.inRound L.blk) k (w.heap.size,[]) μ1 F _ _ _ (.inr ⟨rfl,_,rfl⟩) (B5 j.size s.size) am fun a2 w2 μ2 Z E=>?_;obtain ⟨L2,Y,aj⟩:=Z.hH.ent b _ ab;rw [E.mu _ _ (j.mu _ _ hL)] at Y; cases Y;obtain ⟨aw,r2,s1,s2,s3,s4,s5,s6,s7⟩:=aj;have au:=(XJ.1 s1).1;have fin:∀ (d:Option Code) (st:LoopState) (A:Option ACode) (B:Bool),(if d.isNone then LoopState.ready else .done)=st->d.isNone=B->(match A,d with | none,none=>True | some c,some c'=>bE P c'=some c | _,_=>False) ->
           some (AV.bool B,H2.put b (.loop O af R T st A))=some (v,H') ->
           ∃ u w',(Instr.endRound L.blk d).run P w2=.ok u w'/\∃ u',Ending.returned u=.returned u'/\∃ μ',iJ tG P μ F H w v H' u' w' μ':=by
          intro d st A B e1 e2 e3 e4;cases e4;subst e2;refine ⟨_,_,run_endRound d s1,_,rfl,μ2,?_⟩;obtain ⟨z1,z2⟩:=jc (I:=tG) (e:=.loop O af R T st A) Z.hH ab rfl (E.mu _ _ (j.mu _ _ hL)) (w2.putObj L.blk (.loop { r2 with state:=if d.isNone then .ready else .done,pending:=d })) (fun c hc=>World.putObj_heap_other hc) (by simp [World.putObj]) (Tp.same rfl rfl) rfl rfl
           (fun G=>⟨aw,_,World.putObj_heap_same au,e1,s3.mono (fun _ _ h=>h) (fun _ h=>h) G,s4,s5,s6,e3⟩) rfl
          exact ⟨.bool _,z1,((j.trans s).trans E).trans z2⟩
         cases x with
         | nrm=>exact fin none .ready none true rfl rfl trivial h
         | ret=>exact fin (some .ret) .done (some .ret) false rfl rfl rfl h
         | exit id=>exact fin (some (.exit id)) .done (some (.exit id)) false rfl rfl rfl h
         | goto g=>exact fin (some (.goto g)) .done (some (.goto g)) false rfl rfl rfl h
        rcases n with ⟨_,rfl⟩ | ⟨_,l,rfl⟩
        ·exact key
        ·exact key
       ·cases h
      ·cases h
     ·cases h
    ·cases h
   ·cases h
  ·cases h
def Bm {tab:Nat->Option aA} {m:Nat} {d:Ng} (b:JW P d) (a:P.follows .mixedOrders=true) (c:Lf P tab):∀ n,nR P (lU tab d m n)
 | 0=>fun t H v H' h=>by cases h
 | n+1=>Gh a c b (Bm b a c n)
end
section
variable {α:Type} (Good:Nat->α->Prop)
def G0 (f:Nat):Option α->Prop
 | none=>True
 | some a=>Good f a
def G1 (f:Nat) (q:Q (Option α)):Prop:=G0 Good (8*f) q.a/\G0 Good (8*f+1) q.b/\G0 Good (8*f+2) q.c/\G0 Good (8*f+3) q.d/\G0 Good (8*f+4) q.e/\G0 Good (8*f+5) q.f/\G0 Good (8*f+6) q.g/\G0 Good (8*f+7) q.h
def G2 (f:Nat) (q:Q (Q (Option α))):Prop:=G1 Good (8*f) q.a/\G1 Good (8*f+1) q.b/\G1 Good (8*f+2) q.c/\G1 Good (8*f+3) q.d/\G1 Good (8*f+4) q.e/\G1 Good (8*f+5) q.f/\G1 Good (8*f+6) q.g/\G1 Good (8*f+7) q.h
def G3 (f:Nat) (q:Q (Q (Q (Option α)))):Prop:=G2 Good (8*f) q.a/\G2 Good (8*f+1) q.b/\G2 Good (8*f+2) q.c/\G2 Good (8*f+3) q.d/\G2 Good (8*f+4) q.e/\G2 Good (8*f+5) q.f/\G2 Good (8*f+6) q.g/\G2 Good (8*f+7) q.h
def G4 (f:Nat) (q:Q (Q (Q (Q (Option α))))):Prop:=G3 Good (8*f) q.a/\G3 Good (8*f+1) q.b/\G3 Good (8*f+2) q.c/\G3 Good (8*f+3) q.d/\G3 Good (8*f+4) q.e/\G3 Good (8*f+5) q.f/\G3 Good (8*f+6) q.g/\G3 Good (8*f+7) q.h
variable {Good}
end
def Tr.nil_get0 (b:Nat):Tr.nil.get b=none:=by
 have:∀ {α:Type} (d:D8) (x:α),Q.at d (Q.all x)=x:=fun d x=>by cases d <;> rfl
 unfold Tr.get Tr.nil;cases Nat.ble b 16777215 with
 | false=>rfl
 | true=>simp only [this]
def Tr.nil_get (n b:Nat):Heap.get (Heap.nil n) b=none:=by
 have h:Nat.ble (Nat.succ b) 0=false:=rfl;unfold Heap.nil Heap.get;simp only [h];exact Tr.nil_get0 b
def Ia (P:Program) (f:Nat) (afn:aA):Prop:=(∀ e,afn.ext=some e->ExtOK P f e)/\((∀ e,afn.ext=some e->e.code=true)->∃ fn,P.funcs[f]? = some fn/\TN P fn=some afn)
def Oe {P:Program} {f:Nat} {fn:Func} {afn:aA} (a:P.funcs[f]? = some fn) (hc:TN P fn=some afn) (he:afn.ext.isNone=true):Ia P f afn:=by
 refine ⟨fun e h=>?_,fun _=>⟨fn,a,hc⟩⟩;rw [h] at he; cases he
def sO {P:Program} {f:Nat} {afn:aA} {e:Ext} (he:afn.ext=some e) (hx:e.code=false) (h:ExtOK P f e):Ia P f afn:=by
 refine ⟨fun e' h'=>?_,fun h'=>?_⟩
 ·rw [he] at h'; cases h'; exact h
 ·have:=h' e he; rw [hx] at this; cases this
def EG:Array Value->Sem Value:=fun args=>do
 let (x,y,b) ← Extern.MathBitsCarry.three "Sub64" args
 pure (Extern.MathBitsCarry.pair ((x+Extern.MathBitsCarry.m64-y-b) % Extern.MathBitsCarry.m64) (if x<y+b then 1 else 0))
def Gg {P:Program} (x y b:Nat) (hb:b<=1) (w:World) :
  (EG #[.int .u64 x,.int .u64 y,.int .u64 b]).run P w =
   .ok (.tuple #[.int .u64 (((x+18446744073709551616-y-b) % 18446744073709551616:Nat):Int),.int .u64 ((if x<y+b then 1 else 0:Nat):Int)]) w:=by
 have:b=0\/b=1:=zO
 rcases this with rfl | rfl <;> rfl
def AU {μ:Mu} {F:Nat->Prop} {w:World} {vs:List Value} {a b c:Int} {k1 k2 d:IntKind} (h:LR μ F w [.int k1 a,.int k2 b,.int d c] vs):vs=[.int k1 a,.int k2 b,.int d c]:=by
 have hl:=h.1
 match vs,hl with
 | [x,y,z],_ =>
  have h1:=h.2 0 _ x rfl rfl;have h2:=h.2 1 _ y rfl rfl;have h3:=h.2 2 _ z rfl rfl;cases h1; cases h2; cases h3; rfl
def DO {P:Program} {μ:Mu} {F:Nat->Prop} {H:Heap} {w:World} {v:AV} {u:Value} (hH:HR P μ F H w) (a:VR μ F w v u):iJ tG P μ F H w v H u w μ :=
 ⟨a,hH,Stp.refl _ _ _ _ _ _⟩
def R3 {H H':Heap} {args:List AV} {v:AV} (h:wM H .add64 args=some (v,H')):∃ x y c:Nat,args=[.int .u64 (.ofNat x),.int .u64 (.ofNat y),.int .u64 (.ofNat c)]/\c<=1/\v=.tup [.int .u64 (.ofNat ((x+y+c) % 2^64)),.int .u64 (.ofNat ((x+y+c) / 2^64))]/\H'=H:=by
 unfold wM at h;split at h
 all_goals first | contradiction | skip
 ·split at h
  ·rename_i x y c _ hc;cases h;exact ⟨x,y,c,rfl,hc,rfl,rfl⟩
  ·cases h
 all_goals cases h
def QU {H H':Heap} {args:List AV} {v:AV} (h:wM H .sub64 args=some (v,H')):∃ x y c:Nat,args=[.int .u64 (.ofNat x),.int .u64 (.ofNat y),.int .u64 (.ofNat c)]/\c<=1/\v=.tup [.int .u64 (.ofNat ((x+2^64-y-c) % 2^64)),.int .u64 (.ofNat (if x<y+c then 1 else 0))]/\H'=H:=by
 unfold wM at h;split at h
 all_goals first | contradiction | skip
 ·split at h
  ·rename_i x y c _ hc;cases h;exact ⟨x,y,c,rfl,hc,rfl,rfl⟩
  ·cases h
 all_goals cases h
def Kg {μ:Mu} {F:Nat->Prop} {w:World} (a b:Int):VR μ F w (.tup [.int .u64 a,.int .u64 b]) (.tuple #[.int .u64 a,.int .u64 b]):=by
 refine .tup _ _ rfl fun i d u hi c=>?_
 have:i=0\/i=1\/2<=i:=zO
 rcases this with rfl | rfl | h2
 ·simp at hi c; subst hi; subst c; exact .int _ _
 ·simp at hi c; subst hi; subst c; exact .int _ _
 ·rw [Pi (by simpa using h2)] at hi; cases hi
def Ha {P:Program} {f:Nat} {fn:Func} (d:P.funcs[f]? = some fn) (h1:(fn.name == "runtime.NumGoroutine")=false) (h2:fn.body.isNone=true) (h3:Extern.findNext fn=none) (h4:Extern.find fn=some add64Entry):ExtOK P f .add64:=by
 intro H args v H' h μ F w vs fence rd n e hH hl;obtain ⟨x,y,c,rfl,hc,rfl,rfl⟩:=R3 h
 have:=AU hl
 subst this;have key:(add64Entry #[.int .u64 (.ofNat x),.int .u64 (.ofNat y),.int .u64 (.ofNat c)]).run P w=.ok (.tuple #[.int .u64 (.ofNat ((x+y+c) % 2^64)),.int .u64 (.ofNat ((x+y+c) / 2^64))]) w:=by
  refine (run_add64 (x:Int) (y:Int) (c:Int) zO zO zO zO w).trans ?_;have a:((x:Int)+y+c) % 18446744073709551616=Int.ofNat ((x+y+c) % 2^64):=by rw [Int.ofNat_eq_natCast]; omega
  have b:((x:Int)+y+c) / 18446744073709551616=Int.ofNat ((x+y+c) / 2^64):=by rw [Int.ofNat_eq_natCast]; omega
  rw [a,b]
 rw [run_callFunc_extern d h1 h2 h3 h4,key];exact ⟨μ,DO hH (Kg _ _)⟩
def G9 {P:Program} {f:Nat} {fn:Func} (a:P.funcs[f]? = some fn) (h1:(fn.name == "runtime.NumGoroutine")=false) (h2:fn.body.isNone=true) (h3:Extern.findNext fn=none) (h4:Extern.find fn=some EG):ExtOK P f .sub64:=by
 intro H args v H' h μ F w vs fence rd n b hH hl;obtain ⟨x,y,c,rfl,hc,rfl,rfl⟩:=QU h
 have:=AU hl
 subst this;have key:(EG #[.int .u64 (.ofNat x),.int .u64 (.ofNat y),.int .u64 (.ofNat c)]).run P w=.ok (.tuple #[.int .u64 (.ofNat ((x+2^64-y-c) % 2^64)),.int .u64 (.ofNat (if x<y+c then 1 else 0))]) w :=
  Gg x y c hc w
 rw [run_callFunc_extern a h1 h2 h3 h4,key];exact ⟨μ,DO hH (Kg _ _)⟩
def GlobW (w:World):Prop:=∀ g cs,Nh g=some cs->VR (fun _=>none) (fun c=>(Nh c).isSome=true) w (.dp cs 0) (.pointer (some ⟨g,0,none⟩))
def Oj {P:Program} {w:World} (a:GlobW w):HR P (fun _=>none) (fun c=>(Nh c).isSome=true) (Heap.nil 0) w:=by
 refine ⟨fun b L h=>(by cases h),fun c h=>?_,fun b e h=>?_,fun b b' e e' L L' h=>?_,a⟩
 ·cases hc:Nh c with
  | none=>rw [hc] at h; cases h
  | some cs =>
   have:=a c cs hc
   cases this with
   | dp _ _ _ _ _ _ _ _ hb _ _=>exact (XJ.1 hb).1
 ·rw [Tr.nil_get] at h; cases h
 ·rw [Tr.nil_get] at h; cases h
def fd:Ng:=fun _ _=>none
def VV (tab:Nat->Option aA) (t:Task) (H:Heap) (v:AV) (H':Heap):Prop:=∃ N,∀ m n,N<=m->N<=n->lU tab fd m n t H=some (v,H')
def Ans (tab:Nat->Option aA) (t:Task) (H:Heap) (Q:AV->Heap->Prop):Prop:=∃ v H',VV tab t H v H'/\Q v H'
def Qa (tab:Nat->Option aA) (rd:Bool) (c:ACode) (T:Tm) (H:Heap) (x:Ex) (T':Tm) (H':Heap):Prop:=∃ N,∀ m n,N<=m->N<=n->aL (lU tab fd m n) m rd c T H=some (x,T',H')
def Ans.mono {tab:Nat->Option aA} {t:Task} {H:Heap} {Q a:AV->Heap->Prop} (h:Ans tab t H Q) (b:∀ v H',Q v H'->a v H'):Ans tab t H a:=by
 obtain ⟨v,H',hb,h⟩:=h;exact ⟨v,H',hb,b v H' h⟩
section
variable (tab:Nat->Option aA)
def iT (ev:Src->AV) (H:Heap) (id:Nat) (o:AOp) (Q:AV->Heap->Prop):Prop :=
 match o with
 | .call f args=>∃ t,iU (ev f) (args.map ev)=some t/\Ans tab t H Q
 | o=>match aS ev o with
  | some v=>Q v H
  | none=>match bi ev H id o with
   | some (v,H')=>Q v H'
   | none=>False
def yN:Nat->List FR->Tm->Heap->(Tm->Heap->Prop)->Prop
 | _,[],T,H,Q=>Q T H
 | id,o :: os,T,H,Q =>
  match b7 T o.guard with
  | some true=>iT tab (Src.ev T) H id o.op fun v H'=>yN (id+1) os (putT T o.dst v) H' Q
  | some false=>yN (id+1) os (putT T o.dst (.tup [])) H Q
  | none=>False
def uF (rd:Bool):ACode->Tm->Heap->(Ex->Tm->Heap->Prop)->Prop
 | .skip,T,H,Q=>Q .nrm T H
 | .region ops,T,H,Q=>yN tab H.next ops T { H with next:=H.next+ops.length } (Q .nrm)
 | .seq a b,T,H,Q=>uF rd a T H fun x T' H'=>match x with
  | .nrm=>uF rd b T' H' Q
  | x=>Q x T' H'
 | .cond c a b,T,H,Q=>match c.ev T with
  | .bool true=>uF rd a T H Q
  | .bool false=>uF rd b T H Q
  | _=>False
 | .block id body,T,H,Q=>uF rd body T H fun x T' H'=>match x with
  | .exit d=>if d=id then Q .nrm T' H' else Q (.exit d) T' H'
  | x=>Q x T' H'
 | .exit id,T,H,Q=>Q (.exit id) T H
 | .goto l,T,H,Q=>Q (.goto l) T H
 | .ret,T,H,Q=>Q .ret T H
 | .scope a,T,H,Q=>uF rd a T H fun x T' H'=>match x with
  | .goto _=>False
  | x=>Q x T' H'
 | c,T,H,Q=>∃ x T' H',Qa tab rd c T H x T' H'/\Q x T' H'
end
section
variable {tab:Nat->Option aA}
def mA {T:Tm} {H:Heap} {id:Nat} {o:AOp} {Q:AV->Heap->Prop} (h:iT tab (Src.ev T) H id o Q):∃ v H',Q v H'/\∃ N,∀ m n,N<=m->N<=n->BB (lU tab fd m n) (Src.ev T) H id o=some (v,H'):=by
 have other:∀ (hc:∀ f args,o ≠ .call f args) (h:match aS (Src.ev T) o with | some v=>Q v H | none=>match bi (Src.ev T) H id o with | some (v,H')=>Q v H' | none=>False),
   (∀ cal,BB cal (Src.ev T) H id o=match aS (Src.ev T) o with | some v=>some (v,H) | none=>bi (Src.ev T) H id o)->∃ v H',Q v H'/\∃ N,∀ m n,N<=m->N<=n->BB (lU tab fd m n) (Src.ev T) H id o=some (v,H'):=by
  intro hc h e;split at h
  ·rename_i v a;refine ⟨v,H,h,0,fun m n _ _=>?_⟩;rw [e,a]
  ·rename_i a;split at h
   ·rename_i v H' hh;refine ⟨v,H',h,0,fun m n _ _=>?_⟩;rw [e,a]; exact hh
   ·exact h.elim
 cases o
 case call f args =>
  obtain ⟨t,d,v,H',⟨N,b⟩,c⟩:=h;refine ⟨v,H',c,N,fun m n hm hn=>?_⟩;simp only [BB,d,kS,X4];exact b m n hm hn
 all_goals exact other (fun f args e=>by cases e) h (fun cal=>rfl)
def qT:∀ (ops:List FR) (id:Nat) (T:Tm) (H:Heap) (Q:Tm->Heap->Prop),yN tab id ops T H Q->∃ T' H',Q T' H'/\∃ N,∀ m n,N<=m->N<=n->Ak (lU tab fd m n) id ops T H=some (T',H')
 | [],id,T,H,Q,h=>⟨T,H,h,0,fun _ _ _ _=>rfl⟩
 | o :: os,id,T,H,Q,h=>by
  unfold yN at h;split at h
  ·rename_i d;obtain ⟨v,g,h1,e,f⟩:=mA h;obtain ⟨T',H',c,a,b⟩:=qT os _ _ _ _ h1;refine ⟨T',H',c,e+a,fun m n hm hn=>?_⟩;unfold Ak;rw [d];simp only;rw [f m n zO zO];exact b m n zO zO
  ·rename_i d;obtain ⟨T',H',c,a,b⟩:=qT os _ _ _ _ h;refine ⟨T',H',c,a,fun m n hm hn=>?_⟩;unfold Ak;rw [d];exact b m n hm hn
  ·exact h.elim
def eN {rd:Bool}:∀ (c:ACode) (T:Tm) (H:Heap) (Q:Ex->Tm->Heap->Prop),uF tab rd c T H Q->∃ x T' H',Qa tab rd c T H x T' H'/\Q x T' H'
 | .skip,T,H,Q,h=>⟨.nrm,T,H,⟨0,fun _ _ _ _=>rfl⟩,h⟩
 | .exit id,T,H,Q,h=>⟨.exit id,T,H,⟨0,fun _ _ _ _=>rfl⟩,h⟩
 | .goto l,T,H,Q,h=>⟨.goto l,T,H,⟨0,fun _ _ _ _=>rfl⟩,h⟩
 | .ret,T,H,Q,h=>⟨.ret,T,H,⟨0,fun _ _ _ _=>rfl⟩,h⟩
 | .region ops,T,H,Q,h=>by
  obtain ⟨T',H',o,N,g⟩:=qT ops _ _ _ _ h;refine ⟨.nrm,T',H',⟨N,fun m n hm hn=>?_⟩,o⟩;simp only [aL,g m n hm hn]
 | .seq a b,T,H,Q,h=>by
  obtain ⟨x,T1,f,⟨d,e⟩,h1⟩:=eN a _ _ _ h;by_cases hx:x=.nrm
  ·subst hx;obtain ⟨y,T2,H2,⟨j,k⟩,h2⟩:=eN b _ _ _ h1;refine ⟨y,T2,H2,⟨d+j,fun m n hm hn=>?_⟩,h2⟩;simp only [aL,e m n zO zO];exact k m n zO zO
  ·refine ⟨x,T1,f,⟨d,fun m n hm hn=>?_⟩,?_⟩
   ·simp only [aL,e m n hm hn]
    all_goals (cases x <;> first | rfl | exact absurd rfl hx)
   ·cases x <;> first | exact h1 | exact absurd rfl hx
 | .cond c a b,T,H,Q,h=>by
  unfold uF at h;split at h
  ·rename_i hc;obtain ⟨x,T1,f,⟨d,e⟩,h1⟩:=eN a _ _ _ h;exact ⟨x,T1,f,⟨d,fun m n hm hn=>by simp only [aL,hc]; exact e m n hm hn⟩,h1⟩
  ·rename_i hc;obtain ⟨x,T1,f,⟨d,e⟩,h1⟩:=eN b _ _ _ h;exact ⟨x,T1,f,⟨d,fun m n hm hn=>by simp only [aL,hc]; exact e m n hm hn⟩,h1⟩
  ·exact h.elim
 | .block id body,T,H,Q,h=>by
  obtain ⟨x,T1,f,⟨d,e⟩,h1⟩:=eN body _ _ _ h;cases x with
  | exit i =>
   simp only at h1;by_cases hi:i=id
   ·rw [if_pos hi] at h1;exact ⟨.nrm,T1,f,⟨d,fun m n hm hn=>by simp only [aL,e m n hm hn,if_pos hi]⟩,h1⟩
   ·rw [if_neg hi] at h1;exact ⟨.exit i,T1,f,⟨d,fun m n hm hn=>by simp only [aL,e m n hm hn,if_neg hi]⟩,h1⟩
  | nrm=>exact ⟨_,T1,f,⟨d,fun m n hm hn=>by simp only [aL,e m n hm hn]⟩,h1⟩
  | goto l=>exact ⟨_,T1,f,⟨d,fun m n hm hn=>by simp only [aL,e m n hm hn]⟩,h1⟩
  | ret=>exact ⟨_,T1,f,⟨d,fun m n hm hn=>by simp only [aL,e m n hm hn]⟩,h1⟩
 | .scope a,T,H,Q,h=>by
  obtain ⟨x,T1,f,⟨d,e⟩,h1⟩:=eN a _ _ _ h;cases x with
  | goto l=>exact h1.elim
  | nrm=>exact ⟨_,T1,f,⟨d,fun m n hm hn=>by simp only [aL,e m n hm hn]⟩,h1⟩
  | exit l=>exact ⟨_,T1,f,⟨d,fun m n hm hn=>by simp only [aL,e m n hm hn]⟩,h1⟩
  | ret=>exact ⟨_,T1,f,⟨d,fun m n hm hn=>by simp only [aL,e m n hm hn]⟩,h1⟩
 | .loop body,T,H,Q,h=>h
 | .rangeFunc ..,T,H,Q,h=>h
 | .draw ..,T,H,Q,h=>h
 | .drawF ..,T,H,Q,h=>h
 | .rangeM ..,T,H,Q,h=>h
 | .scopeL ..,T,H,Q,h=>h
def TU {f:Nat} {fn:aA} {args:List AV} {H:Heap} {Q:AV->Heap->Prop} (a:tab f=some fn) (he:fn.ext=none) (hl:args.length=fn.nparams)
  (h:uF tab false fn.body (args++List.replicate (fn.ntmps-args.length) .undef) H fun x T' H'=>(x=.nrm\/x=.ret)/\∃ v,cq T' H' fn.results=some v/\Q v H'):Ans tab (.fn f args) H Q:=by
 obtain ⟨x,T',H',⟨N,g⟩,hx,v,c,b⟩:=eN _ _ _ _ h;refine ⟨v,H',⟨N+1,fun m n hm hn=>?_⟩,b⟩;obtain ⟨n',rfl⟩:∃ n',n=n'+1:=⟨n-1,zO⟩
 show jW tab fd (lU tab fd m n') m (.fn f args) H=_;simp only [jW,a,he,Bk,if_pos hl];rw [g m n' zO zO];rcases hx with rfl | rfl <;> simp [c]
def RZ {f:Nat} {fn:aA} {args:List AV} {H:Heap} {Q:AV->Heap->Prop} (a:tab f=some fn) (he:fn.ext=none) (hl:args.length=fn.nparams)
  (h:uF tab false fn.body (args++List.replicate (fn.ntmps-args.length) .undef) H fun x T' H'=>(x=.nrm\/x=.ret)/\∃ v,cq T' H' fn.results=some v/\Q v H'):Ans tab (.ent f args) H Q:=by
 obtain ⟨x,T',H',⟨N,g⟩,hx,v,c,b⟩:=eN _ _ _ _ h;refine ⟨v,H',⟨N+1,fun m n hm hn=>?_⟩,b⟩;obtain ⟨n',rfl⟩:∃ n',n=n'+1:=⟨n-1,zO⟩
 show jW tab fd (lU tab fd m n') m (.ent f args) H=_;simp only [jW,a,he,Bk,if_pos hl];rw [g m n' zO zO];rcases hx with rfl | rfl <;> simp [c]
def AA {f:Nat} {fn:aA} {e:Ext} {args:List AV} {H:Heap} {Q:AV->Heap->Prop} {v:AV} {H':Heap} (a:tab f=some fn) (he:fn.ext=some e) (hc:e.code=false) (h:wM H e args=some (v,H')) (b:Q v H'):Ans tab (.fn f args) H Q:=by
 refine ⟨v,H',⟨1,fun m n hm hn=>?_⟩,b⟩;obtain ⟨n',rfl⟩:∃ n',n=n'+1:=⟨n-1,zO⟩
 show jW tab fd (lU tab fd m n') m (.fn f args) H=_;simp only [jW,a,he];cases e <;> first | exact h | (cases hc; done) | (exact absurd h (by unfold wM; intro h; split at h <;> first | (rename_i q _; cases q; done) | (rename_i q; cases q; done) | (cases h; done)))
end
structure Sub (H H':Heap):Prop where
 next:H.next<=H'.next
 get:∀ b e,H.get b=some e->H'.get b=some e
def Wf (H:Heap):Prop:=∀ b e,H.get b=some e->b<H.next
def Sub.refl (H:Heap):Sub H H:=⟨o0 _,fun _ _ h=>h⟩
def Sub.trans {H H' H'':Heap} (h:Sub H H') (h':Sub H' H''):Sub H H'':=⟨B5 h.next h'.next,fun b e hb=>h'.get b e (h.get b e hb)⟩
def Sub.bump (H:Heap) (k:Nat):Sub H { H with next:=H.next+k }:=⟨Ob _ _,fun _ _ h=>h⟩
def Sub.bump_r {H H':Heap} (h:Sub H H') (k:Nat):Sub H { H' with next:=H'.next+k }:=h.trans (Sub.bump H' k)
def Wf.bump {H:Heap} (h:Wf H) (k:Nat):Wf { H with next:=H.next+k }:=fun b e hb=>Eb (h b e hb) (Ob _ _)
def Wf.put {H:Heap} (h:Wf H) {b:Nat} (hb:b<H.next) (e:Ent):Wf (H.put b e):=fun c e' hc=>by
 rw [Heap.get_put] at hc;split at hc
 ·rename_i h1; subst h1; exact hb
 ·exact h c e' hc
def Wf.kill {H:Heap} (h:Wf H) (b:Nat):Wf (H.kill b):=fun c e' hc=>by
 rw [Heap.get_kill] at hc;split at hc
 ·cases hc
 ·exact h c e' hc
def Sub.put {H H':Heap} (h:Sub H H') {b:Nat} (hb:H.get b=none) (e:Ent):Sub H (H'.put b e):=⟨h.next,fun c e' hc=>by
 rw [Heap.get_put];split
 ·rename_i h1; subst h1; rw [hb] at hc; cases hc
 ·exact h.get c e' hc⟩
def Sub.kill {H H':Heap} (h:Sub H H') {b:Nat} (hb:H.get b=none):Sub H (H'.kill b):=⟨h.next,fun c e' hc=>by
 rw [Heap.get_kill];split
 ·rename_i h1; subst h1; rw [hb] at hc; cases hc
 ·exact h.get c e' hc⟩
def Wf.fresh {H:Heap} (h:Wf H) {b:Nat} (hb:H.next<=b):H.get b=none:=by
 cases hg:H.get b with
 | none=>rfl
 | some e=>have:=h b e hg; omega
def US:AV->Prop
 | .own _ _ n c _ _=>n<=c
 | _=>True
def Rd (H:Heap) (sz:Nat) (v:AV) (cells:List AV):Prop:=US v/\(∀ s,v ≠ .str s)/\∃ n,im v=some n/\aP H sz n v=some cells
def WO {H H':Heap} (h:Sub H H') {sz n:Nat} {v:AV} {cells:List AV} (a:aP H sz n v=some cells):aP H' sz n v=some cells:=by
 unfold aP at a ⊢;split at a
 ·split at a
  ·rename_i cs ty rw hb;rw [h.get _ _ hb]; exact a
  ·cases a
 ·exact a
 ·exact a
 ·exact a
 ·cases a
def Rd.mono {H H':Heap} (h:Sub H H') {sz:Nat} {v:AV} {cells:List AV} (hr:Rd H sz v cells):Rd H' sz v cells:=by
 obtain ⟨h0,h1,n,h2,h3⟩:=hr;exact ⟨h0,h1,n,h2,WO h h3⟩
def Rd.nil (H:Heap) (sz:Nat):Rd H sz .nilSl []:=⟨trivial,fun s h=>(by cases h),0,rfl,rfl⟩
def Rd.own {H:Heap} {sz b n c:Nat} {ex:Bool} {cs:List AV} {ty:Nat} {rw:Bool} (hb:H.get b=some (.cells cs ty rw)) (hn:cs.length=n*sz) (hc:n<=c):Rd H sz (.own b 0 n c sz ex) cs:=by
 refine ⟨hc,fun s h=>(by cases h),n,rfl,?_⟩;simp only [aP,hb];rw [if_pos zS];simp [<- hn]
def Rd.length {H:Heap} {sz:Nat} {v:AV} {cells:List AV} (h:Rd H sz v cells):∃ n,im v=some n/\cells.length=n*sz:=by
 obtain ⟨-,h1,n,h2,h3⟩:=h;refine ⟨n,h2,?_⟩;unfold aP at h3;split at h3
 ·split at h3
  ·split at h3
   ·rename_i hc; cases h3; simp; omega
   ·cases h3
  ·cases h3
 ·split at h3
  ·rename_i hc; cases h3; simp; omega
  ·cases h3
 ·split at h3
  ·rename_i hc; cases h3; simp [hc]
  ·cases h3
 ·exact absurd rfl (h1 _)
 ·cases h3
def aB (v:AV) (o:Nat):AV:=match v with
 | .own b off _ _ _ _=>.ptr b (off+o)
 | .sl cs _=>.dp cs o
 | _=>.undef
def Rd.index {H:Heap} {sz:Nat} {v:AV} {cells:List AV} (h:Rd H sz v cells) {ev:Src->AV} {x i:Src} {k:IntKind} {j:Nat} (hx:ev x=v) (hi:ev i=.int k (j:Int)) (hj:j*sz+sz<=cells.length) (c:0<sz):aS ev (.indexAddr sz x i)=some (aB v (j*sz)):=by
 obtain ⟨n,hn,hl⟩:=h.length;obtain ⟨-,h1,m,h2,h3⟩:=h;rw [hn] at h2; cases h2;have a:j<n:=by
  apply Nat.lt_of_not_le
  intro b
  have:=B2 sz b
  omega
 have ha:A8 (.int k (j:Int))=some j:=rfl;simp only [aS,hx,hi,ha,kS,X4];unfold aP at h3;split at h3
 ·split at h3
  ·split at h3
   ·rename_i hc;simp only [im,QW] at hn;subst hn;show (if j<_/\_=sz then some _ else none)=_;rw [if_pos ⟨a,hc.1⟩];rfl
   ·cases h3
  ·cases h3
 ·split at h3
  ·simp only [im,QW] at hn;subst hn;show (if j<_ then some _ else none)=_;rw [if_pos a];rfl
  ·cases h3
 ·simp only [im,QW] at hn;omega
 ·exact absurd rfl (h1 _)
 ·cases h3
def AX {cs:List AV} {off n o:Nat} {k:Option Nat} {w:AV} (b:off<=cs.length) (h:bf ((cs.drop off).take n) o k=some w):bf cs (off+o) k=some w:=by
 unfold bf at h ⊢;cases k with
 | none =>
  simp only at h ⊢;rw [Gy] at h;split at h
  ·rw [GQ] at h; exact h
  ·cases h
 | some m =>
  simp only at h ⊢;split at h
  ·rename_i a;cases h;simp only [L9,XX] at a;rw [if_pos zO];congr 2
   apply Yk
   intro i;simp only [Gy,GQ];split
   ·rw [if_pos zO]; congr 1; omega
   ·rfl
  ·cases h
def Rd.load {H:Heap} {sz:Nat} {v:AV} {cells:List AV} (h:Rd H sz v cells) {o:Nat} {k:Option Nat} {w:AV} (b:k≠some 0) (a:bf cells o k=some w):bk H k (aB v o)=some w:=by
 obtain ⟨-,h1,n,h2,h3⟩:=h;unfold aP at h3;split at h3
 ·split at h3
  ·rename_i hb;split at h3
   ·rename_i hc;cases h3;simp only [aB,bk,hb];exact AX zO a
   ·cases h3
  ·cases h3
 ·split at h3
  ·cases h3;simp only [aB,bk]
   have:=AX (off:=0) (xq _) (by simpa using a)
   simpa using this
  ·cases h3
 ·split at h3
  ·cases h3;unfold bf at a;cases k <;> simp at a;rename_i m;exact absurd (by rw [a.1.2]) b
  ·cases h3
 ·exact absurd rfl (h1 _)
 ·cases h3
def Rd.len {H:Heap} {sz:Nat} {v:AV} {cells:List AV} (h:Rd H sz v cells) {ev:Src->AV} {x:Src} (hx:ev x=v) {n:Nat} (hn:cells.length=n*sz) (a:0<sz):aS ev (.len x)=some (.int .i64 (n:Int)):=by
 obtain ⟨m,hm,hl⟩:=h.length
 have:m=n:=YB a zO
 subst this;obtain ⟨-,h1,-⟩:=h;simp only [aS,hx];cases v <;> simp only [im,QW] at hm <;> first | (subst hm; rfl) | (cases hm; done) | skip
 exact absurd rfl (h1 _)
def Rd.slice {H:Heap} {sz:Nat} {v:AV} {cells:List AV} (h:Rd H sz v cells) {lo hi:Nat} {L U:Option AV} (hL:(L.map A8).getD (some 0)=some lo) (d:∀ n,im v=some n->(U.map A8).getD (some n)=some hi) (k:lo<=hi) (hh:hi*sz<=cells.length) (t:0<sz) :
  ∃ o,bW sz v L U none=some o/\Rd H sz o ((cells.take (hi*sz)).drop (lo*sz)):=by
 obtain ⟨n,hn,hl⟩:=h.length;have d:=d n hn;have f:hi<=n:=Nat.le_of_mul_le_mul_right zO t;have w:lo*sz<=hi*sz:=B2 sz k;obtain ⟨h0,h1,m,h2,h3⟩:=h;rw [hn] at h2; cases h2;cases v with
 | own b off n' c a ex =>
  simp only [im,QW] at hn;subst hn;simp only [aP] at h3;split at h3
  ·rename_i cs ty rw hb;split at h3
   ·rename_i hc;obtain ⟨rfl,-,u⟩:=hc;cases h3;have x:n'<=c:=h0;have e:(hi-lo)*a=hi*a-lo*a:=Nat.sub_mul ..;have r:=B2 a f;have g:bW a (.own b off n' c a ex) L U none=(if lo<c\/lo=0 then some (.own b (off+lo*a) (hi-lo) (c-lo) a ex) else if ex=true then some (.own b off (hi-lo) (c-lo) a true) else some (.sl [] 0)):=by
     simp only [bW,d,hL,kS,X4,ne_eq,not_true_eq_false,if_false];rw [if_pos ⟨zO,k⟩]
    have key:((cs.drop off).take (n'*a)).take (hi*a)=(cs.drop off).take (hi*a):=by
     rw [YW,XO r]
    rw [key];by_cases j:lo<c\/lo=0
    ·refine ⟨_,g.trans (if_pos j),?_,fun s h=>(by cases h),hi-lo,rfl,?_⟩
     ·show hi-lo<=c-lo; omega
     ·simp only [aP,hb];rw [if_pos ⟨trivial,o0 _,zO⟩];congr 1
      apply Yk
      intro i;simp only [Gy,GQ];by_cases l:i<(hi-lo)*a
      ·rw [if_pos l,if_pos zO]; congr 1; omega
      ·rw [if_neg l,if_neg zO]
    ·have q:lo=hi:=zO;subst q;have e0:((cs.drop off).take (lo*a)).drop (lo*a)=[]:=by
      apply OK; simp
     rw [e0];cases ex with
     | true =>
      refine ⟨_,g.trans (by rw [if_neg j,if_pos rfl]),?_,fun s h=>(by cases h),lo-lo,rfl,?_⟩
      ·show lo-lo<=c-lo; omega
      ·simp only [aP,hb];rw [if_pos ⟨trivial,o0 _,by simp; omega⟩]
       simp
     | false =>
      refine ⟨.sl [] 0,g.trans (by rw [if_neg j,if_neg (by simp)]),trivial,fun s h=>(by cases h),0,rfl,?_⟩;simp [aP]
   ·cases h3
  ·cases h3
 | sl cs n' =>
  simp only [im,QW] at hn;subst hn;simp only [aP] at h3;split at h3
  ·rename_i hc;cases h3;have p:hi*sz<=cs.length:=by have:=B2 sz f; omega
   refine ⟨.sl ((cs.drop (lo*sz)).take ((hi-lo)*sz)) (hi-lo),?_,trivial,fun s h=>(by cases h),hi-lo,rfl,?_⟩
   ·simp only [bW,d,hL,kS,X4];rw [if_pos ⟨f,k,p⟩]
   ·simp only [aP];have e:(hi-lo)*sz=hi*sz-lo*sz:=Nat.sub_mul ..;rw [if_pos ⟨o0 _,by simp only [L9,XX]; omega⟩];congr 1
    apply Yk
    intro i
    have:=B2 sz f
    simp only [Gy,GQ];split
    ·rw [if_pos zO,if_pos zO]
    ·rw [if_neg zO]
  ·cases h3
 | nilSl =>
  simp only [im,QW] at hn;subst hn
  have:hi=0:=zO
  subst this
  have:lo=0:=zO
  subst this;refine ⟨.nilSl,?_,trivial,fun s h=>(by cases h),0,rfl,?_⟩
  ·simp only [bW,d,hL]; simp
  ·simp only [aP] at h3 ⊢; simp
 | str s=>exact absurd rfl (h1 s)
 | _=>simp [im] at hn
def iA {α:Type} (o:Option α) (Q:α->Prop):Prop:=match o with
 | some v=>Q v
 | none=>False
theorem Me {α:Type} (v:α) (Q:α->Prop):iA (some v) Q=Q v:=rfl
theorem BA {α β:Type} (o:Option α) (f:α->β) (Q:β->Prop):iA (o.map f) Q=iA o fun v=>Q (f v):=by cases o <;> rfl
def lenV:AV->Option AV
 | .own _ _ n _ _ _=>some (.int .i64 n)
 | .sl _ n=>some (.int .i64 n)
 | .nilSl=>some (.int .i64 0)
 | _=>none
def cS (sz:Nat) (v i:AV):Option AV:=aS (fun s=>match s with | .t 0=>v | _=>i) (.indexAddr sz (.t 0) (.t 1))
def CT (off:Nat):AV->Option AV
 | .ptr b o=>some (.ptr b (o+off))
 | .dp cs o=>some (.dp cs (o+off))
 | _=>none
def Fy (k:Option Nat) (off:Nat):AV->Option AV
 | .agg cs=>bf cs off k
 | _=>none
def Kf (c a b:AV):Option AV:=match c with
 | .bool t=>some (if t then a else b)
 | _=>none
def KY (k:IntKind):AV->Option AV
 | .int _ n=>some (.int k (k.wrap n))
 | _=>none
def G7 (i:Nat):AV->Option AV
 | .tup vs=>vs[i]?
 | _=>none
def cE (zero:List AV) (parts:List ((Nat × Nat) × AV)):Option AV:=(cB zero parts).map .agg
def BC:AV->Option AV
 | .ptr b o=>some (.ptr b o)
 | .dp cs o=>some (.dp cs o)
 | .fn (.func f) a c=>some (.fn (.func f) a c)
 | .loopv b=>some (.loopv b)
 | _=>none
def cG (sz:Nat) (v:AV) (lo hi mx:Option AV):Option AV:=match v with
 | .str _=>none
 | v=>bW sz v lo hi mx
section
variable (tab:Nat->Option aA) (ev:Src->AV) (H:Heap) (id:Nat) (Q:AV->Heap->Prop)
def Qx {o:AOp} {w:AV} (hc:∀ f args,o ≠ .call f args) (h:aS ev o=some w):iT tab ev H id o Q=Q w H:=by
 cases o
 case call f args=>exact absurd rfl (hc f args)
 all_goals
  unfold iT;simp only [h]
def ib {o:AOp} (hc:∀ f args,o ≠ .call f args) (h:aS ev o=none):iT tab ev H id o Q=iA (bi ev H id o) fun r=>Q r.1 r.2:=by
 cases hh:bi ev H id o with
 | none =>
  cases o
  case call f args=>exact absurd rfl (hc f args)
  all_goals
   unfold iT;simp only [h,hh];rfl
 | some r =>
  cases o
  case call f args=>exact absurd rfl (hc f args)
  all_goals
   unfold iT;simp only [h,hh];rfl
def eP {o:AOp} {v:Option AV} (hc:∀ f args,o ≠ .call f args) (h:aS ev o=v) (hn:bi ev H id o=none):iT tab ev H id o Q=iA v fun v=>Q v H:=by
 cases v with
 | some w=>rw [Qx tab ev H id Q hc h,Me]
 | none=>rw [ib tab ev H id Q hc h,hn]; rfl
def Qy (c a b:Src):iT tab ev H id (.pick c a b) Q=iA (Kf (ev c) (ev a) (ev b)) fun v=>Q v H :=
 eP tab ev H id Q (fun f a e=>by cases e) (by simp only [aS,Kf]; cases ev c <;> rfl) rfl
def SK (op:BinOp) (k:BK) (x y:Src):iT tab ev H id (.bin op k x y) Q=iA (bY op k (ev x) (ev y)) fun v=>Q v H :=
 eP tab ev H id Q (fun f a e=>by cases e) rfl rfl
def Ug (op:UnOp) (x:Src):iT tab ev H id (.un op x) Q=iA (SW op (ev x)) fun v=>Q v H :=
 eP tab ev H id Q (fun f a e=>by cases e) rfl rfl
def QB (k:IntKind) (x:Src):iT tab ev H id (.conv k x) Q=iA (KY k (ev x)) fun v=>Q v H :=
 eP tab ev H id Q (fun f a e=>by cases e) (by simp only [aS,KY]; cases ev x <;> rfl) rfl
def SG (x:Src):iT tab ev H id (.len x) Q=iA (lenV (ev x)) fun v=>Q v H :=
 eP tab ev H id Q (fun f a e=>by cases e) (by simp only [aS,lenV]; cases ev x <;> rfl) rfl
def SH (sz:Nat) (x i:Src):iT tab ev H id (.indexAddr sz x i) Q=iA (cS sz (ev x) (ev i)) fun v=>Q v H :=
 eP tab ev H id Q (fun f a e=>by cases e) (by simp only [aS,cS]) rfl
def Uh (off:Nat) (x:Src):iT tab ev H id (.fieldAddr off x) Q=iA (CT off (ev x)) fun v=>Q v H :=
 eP tab ev H id Q (fun f a e=>by cases e) (by simp only [aS,CT]; cases ev x <;> rfl) rfl
def NN (k:Option Nat) (off:Nat) (x:Src):iT tab ev H id (.field k off x) Q=iA (Fy k off (ev x)) fun v=>Q v H :=
 eP tab ev H id Q (fun f a e=>by cases e) (by simp only [aS,Fy]; cases ev x <;> rfl) rfl
def SI (i:Nat) (x:Src):iT tab ev H id (.extract i x) Q=iA (G7 i (ev x)) fun v=>Q v H :=
 eP tab ev H id Q (fun f a e=>by cases e) (by simp only [aS,G7]; cases ev x <;> rfl) rfl
def NO (z:List AV) (ps:List ((Nat × Nat) × Src)):iT tab ev H id (.build z ps) Q=iA (cE z (ps.map fun p=>(p.1,ev p.2))) fun v=>Q v H :=
 eP tab ev H id Q (fun f a e=>by cases e) (by simp only [aS,cE,kS]; cases cB z (ps.map fun p=>(p.1,ev p.2)) <;> rfl) rfl
def NM (x:Src):iT tab ev H id (.nilCheck x) Q=iA (BC (ev x)) fun v=>Q v H :=
 eP tab ev H id Q (fun f a e=>by cases e) (by simp only [aS,BC]; cases ev x <;> rfl) rfl
def NL (sz:Nat) (x:Src) (lo hi mx:Option Src):iT tab ev H id (.slice sz x lo hi mx) Q=iA (cG sz (ev x) (lo.map ev) (hi.map ev) (mx.map ev)) fun v=>Q v H :=
 eP tab ev H id Q (fun f a e=>by cases e) (by simp only [aS,cG]; cases ev x <;> rfl) rfl
def QA (k:Option Nat) (x:Src):iT tab ev H id (.load k x) Q=iA (bk H k (ev x)) fun v=>Q v H:=by
 rw [ib tab ev H id Q (fun f a e=>by cases e) rfl];show iA ((bk H k (ev x)).map fun v=>(v,H)) _=_;rw [BA]
def NK (n:Nat) (x v:Src):iT tab ev H id (.store n x v) Q=iA (rf H n (ev x) (ev v)) fun H'=>Q .undef H':=by
 rw [ib tab ev H id Q (fun f a e=>by cases e) rfl];show iA ((rf H n (ev x) (ev v)).map fun H'=>(AV.undef,H')) _=_;rw [BA]
def NP (ty:Nat) (z:List AV):iT tab ev H id (.alloc ty z) Q=Q (.ptr id 0) (H.put id (.cells z ty true)):=by
 rw [ib tab ev H id Q (fun f a e=>by cases e) rfl]; rfl
def QR (f:Nat) (a b args:List AV) (R:Task->Prop):(∃ t,iU (.fn (.func f) a b) args=some t/\R t)=R (.fn f (a++args++b)):=by simp [iU]
def LG (b:Nat) (args:List AV) (R:Task->Prop):(∃ t,iU (.loopv b) args=some t/\R t)=R (.round b args):=by simp [iU]
def Lu (size bytes ty:Nat) (z:List AV) (x y:Src):iT tab ev H id (.append size bytes ty z x y) Q=iA (bi ev H id (.append size bytes ty z x y)) fun r=>Q r.1 r.2 :=
 ib tab ev H id Q (fun f a e=>by cases e) rfl
def Qz (ty size bytes:Nat) (z:List AV) (l c:Src):iT tab ev H id (.mksl ty size bytes z l c) Q=iA (bi ev H id (.mksl ty size bytes z l c)) fun r=>Q r.1 r.2 :=
 ib tab ev H id Q (fun f a e=>by cases e) rfl
def CW (ty size:Nat) (z:List AV) (n:Nat) (ps:List ((Nat × Nat) × Src)):iT tab ev H id (.buildSlice ty size z n ps) Q=iA (cB z (ps.map fun p=>(p.1,ev p.2))) fun cs=>Q (.own id 0 n n size true) (H.put id (.cells cs ty true)):=by
 rw [ib tab ev H id Q (fun f a e=>by cases e) rfl];have e:bi ev H id (.buildSlice ty size z n ps)=(cB z (ps.map fun p=>(p.1,ev p.2))).map fun cs=>(.own id 0 n n size true,H.put id (.cells cs ty true)):=by
  simp only [bi];cases cB z (ps.map fun p=>(p.1,ev p.2)) <;> rfl
 rw [e,BA]
end
section
variable {tab:Nat->Option aA} {T:Tm} {H:Heap} {Q:Tm->Heap->Prop} {id:Nat}
def wJ (T:Tm) (i j:Nat) (v:AV) (h:i<T.length):ad (T.set i v) j=if i=j then v else ad T j:=by
 unfold ad;rw [iF,iF,YX];by_cases a:i=j
 ·subst a; simp [h]
 ·simp [a]
theorem TH (n:Nat):Src.ev T (.t n)=ad T n:=rfl
theorem UP (v:AV):Src.ev T (.c v)=v:=rfl
theorem jd (d:Nat) (v:AV):putT T (some d) v=T.set d v:=rfl
theorem mo (v:AV):putT T none v=T:=rfl
end
def RA {H:Heap} {sz:Nat} {v:AV} {cells:List AV} (h:Rd H sz v cells) {k:IntKind} {j:Nat} (hj:j*sz+sz<=cells.length) (a:0<sz):cS sz v (.int k (j:Int))=some (aB v (j*sz)) :=
 h.index (ev:=fun s=>match s with | .t 0=>v | _=>.int k (j:Int)) (x:=.t 0) (i:=.t 1) rfl rfl hj a
def KC {H:Heap} {sz:Nat} {v:AV} {cells:List AV} (h:Rd H sz v cells) {n:Nat} (hn:cells.length=n*sz) (a:0<sz):lenV v=some (.int .i64 (n:Int)):=by
 have:=h.len (ev:=fun _=>v) (x:=.t 0) rfl hn a
 refine Eq.trans ?_ this;simp only [aS,lenV];cases v <;> rfl
section
variable {tab:Nat->Option aA} {T:Tm} {H:Heap} {Q:Tm->Heap->Prop} {id:Nat}
end
def RY {tab:Nat->Option aA} {f:Nat} {fn:aA} {args:List AV} {H:Heap} {Q:AV->Heap->Prop} (a:tab f=some fn) (he:fn.ext=none) (hl:args.length=fn.nparams) (hn:fn.nparams<=fn.ntmps)
  (h:∀ T0:Tm,T0.length=fn.ntmps->(∀ i,i<args.length->ad T0 i=args.getD i .undef)->uF tab false fn.body T0 H fun x T' H'=>(x=.nrm\/x=.ret)/\∃ v,cq T' H' fn.results=some v/\Q v H'):Ans tab (.fn f args) H Q:=by
 refine TU a he hl (h _ zS fun i hi=>?_);unfold ad;rw [iF,iF,Ni hi]
structure Sw (H H':Heap):Prop where
 sub:Sub H H'
 wf:Wf H'
def Sw.refl {H:Heap} (h:Wf H):Sw H H:=⟨Sub.refl H,h⟩
def Sw.bump {H H':Heap} (h:Sw H H') (k:Nat):Sw H { H' with next:=H'.next+k }:=⟨h.sub.bump_r k,h.wf.bump k⟩
def Sw.trans {H H' H'':Heap} (h:Sw H H') (h':Sw H' H''):Sw H H'':=⟨h.sub.trans h'.sub,h'.wf⟩
def Hu (v:AV) (P Q:Prop):Prop:=match v with
 | .bool true=>P
 | .bool false=>Q
 | _=>False
def JI (b:Bool) (P Q:Prop):Hu (.bool b) P Q=if b=true then P else Q:=by cases b <;> simp [Hu]
section
variable {tab:Nat->Option aA} {rd:Bool} {T:Tm} {H:Heap} {Q:Ex->Tm->Heap->Prop}
theorem QC (a b:ACode):uF tab rd (.seq a b) T H Q=uF tab rd a T H fun x T' H'=>match x with | .nrm=>uF tab rd b T' H' Q | x=>Q x T' H':=rfl
def NQ (c:Src) (a b:ACode):uF tab rd (.cond c a b) T H Q=Hu (c.ev T) (uF tab rd a T H Q) (uF tab rd b T H Q):=by
 show (match c.ev T with | .bool true=>uF tab rd a T H Q | .bool false=>uF tab rd b T H Q | _=>False)=_;unfold Hu;split <;> rfl
theorem Lw (id:Nat) (a:ACode):uF tab rd (.block id a) T H Q=uF tab rd a T H fun x T' H'=>match x with | .exit b=>if b=id then Q .nrm T' H' else Q (.exit b) T' H' | x=>Q x T' H':=rfl
theorem Lv (a:ACode):uF tab rd (.scope a) T H Q=uF tab rd a T H fun x T' H'=>match x with | .goto _=>False | x=>Q x T' H':=rfl
end
section
variable (k:IntKind) (a b:Int)
def RT:bY .eql .int (.int k a) (.int k b)=some (.bool (decide (a=b))):=by
 simp only [bY,lD,if_true]; congr 2
def RP:bY .neq .int (.int k a) (.int k b)=some (.bool (!decide (a=b))):=by
 simp only [bY,lD,if_true]; congr 2
def K8:bY .lss .int (.int k a) (.int k b)=some (.bool (decide (a<b))):=by simp only [bY,lD,if_true]
def RQ:bY .leq .int (.int k a) (.int k b)=some (.bool (decide (a<=b))):=by simp only [bY,lD,if_true]
def RR:bY .gtr .int (.int k a) (.int k b)=some (.bool (decide (b<a))):=by simp only [bY,lD,if_true,gt_iff_lt,ge_iff_le]
def RS:bY .geq .int (.int k a) (.int k b)=some (.bool (decide (b<=a))):=by simp only [bY,lD,if_true,gt_iff_lt,ge_iff_le]
def FK:bY .add .int (.int k a) (.int k b)=some (.int k (k.wrap (a+b))):=by simp only [bY,lD,if_true]
def WU:bY .sub .int (.int k a) (.int k b)=some (.int k (k.wrap (a-b))):=by simp only [bY,lD,if_true]
def K7:bY .mul .int (.int k a) (.int k b)=some (.int k (k.wrap (a*b))):=by simp only [bY,lD,if_true]
theorem PF (j:IntKind):KY k (.int j a)=some (.int k (k.wrap a)):=rfl
theorem Mb (c:Bool) (x y:AV):Kf (.bool c) x y=some (if c=true then x else y):=rfl
theorem SU (c:Bool):SW .not (.bool c)=some (.bool !c):=rfl
theorem RV (c e:Bool):bY .eql .bool (.bool c) (.bool e)=some (.bool (c == e)):=rfl
theorem RU (c e:Bool):bY .neq .bool (.bool c) (.bool e)=some (.bool (!(c == e))):=rfl
end
def wrap_i64 {x:Int} (h1 : -9223372036854775808<=x) (h2:x<9223372036854775808):IntKind.i64.wrap x=x:=by
 have e:IntKind.i64.wrap x=if x % 18446744073709551616 ≥ 9223372036854775808 then x % 18446744073709551616-18446744073709551616 else x % 18446744073709551616:=by
  simp [IntKind.wrap,IntKind.signed,IntKind.bits]
 rw [e];split <;> omega
def kO {x:Int}:IntKind.u64.wrap x=x % 18446744073709551616:=by
 simp [IntKind.wrap,IntKind.signed,IntKind.bits]
def gH {x:Int} (h1:0<=x) (h2:x<18446744073709551616):IntKind.u64.wrap x=x:=by rw [kO]; omega
def Rd.notStr {H:Heap} {sz:Nat} {v:AV} {cells:List AV} (h:Rd H sz v cells) (lo hi mx:Option AV):cG sz v lo hi mx=bW sz v lo hi mx:=by
 cases v <;> first | rfl | exact absurd rfl (h.2.1 _)
theorem gE (k:IntKind) (n:Nat):A8 (.int k (n:Int))=some n:=rfl
def Rd.hi {H:Heap} {sz:Nat} {v:AV} {cells:List AV} (h:Rd H sz v cells) {k:IntKind} {hi:Nat} (hh:hi*sz<=cells.length) (b:0<sz):∃ a,cG sz v none (some (.int k (hi:Int))) none=some a/\Rd H sz a (cells.take (hi*sz)):=by
 rw [h.notStr];obtain ⟨a,h1,h2⟩:=h.slice (lo:=0) (hi:=hi) (L:=none) (U:=some (.int k (hi:Int))) rfl (fun n _=>rfl) (xq _) hh b;exact ⟨a,h1,by simpa using h2⟩
def Rd.lo {H:Heap} {sz:Nat} {v:AV} {cells:List AV} (h:Rd H sz v cells) {k:IntKind} {lo:Nat} (hh:lo*sz<=cells.length) (b:0<sz):∃ a,cG sz v (some (.int k (lo:Int))) none none=some a/\Rd H sz a (cells.drop (lo*sz)):=by
 rw [h.notStr];obtain ⟨n,hn,hl⟩:=h.length;obtain ⟨a,h1,h2⟩:=h.slice (lo:=lo) (hi:=n) (L:=some (.int k (lo:Int))) (U:=none) rfl (fun m hm=>by rw [hn] at hm; cases hm; rfl) (Nat.le_of_mul_le_mul_right zO b) zO b;refine ⟨a,h1,?_⟩;rw [<- hl,KO] at h2; exact h2
def Rd.clip {H:Heap} {sz:Nat} {v:AV} {cells:List AV} (h:Rd H sz v cells) {k j:IntKind} {n:Nat} (hn:cells.length=n*sz) (l:0<sz):∃ g,cG sz v none (some (.int k (n:Int))) (some (.int j (n:Int)))=some g/\Rd H sz g cells:=by
 rw [h.notStr];obtain ⟨m,hm,hl⟩:=h.length
 have:m=n:=YB l zO
 subst this;obtain ⟨h0,h1,m',h2,h3⟩:=h;rw [hm] at h2; cases h2;cases v with
 | own b off n' c a ex =>
  simp only [im,QW] at hm;subst hm;simp only [aP] at h3;split at h3
  ·rename_i cs ty rw hb;split at h3
   ·rename_i hc;obtain ⟨rfl,-,i⟩:=hc;have f:n'<=c:=h0;have e:bW a (.own b off n' c a ex) none (some (.int k (n':Int))) (some (.int j (n':Int)))=some (.own b off n' 0 a true)\/bW a (.own b off n' c a ex) none (some (.int k (n':Int))) (some (.int j (n':Int)))=some (.own b off n' n' a true):=by
     simp only [bW,gE,ne_eq,not_true_eq_false,if_false,kS,X4,YD,Yv];rw [if_pos ⟨f,o0 _,xq _⟩];by_cases d:n'=0
     ·left; rw [if_pos d]; simp
     ·right; rw [if_neg d]; simp
    by_cases d:n'=0
    ·subst d;refine ⟨.own b off 0 0 a true,?_,o0 _,fun s h=>(by cases h),0,rfl,?_⟩
     ·rcases e with e | e <;> exact e
     ·simp only [aP,hb];rw [if_pos ⟨trivial,o0 _,zO⟩];exact h3
    ·refine ⟨.own b off n' n' a true,?_,o0 _,fun s h=>(by cases h),n',rfl,?_⟩
     ·simp only [bW,gE,ne_eq,not_true_eq_false,if_false,kS,X4,YD,Yv];rw [if_pos ⟨f,o0 _,xq _⟩,if_neg d]
      simp
     ·simp only [aP,hb];rw [if_pos ⟨trivial,o0 _,i⟩];exact h3
   ·cases h3
  ·cases h3
 | sl cs n' =>
  simp only [im,QW] at hm;subst hm;simp only [aP] at h3;split at h3
  ·rename_i hc;refine ⟨.sl (cs.take (n'*sz)) n',?_,trivial,fun s h=>(by cases h),n',rfl,?_⟩
   ·simp only [bW,gE,kS,X4,YD,Yv];rw [if_pos ⟨o0 _,o0 _,xq _,hc.2⟩]
    simp
   ·simp only [aP];rw [if_pos ⟨o0 _,by simp only [L9]; omega⟩];rw [YW,Nat.min_self]; exact h3
  ·cases h3
 | nilSl =>
  simp only [im,QW] at hm;subst hm;exact ⟨.nilSl,rfl,trivial,fun s h=>(by cases h),0,rfl,h3⟩
 | str s=>exact absurd rfl (h1 s)
 | _=>simp [im] at hm
def UE {H:Heap} {s:AV} {cells:List AV} (hs:Rd H 1 s cells):lenV s=some (.int .i64 (cells.length:Int)):=KC hs zO zO
def Bld (H0 H:Heap) (sz ty:Nat) (v:AV) (cells:List AV):Prop :=
 (v=.nilSl/\cells=[])\/∃ b n,v=.own b 0 n n sz false/\H.get b=some (.cells cells ty true)/\cells.length=n*sz/\H0.get b=none
def Bld.nil {H0 H:Heap} {sz ty:Nat}:Bld H0 H sz ty .nilSl []:=.inl ⟨rfl,rfl⟩
def Bld.keep {H0 H H':Heap} {sz ty:Nat} {v:AV} {cells:List AV} (h:Bld H0 H sz ty v cells) (a:∀ b e,H.get b=some e->H'.get b=some e):Bld H0 H' sz ty v cells:=by
 rcases h with h | ⟨b,n,h1,hb,h2⟩
 ·exact .inl h
 ·exact .inr ⟨b,n,h1,a _ _ hb,h2⟩
def GW (H:Heap) (b c:Nat) (e:Ent):(H.put b e).get c=if c=b then some e else H.get c:=by rw [Heap.get_put]
def Mx (H:Heap) (b c:Nat):(H.kill b).get c=if c=b then none else H.get c:=by rw [Heap.get_kill]
def fW (v:AV):Option (List AV):=if v.cells.all AV.one=true then some v.cells else none
def Mi (x y:AV):Option AV:=match x with
 | .int k a=>Ku (.int k a) y
 | _=>none
def Jc (x y:AV):Option AV:=match x with
 | .int k a=>Kt (.int k a) y
 | _=>none
theorem Fa (k j:IntKind) (a b:Int):Mi (.int k a) (.int j b)=some (.int k (if b > a then b else a)):=rfl
theorem Av (k j:IntKind) (a b:Int):Jc (.int k a) (.int j b)=some (.int k (if b<a then b else a)):=rfl
theorem TR (f:Fn) (a b:List AV):fW (.fn f a b)=some [.fn f a b]:=rfl
theorem RN (k:IntKind) (a:Int):fW (.int k a)=some [.int k a]:=rfl
section
variable {tab:Nat->Option aA}
def Nc {b:Nat} {args:List AV} {T:Tm} {ps:List Nat} {a body:ACode} {H:Heap} {Q:AV->Heap->Prop} (hb:H.get b=some (.loop T ps a body .ready none)) (hl:args.length=ps.length)
  (h:uF tab true a (oU T (ps.zip args)) H fun x T1 e=>x=.nrm/\e.get b=some (.loop T ps a body .ready none) /\
   uF tab true body T1 (e.put b (.loop T ps a body .busy none)) fun x _ H2=>H2.get b=some (.loop T ps a body .busy none)/\match x with
    | .nrm=>Q (.bool true) (H2.put b (.loop T ps a body .ready none))
    | .ret=>Q (.bool false) (H2.put b (.loop T ps a body .done (some .ret)))
    | .exit id=>Q (.bool false) (H2.put b (.loop T ps a body .done (some (.exit id))))
    | .goto g=>Q (.bool false) (H2.put b (.loop T ps a body .done (some (.goto g))))):Ans tab (.round b args) H Q:=by
 obtain ⟨x,T1,e,⟨c,f⟩,rfl,j,h2⟩:=eN _ _ _ _ h;obtain ⟨y,T2,H2,⟨d,i⟩,k,h3⟩:=eN _ _ _ _ h2;have key:∀ (v:AV) (H':Heap),Q v H'->(∀ m n,c+d+1<=m->c+d+1<=n->lU tab fd m n (.round b args) H=some (v,H'))->Ans tab (.round b args) H Q:=fun v H' l hr=>⟨v,H',⟨_,hr⟩,l⟩
 have run:∀ m n,c+d+1<=m->c+d+1<=n->lU tab fd m n (.round b args) H=match y with
   | .nrm=>some (.bool true,H2.put b (.loop T ps a body .ready none))
   | .ret=>some (.bool false,H2.put b (.loop T ps a body .done (some .ret)))
   | .exit id=>some (.bool false,H2.put b (.loop T ps a body .done (some (.exit id))))
   | .goto g=>some (.bool false,H2.put b (.loop T ps a body .done (some (.goto g)))):=by
  intro m n hm hn;obtain ⟨n',rfl⟩:∃ n',n=n'+1:=⟨n-1,zO⟩
  show jW tab fd (lU tab fd m n') m (.round b args) H=_;simp only [jW,hb,if_pos hl,f m n' zO zO,j,i m n' zO zO,k];cases y <;> rfl
 cases y with
 | nrm=>exact key _ _ h3 run
 | ret=>exact key _ _ h3 run
 | exit id=>exact key _ _ h3 run
 | goto g=>exact key _ _ h3 run
def Em {f:Src} {ps:List Nat} {a body:ACode} {T:Tm} {H:Heap} {Q:Ex->Tm->Heap->Prop} {fi:Nat} {args:List AV} (b:iU (f.ev T) [.loopv H.next]=some (.fn fi args))
  (h:Ans tab (.ent fi args) (({ H with next:=H.next+1 }:Heap).put H.next (.loop T ps a body .ready none)) fun _ H2 =>
   (H2.get H.next=some (.loop T ps a body .ready none)/\Q .nrm T (H2.kill H.next))\/(H2.get H.next=some (.loop T ps a body .done (some .ret))/\Q .ret T (H2.kill H.next)) \/
   (∃ id,H2.get H.next=some (.loop T ps a body .done (some (.exit id)))/\Q (.exit id) T (H2.kill H.next))):uF tab false (.rangeFunc f ps a body) T H Q:=by
 obtain ⟨v,H2,⟨N,g⟩,h⟩:=h;have run:∀ (x:Ex) (r:Option (Ex × Tm × Heap)),(∀ m n,N<=m->N<=n->aL (lU tab fd m n) m false (.rangeFunc f ps a body) T H=r)->∀ T' H',r=some (x,T',H')->Qa tab false (.rangeFunc f ps a body) T H x T' H':=fun x r h T' H' e=>⟨N,fun m n hm hn=>(h m n hm hn).trans e⟩
 rcases h with ⟨h1,h2⟩ | ⟨h1,h2⟩ | ⟨id,h1,h2⟩
 ·refine ⟨_,_,_,run _ _ (fun m n hm hn=>?_) _ _ rfl,h2⟩;simp only [aL,XC,if_false,b];rw [g m n hm hn];simp only [h1]
 ·refine ⟨_,_,_,run _ _ (fun m n hm hn=>?_) _ _ rfl,h2⟩;simp only [aL,XC,if_false,b];rw [g m n hm hn];simp only [h1]
 ·refine ⟨_,_,_,run _ _ (fun m n hm hn=>?_) _ _ rfl,h2⟩;simp only [aL,XC,if_false,b];rw [g m n hm hn];simp only [h1]
def Nd {f:Nat} {fn:aA} {args:List AV} {H:Heap} {Q:AV->Heap->Prop} (a:tab f=some fn) (he:fn.ext=none) (hl:args.length=fn.nparams) (hn:fn.nparams<=fn.ntmps)
  (h:∀ T0:Tm,T0.length=fn.ntmps->(∀ i,i<args.length->ad T0 i=args.getD i .undef)->uF tab false fn.body T0 H fun x T' H'=>(x=.nrm\/x=.ret)/\∃ v,cq T' H' fn.results=some v/\Q v H'):Ans tab (.ent f args) H Q:=by
 refine RZ a he hl (h _ zS fun i hi=>?_);unfold ad;rw [iF,iF,Ni hi]
variable (ev:Src->AV) (H:Heap) (id:Nat) (Q:AV->Heap->Prop)
def SJ (ty:Nat) (x:Src):iT tab ev H id (.box ty x) Q=iA (fW (ev x)) fun cs=>Q (.ptr id 0) (H.put id (.cells cs ty true)):=by
 rw [ib tab ev H id Q (fun f a e=>by cases e) rfl];simp only [bi,fW];by_cases h:(ev x).cells.all AV.one=true
 ·rw [if_pos h,if_pos h]; rfl
 ·rw [if_neg h,if_neg h]; rfl
def SF (a b:Src):iT tab ev H id (.max [a,b]) Q=iA (Mi (ev a) (ev b)) fun v=>Q v H:=by
 refine eP tab ev H id Q (fun f a e=>by cases e) ?_ rfl;simp only [aS,Mi,uz,B3];cases ev a <;> simp <;> rfl
def SE (a b:Src):iT tab ev H id (.min [a,b]) Q=iA (Jc (ev a) (ev b)) fun v=>Q v H:=by
 refine eP tab ev H id Q (fun f a e=>by cases e) ?_ rfl;simp only [aS,Jc,uz,B3];cases ev a <;> simp <;> rfl
end
structure WC (tab:Nat->Option aA) (rd:Bool) (c:ACode) (T:Tm) (H:Heap) (Q:Ex->Tm->Heap->Prop):Prop where
 run:uF tab rd c T H Q
structure FP (tab:Nat->Option aA) (id:Nat) (os:List FR) (T:Tm) (H:Heap) (Q:Tm->Heap->Prop):Prop where
 run:yN tab id os T H Q
structure nj (tab:Nat->Option aA) (ev:Src->AV) (H:Heap) (id:Nat) (o:AOp) (Q:AV->Heap->Prop):Prop where
 run:iT tab ev H id o Q
def sF:WC=uF:=by funext tab rd c T H Q; exact propext ⟨fun h=>h.run,fun h=>⟨h⟩⟩
def AC:FP=yN:=by funext tab rd c T H Q; exact propext ⟨fun h=>h.run,fun h=>⟨h⟩⟩
def co:nj=iT:=by funext tab rd c T H Q; exact propext ⟨fun h=>h.run,fun h=>⟨h⟩⟩
abbrev If {α:Sort _} (_:α):Type:=Unit
def ii {α:Type} (o:Option α) (Q:α->Prop) (_:If Q):Prop:=iA o Q
def KZ (v:AV) (P Q:Prop) (_:If P) (_:If Q):Prop:=Hu v P Q
def Te (id:Nat) (H:Heap) (F:Nat->Heap->Prop) (_:If F):Prop:=F id H
def SQ (v:AV) (F:AV->Prop) (_:If F):Prop:=F v
def LQ (tab:Nat->Option aA) (rd:Bool) (b:ACode) (Q:Ex->Tm->Heap->Prop) (x:Ex) (T:Tm) (H:Heap):Prop:=match x with
 | .nrm=>WC tab rd b T H Q
 | x=>Q x T H
def vC (id:Nat) (Q:Ex->Tm->Heap->Prop) (x:Ex) (T:Tm) (H:Heap):Prop:=match x with
 | .exit a=>if a=id then Q .nrm T H else Q (.exit a) T H
 | x=>Q x T H
def Or (Q:Ex->Tm->Heap->Prop) (x:Ex) (T:Tm) (H:Heap):Prop:=match x with
 | .goto _=>False
 | x=>Q x T H
def Jf (Inv:Nat->Tm->Heap->Prop) (k:Nat) (Q:Ex->Tm->Heap->Prop) (x:Ex) (T:Tm) (H:Heap):Prop:=match x with
 | .nrm=>∃ a,a<k/\Inv a T H
 | x=>Q x T H
def PN (v:AV) (args:List AV) (R:Task->Prop) (_:If R):Prop:=∃ t,iU v args=some t/\R t
def AnsH (tab:Nat->Option aA) (t:Task) (H:Heap) (Q:AV->Heap->Prop) (_:If Q):Prop:=Ans tab t H Q
def iteH (c:Prop) [Decidable c] (P Q:Prop) (_:If P) (_:If Q):Prop:=if c then P else Q
def UA (tab:Nat->Option aA) (rd:Bool) (body:ACode) (_:If body) (T:Tm) (H:Heap) (Q:Ex->Tm->Heap->Prop) (_:If Q):Prop:=WC tab rd (.loop body) T H Q
def rangeH (tab:Nat->Option aA) (f:Src) (ps:List Nat) (a body:ACode) (_:If body) (_:If a) (T:Tm) (H:Heap) (Q:Ex->Tm->Heap->Prop) (_:If Q):Prop:=WC tab false (.rangeFunc f ps a body) T H Q
section
variable {tab:Nat->Option aA} {rd:Bool} {T:Tm} {H:Heap}
theorem xS {α:Type} (v:α) (Q:α->Prop):ii (some v) Q ()=Q v:=rfl
theorem EP (id:Nat) (H:Heap) (F:Nat->Heap->Prop):Te id H F ()=F id H:=rfl
theorem J4 (v:AV) (F:AV->Prop):SQ v F ()=F v:=rfl
def JK (b:Bool) (P Q:Prop):KZ (.bool b) P Q () ()=iteH (b=true) P Q () ():=JI b P Q
def DE (P Q:Prop):iteH True P Q () ()=P:=if_pos trivial
def BZ (P Q:Prop):iteH False P Q () ()=Q:=if_neg (fun h=>h)
def HD (f:Nat) (a b args:List AV) (R:Task->Prop):PN (.fn (.func f) a b) args R ()=R (.fn f (a++args++b)):=QR f a b args R
def Cp (b:Nat) (args:List AV) (R:Task->Prop):PN (.loopv b) args R ()=R (.round b args):=LG b args R
def AnsH.use {t:Task} {H:Heap} {P Q:AV->Heap->Prop} (h:Ans tab t H P) (a:∀ v H',P v H'->Q v H'):AnsH tab t H Q ():=h.mono a
def AnsH.eq {t:Task} {H:Heap} {w:AV} {P:Heap->Prop} {Q:AV->Heap->Prop} (h:Ans tab t H fun v H'=>v=w/\P H') (a:∀ H',P H'->Q w H'):AnsH tab t H Q ():=h.mono fun _ H' ⟨e,h1⟩=>e ▸ a H' h1
def iteH.split {c:Prop} [Decidable c] {P Q:Prop} (h1:c->P) (h2:¬ c->Q):iteH c P Q () ():=by
 unfold iteH;split
 ·exact h1 ‹_›
 ·exact h2 ‹_›
end
section
variable {tab:Nat->Option aA} (ev:Src->AV) (H:Heap) (id:Nat) (Q:AV->Heap->Prop)
theorem R6 (x:Src):nj tab ev H id (.mv x) Q=SQ (ev x) (fun v=>Q v H) ():=by rw [co]; rfl
theorem Qo (f:Fn) (a b:List Src):nj tab ev H id (.mkfn f a b) Q=SQ (.fn f (a.map ev) (b.map ev)) (fun v=>Q v H) ():=by rw [co]; rfl
def NJ (ty:Nat) (z:List AV):nj tab ev H id (.alloc ty z) Q=Q (.ptr id 0) (H.put id (.cells z ty true)):=by rw [co]; exact NP tab ev H id Q ty z
theorem Ql (c a b:Src):nj tab ev H id (.pick c a b) Q=ii (Kf (ev c) (ev a) (ev b)) (fun v=>Q v H) ():=by rw [co,Qy]; rfl
theorem Ij (op:BinOp) (k:BK) (x y:Src):nj tab ev H id (.bin op k x y) Q=ii (bY op k (ev x) (ev y)) (fun v=>Q v H) ():=by rw [co,SK]; rfl
theorem Ud (op:UnOp) (x:Src):nj tab ev H id (.un op x) Q=ii (SW op (ev x)) (fun v=>Q v H) ():=by rw [co,Ug]; rfl
theorem Qt (k:IntKind) (x:Src):nj tab ev H id (.conv k x) Q=ii (KY k (ev x)) (fun v=>Q v H) ():=by rw [co,QB]; rfl
theorem Sz (x:Src):nj tab ev H id (.len x) Q=ii (lenV (ev x)) (fun v=>Q v H) ():=by rw [co,SG]; rfl
theorem SA (sz:Nat) (x i:Src):nj tab ev H id (.indexAddr sz x i) Q=ii (cS sz (ev x) (ev i)) (fun v=>Q v H) ():=by rw [co,SH]; rfl
theorem Uf (off:Nat) (x:Src):nj tab ev H id (.fieldAddr off x) Q=ii (CT off (ev x)) (fun v=>Q v H) ():=by rw [co,Uh]; rfl
theorem NF (k:Option Nat) (off:Nat) (x:Src):nj tab ev H id (.field k off x) Q=ii (Fy k off (ev x)) (fun v=>Q v H) ():=by rw [co,NN]; rfl
theorem SB (i:Nat) (x:Src):nj tab ev H id (.extract i x) Q=ii (G7 i (ev x)) (fun v=>Q v H) ():=by rw [co,SI]; rfl
theorem NI (z:List AV) (ps:List ((Nat × Nat) × Src)):nj tab ev H id (.build z ps) Q=ii (cE z (ps.map fun p=>(p.1,ev p.2))) (fun v=>Q v H) ():=by rw [co,NO]; rfl
theorem ND (x:Src):nj tab ev H id (.nilCheck x) Q=ii (BC (ev x)) (fun v=>Q v H) ():=by rw [co,NM]; rfl
theorem NA (sz:Nat) (x:Src) (lo hi mx:Option Src):nj tab ev H id (.slice sz x lo hi mx) Q=ii (cG sz (ev x) (lo.map ev) (hi.map ev) (mx.map ev)) (fun v=>Q v H) ():=by rw [co,NL]; rfl
theorem Qq (k:Option Nat) (x:Src):nj tab ev H id (.load k x) Q=ii (bk H k (ev x)) (fun v=>Q v H) ():=by rw [co,QA]; rfl
theorem Lt (size bytes ty:Nat) (z:List AV) (x y:Src):nj tab ev H id (.append size bytes ty z x y) Q=ii (bi ev H id (.append size bytes ty z x y)) (fun r=>Q r.1 r.2) ():=by rw [co,Lu]; rfl
theorem Qm (ty size bytes:Nat) (z:List AV) (l c:Src):nj tab ev H id (.mksl ty size bytes z l c) Q=ii (bi ev H id (.mksl ty size bytes z l c)) (fun r=>Q r.1 r.2) ():=by rw [co,Qz]; rfl
theorem CV (ty size:Nat) (z:List AV) (n:Nat) (ps:List ((Nat × Nat) × Src)):nj tab ev H id (.buildSlice ty size z n ps) Q=ii (cB z (ps.map fun p=>(p.1,ev p.2))) (fun cs=>Q (.own id 0 n n size true) (H.put id (.cells cs ty true))) ():=by rw [co,CW]; rfl
theorem SC (ty:Nat) (x:Src):nj tab ev H id (.box ty x) Q=ii (fW (ev x)) (fun cs=>Q (.ptr id 0) (H.put id (.cells cs ty true))) ():=by rw [co,SJ]; rfl
theorem Sy (a b:Src):nj tab ev H id (.max [a,b]) Q=ii (Mi (ev a) (ev b)) (fun v=>Q v H) ():=by rw [co,SF]; rfl
theorem Sx (a b:Src):nj tab ev H id (.min [a,b]) Q=ii (Jc (ev a) (ev b)) (fun v=>Q v H) ():=by rw [co,SE]; rfl
theorem Nz (n:Nat) (x v:Src):nj tab ev H id (.store n x v) Q=ii (rf H n (ev x) (ev v)) (fun a=>Q .undef a) ():=by rw [co,NK]; rfl
theorem Qv (f:Src) (args:List Src):nj tab ev H id (.call f args) Q=PN (ev f) (args.map ev) (fun t=>AnsH tab t H Q ()) ():=by rw [co]; rfl
end
section
variable {tab:Nat->Option aA} {rd:Bool} {T:Tm} {H:Heap} {Q:Ex->Tm->Heap->Prop}
def Qu (c:Src) (a b:ACode):WC tab rd (.cond c a b) T H Q=KZ (c.ev T) (WC tab rd a T H Q) (WC tab rd b T H Q) () ():=by rw [sF]; exact NQ c a b
theorem Lq (ops:List FR):WC tab rd (.region ops) T H Q=Te H.next { H with next:=H.next+ops.length } (fun id H'=>FP tab id ops T H' (Q .nrm)) ():=by rw [sF,AC]; rfl
def Su (a b:ACode):WC tab rd (.seq a b) T H Q=WC tab rd a T H (LQ tab rd b Q):=by
 rw [sF,QC];congr 1
 funext x T H
 cases x <;> simp [LQ,sF]
def FT (id:Nat) (a:ACode):WC tab rd (.block id a) T H Q=WC tab rd a T H (vC id Q):=by rw [sF]; exact Lw id a
def NB (a:ACode):WC tab rd (.scope a) T H Q=WC tab rd a T H (Or Q):=by rw [sF]; exact Lv a
theorem Qk:WC tab rd .skip T H Q=Q .nrm T H:=by rw [sF]; rfl
theorem Qs (id:Nat):WC tab rd (.exit id) T H Q=Q (.exit id) T H:=by rw [sF]; rfl
theorem Qr (id:Nat):WC tab rd (.goto id) T H Q=Q (.goto id) T H:=by rw [sF]; rfl
theorem Sv:WC tab rd .ret T H Q=Q .ret T H:=by rw [sF]; rfl
theorem On (b:ACode):LQ tab rd b Q .nrm T H=WC tab rd b T H Q:=rfl
theorem Om (b:ACode):LQ tab rd b Q .ret T H=Q .ret T H:=rfl
theorem LP (b:ACode) (i:Nat):LQ tab rd b Q (.exit i) T H=Q (.exit i) T H:=rfl
theorem LO (b:ACode) (i:Nat):LQ tab rd b Q (.goto i) T H=Q (.goto i) T H:=rfl
theorem PS (i:Nat):vC i Q .nrm T H=Q .nrm T H:=rfl
theorem PR (i:Nat):vC i Q .ret T H=Q .ret T H:=rfl
theorem M2 (i j:Nat):vC i Q (.goto j) T H=Q (.goto j) T H:=rfl
theorem M3 (i j:Nat):vC i Q (.exit j) T H=iteH (j=i) (Q .nrm T H) (Q (.exit j) T H) () ():=rfl
theorem Oq:Or Q .nrm T H=Q .nrm T H:=rfl
theorem Oo:Or Q .ret T H=Q .ret T H:=rfl
theorem LS (i:Nat):Or Q (.exit i) T H=Q (.exit i) T H:=rfl
theorem GH (Inv:Nat->Tm->Heap->Prop) (k:Nat):Jf Inv k Q .nrm T H = ∃ a,a<k/\Inv a T H:=rfl
theorem O6 (Inv:Nat->Tm->Heap->Prop) (k:Nat):Jf Inv k Q .ret T H=Q .ret T H:=rfl
theorem Mo (Inv:Nat->Tm->Heap->Prop) (k i:Nat):Jf Inv k Q (.exit i) T H=Q (.exit i) T H:=rfl
theorem Mn (Inv:Nat->Tm->Heap->Prop) (k i:Nat):Jf Inv k Q (.goto i) T H=Q (.goto i) T H:=rfl
theorem Qp (c:ACode):WC tab rd (.loop c) T H Q=UA tab rd c () T H Q ():=rfl
theorem NC (f:Src) (ps:List Nat) (a c:ACode):WC tab false (.rangeFunc f ps a c) T H Q=rangeH tab f ps a c () () T H Q ():=rfl
end
section
variable {tab:Nat->Option aA} {T:Tm} {H:Heap} {Q:Tm->Heap->Prop} {id:Nat}
theorem El:FP tab id [] T H Q=Q T H:=by rw [AC]; rfl
theorem AE (d:Option Nat) (o:AOp) (os:List FR):FP tab id (⟨d,o,none⟩ :: os) T H Q=nj tab (Src.ev T) H id o fun v H'=>FP tab (id+1) os (putT T d v) H' Q:=by rw [AC,co]; rfl
def px {f:Nat} {fn:aA} {args:List AV} {Q:AV->Heap->Prop} (a:tab f=some fn) (he:fn.ext=none) (hl:args.length=fn.nparams) (hn:fn.nparams<=fn.ntmps)
  (h:∀ T0:Tm,T0.length=fn.ntmps->(∀ i,i<args.length->ad T0 i=args.getD i .undef)->WC tab false fn.body T0 H fun x T' H'=>(x=.nrm\/x=.ret)/\∃ v,cq T' H' fn.results=some v/\Q v H'):Ans tab (.fn f args) H Q :=
 RY a he hl hn fun T0 h1 h2=>(h T0 h1 h2).run
def CP {f:Nat} {fn:aA} {args:List AV} {Q:AV->Heap->Prop} (a:tab f=some fn) (he:fn.ext=none) (hl:args.length=fn.nparams) (hn:fn.nparams<=fn.ntmps)
  (h:∀ T0:Tm,T0.length=fn.ntmps->(∀ i,i<args.length->ad T0 i=args.getD i .undef)->WC tab false fn.body T0 H fun x T' H'=>(x=.nrm\/x=.ret)/\∃ v,cq T' H' fn.results=some v/\Q v H'):Ans tab (.ent f args) H Q :=
 Nd a he hl hn fun T0 h1 h2=>(h T0 h1 h2).run
end
section
variable {tab:Nat->Option aA}
def rangeH.use {f:Src} {ps:List Nat} {a body:ACode} {T:Tm} {H:Heap} {Q:Ex->Tm->Heap->Prop} {fi:Nat} {args:List AV} (b:iU (f.ev T) [.loopv H.next]=some (.fn fi args))
  (h:Ans tab (.ent fi args) (({ H with next:=H.next+1 }:Heap).put H.next (.loop T ps a body .ready none)) fun _ H2 =>
   (H2.get H.next=some (.loop T ps a body .ready none)/\Q .nrm T (H2.kill H.next))\/(H2.get H.next=some (.loop T ps a body .done (some .ret))/\Q .ret T (H2.kill H.next)) \/
   (∃ id,H2.get H.next=some (.loop T ps a body .done (some (.exit id)))/\Q (.exit id) T (H2.kill H.next))):rangeH tab f ps a body () () T H Q ():=by
 unfold rangeH;exact ⟨Em b h⟩
def Td (b:Nat) (T:Tm) (ps:List Nat) (a body:ACode) (Q:AV->Heap->Prop) (x:Ex) (_:Tm) (H2:Heap):Prop:=H2.get b=some (.loop T ps a body .busy none)/\match x with
 | .nrm=>Q (.bool true) (H2.put b (.loop T ps a body .ready none))
 | .ret=>Q (.bool false) (H2.put b (.loop T ps a body .done (some .ret)))
 | .exit id=>Q (.bool false) (H2.put b (.loop T ps a body .done (some (.exit id))))
 | .goto g=>Q (.bool false) (H2.put b (.loop T ps a body .done (some (.goto g))))
theorem vS (b:Nat) (T T':Tm) (ps:List Nat) (a body:ACode) (Q:AV->Heap->Prop) (H2:Heap):Td b T ps a body Q .nrm T' H2=(H2.get b=some (.loop T ps a body .busy none)/\Q (.bool true) (H2.put b (.loop T ps a body .ready none))):=rfl
def qB {b:Nat} {args:List AV} {T:Tm} {ps:List Nat} {a body:ACode} {H:Heap} {Q:AV->Heap->Prop} (hb:H.get b=some (.loop T ps a body .ready none)) (hl:args.length=ps.length)
  (h:WC tab true a (oU T (ps.zip args)) H fun x T1 c=>x=.nrm/\c.get b=some (.loop T ps a body .ready none)/\WC tab true body T1 (c.put b (.loop T ps a body .busy none)) (Td b T ps a body Q)):Ans tab (.round b args) H Q:=by
 refine Nc hb hl ?_;simp only [sF] at h;refine Eq.mpr (congrArg (uF tab true a (oU T (ps.zip args)) H) ?_) h
 funext x T1 c
 refine congrArg (fun p=>x=.nrm/\c.get b=some (.loop T ps a body .ready none)/\p) ?_;refine congrArg (uF tab true body T1 (c.put b (.loop T ps a body .busy none))) ?_
 funext y T2 H2
 cases y <;> rfl
end
end Go.Proofs.YteaefaohjlmjdaaGreat.Ev
