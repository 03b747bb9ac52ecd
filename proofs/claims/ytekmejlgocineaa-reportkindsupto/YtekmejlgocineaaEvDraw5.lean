/- A part. -/
import Derived.Test.YtekmejlgocineaaEvMem
import Derived.Test.YtekmejlgocineaaEvDefs
import Derived.Scope
import Derived.Maps.RangeRun
import Derived.Sort.Row
import Derived.Sort.Grow
import Derived.Sort.Statements
import Derived.Deep.Draws
import Derived.Laws.Externs
import Derived.Lib.Bytealg
import Derived.CallsIn
namespace Go.Proofs.Ytekmejlgocineaa.Ev
open Go
set_option linter.all false
theorem j4 {α β:Type} {f:α->Option β}:∀ (xs:List α) (ys:List β),xs.mapM f=some ys->ys.length=xs.length/\∀ (i:Nat) (x:α),xs[i]? = some x->∃ y,ys[i]? = some y/\f x=some y
 | [],ys,h=>by simp at h; subst h; exact ⟨rfl,fun i x h=>by simp at h⟩
 | x :: xs,ys,h=>by
  simp only [List.mapM_cons,Option.pure_def,Option.bind_eq_bind,Option.bind_eq_some_iff] at h
  obtain ⟨y,hy,ys',hys,h⟩:=h
  cases h
  obtain ⟨h1,h2⟩:=j4 xs ys' hys
  refine ⟨by simp [h1],fun i x' hx=>?_⟩
  cases i with
  | zero=>simp at hx; subst hx; exact ⟨y,rfl,hy⟩
  | succ i=>simpa using h2 i x' (by simpa using hx)
theorem getD_of {α:Type} {l:List α} {i:Nat} {x d:α} (h:l[i]? = some x):l.getD i d=x:=by rw [List.getD_eq_getElem?_getD,h]; rfl
def EV (l:List DI) (i:Nat):gb :=
 let d:=l.getD i default
 { dst:=d.dst,op:=d.op,guard:=d.guard,uses:=((d.op.slots++(match d.guard with | some (t,_)=>[t] | none=>[])).eraseDups).map fun t=>(t,uV l i d.preds t),cls:=d.cls,looks:=uT l i:gb }
theorem tU {P:Program} {ops:Array Oper} {os:List Oper} {pr:List (List Nat)} {l:List DI} {ds:List gb} (hos:∀ (i:Nat) (o:Oper),os[i]? = some o->ops[i]? = some o)
  (hl:os.zipIdx.mapM (fun (o,i)=>EY P ops pr o i)=some l) (hds:(List.range l.length).map (EV l)=ds) (hok:tV os l ds=true):kU P ops l ds/\l.length=os.length:=by
 obtain ⟨h1,h2⟩:=j4 _ _ hl
 have hlen:l.length=os.length:=by simpa using h1
 simp only [tV,Bool.and_eq_true] at hok
 obtain ⟨⟨⟨ok1,ok2⟩,ok3⟩,ok4⟩:=hok
 have hdlen:ds.length=l.length:=by rw [<- hds]; simp
 have hosl:∀ i,i<l.length->∃ o,os[i]? = some o:=fun i hi=>⟨os[i]'(hlen ▸ hi),List.getElem?_eq_getElem _⟩
 have hop:∀ i,i<l.length->∃ o,ops[i]? = some o/\EY P ops pr o i=some (l.getD i default):=by
  intro i hi
  have hx:os.zipIdx[i]? = some (os[i]'(hlen ▸ hi),i):=by simp [hlen ▸ hi]
  obtain ⟨y,hy,hf⟩:=h2 i _ hx
  exact ⟨_,hos i _ (List.getElem?_eq_getElem (hlen ▸ hi)),by rw [getD_of hy]; exact hf⟩
 have hoget:∀ i o,i<l.length->ops[i]? = some o->os.getD i default=o:=by
  intro i o hi ho
  obtain ⟨o',ho'⟩:=hosl i hi
  have:=hos i o' ho'
  rw [ho] at this; cases this
  exact getD_of ho'
 have hsz:l.length<=ops.size:=by
  rcases Nat.eq_zero_or_pos l.length with h | h
  ·omega
  ·obtain ⟨o,ho⟩:=hosl (l.length-1) (by omega)
   have:=(Array.getElem?_eq_some_iff.1 (hos _ _ ho)).1
   omega
 simp only [uK,List.all_eq_true,List.mem_range,Bool.and_eq_true,List.any_eq_true,Bool.or_eq_true,beq_iff_eq,decide_eq_true_eq,List.contains_iff_mem] at ok1
 simp only [uL,List.all_eq_true,List.mem_range,Bool.and_eq_true,Bool.or_eq_true,Bool.not_eq_true',bne_iff_ne,ne_eq,List.contains_iff_mem,Option.isNone_iff_eq_none] at ok2
 simp only [yZ,List.all_eq_true,List.mem_range] at ok3
 simp only [uM,List.all_eq_true,List.mem_range,Bool.and_eq_true] at ok4
 refine ⟨⟨hsz,hdlen,fun i hi=>?_,fun i hi=>?_,fun i hi=>?_,fun i o hi ho j hj=>?_,fun i o hi ho p hp=>?_,fun i j hij hj h1 h2=>?_,fun i j hij hj h1 h2=>?_,fun i hi t j hu=>?_,fun i hi t hu j' hj' hd=>?_,fun i hi k adds hm a ha=>?_,fun i hi hc k hk=>?_,fun i hi hc=>?_⟩,hlen⟩
 ·obtain ⟨o,ho,hd⟩:=hop i hi
  simp only [EY,Option.map_eq_some_iff] at hd
  obtain ⟨g,hg,hd⟩:=hd
  exact ⟨o,ho,by unfold du; rw [<- hd],by rw [<- hd]; exact hg,by rw [<- hd]⟩
 ·obtain ⟨x,hx,he⟩:∃ x,ds[i]? = some x/\x.dst=du l i/\x.op=(l.getD i default).op/\x.guard=(l.getD i default).guard/\x.cls=dY l i:=by
   rw [<- hds,List.getElem?_map,List.getElem?_range hi]
   exact ⟨_,rfl,rfl,rfl,rfl,rfl⟩
  rw [getD_of hx]
  exact he
 ·obtain ⟨o,ho,hd⟩:=hop i hi
  simp only [EY,Option.map_eq_some_iff] at hd
  obtain ⟨g,hg,hd⟩:=hd
  unfold dY
  rw [<- hd]
  simp only [CD]
  split
  ·exact .inl rfl
  ·split
   ·exact .inr (.inl rfl)
   ·exact .inr (.inr rfl)
 ·have he:=hoget i o hi ho
  exact (ok1 i hi).1 j (by rw [he]; exact hj)
 ·have he:=hoget i o hi ho
  obtain ⟨j,hj,hh⟩:=(ok1 i hi).2 p hp
  rw [he] at hj
  exact ⟨j,hj,hh⟩
 ·rcases (ok2 j hj i hij).1 with (h | h) | h
  ·exact absurd h h1
  ·exact absurd h2 h
  ·exact h
 ·rcases (ok2 j hj i hij).2 with h | h
  ·rw [show (l.getD i default).cls=2 from h1,show (l.getD j default).cls=2 from h2] at h; simp at h
  ·exact h
 ·have:=ok3 i hi (t,some j) hu
  simp only [y7,Bool.and_eq_true,List.all_eq_true,List.mem_range,Bool.or_eq_true,beq_iff_eq,decide_eq_true_eq,List.contains_iff_mem,bne_iff_ne,ne_eq] at this
  obtain ⟨⟨⟨g1,g2⟩,g3⟩,g4⟩:=this
  refine ⟨g1,g2,g3,fun j' hj' hd=>?_⟩
  rcases g4 j' hj' with ((h | h) | h) | h
  ·exact absurd hd h
  ·exact .inl h
  ·exact .inr (.inl h)
  ·exact .inr (.inr h)
 ·have:=ok3 i hi (t,none) hu
  simp only [y7,List.all_eq_true,List.mem_range,Bool.or_eq_true,beq_iff_eq,List.contains_iff_mem,bne_iff_ne,ne_eq] at this
  rcases this j' hj' with (h | h) | h
  ·exact absurd hd h
  ·exact .inl h
  ·exact .inr h
 ·have:=(ok4 i hi).1 (k,adds) hm
  simp only [y9,List.all_eq_true,Bool.and_eq_true,beq_iff_eq,decide_eq_true_eq,List.contains_iff_mem,Bool.not_eq_true',] at this
  obtain ⟨⟨⟨g1,g2⟩,g3⟩,g4⟩:=this a ha
  exact ⟨g1,g2,by simpa using g3,g4⟩
 ·have:=(ok4 i hi).2
  rw [if_pos (show (l.getD i default).cls=0 from hc)] at this
  simp only [y8,List.all_eq_true,List.mem_range,Bool.or_eq_true,List.any_eq_true,Bool.and_eq_true,beq_iff_eq,decide_eq_true_eq,List.contains_iff_mem] at this
  rcases this k (by omega) with ⟨q,hq,h | h⟩ | ⟨p,hp,rfl⟩
  ·exact .inl ⟨q,hq,h.1,h.2⟩
  ·exact .inr (.inl ⟨q,hq,h.1,h.2⟩)
  ·exact .inr (.inr ⟨p.2,hp⟩)
 ·have:=(ok4 i hi).2
  rw [if_neg (show ¬ (l.getD i default).cls=0 by have:(l.getD i default).cls=2:=hc; omega),if_neg (show ¬ (l.getD i default).cls=1 by have:(l.getD i default).cls=2:=hc; omega)] at this
  unfold Cx at this
  split at this
  ·rename_i p hp
   simp only [Bool.and_eq_true,List.all_eq_true,List.mem_range,beq_iff_eq,decide_eq_true_eq] at this
   obtain ⟨⟨g1,g2⟩,g3⟩:=this
   refine ⟨p.1,p.2,hp,g1,g2,fun a ha=>?_⟩
   have:=g3 a ha
   have h1:(a∈cX l (p.1+1)) ↔ (cX l (p.1+1)).contains a=true:=by simp
   rw [h1,this]
   simp
  ·cases this
theorem sf {P:Program} {ops:Array Oper} {ds:List gb} {late:List Nat} (h:vq P ops=some (ds,late)):∃ l,kU P ops l ds/\l.length=ops.size/\late=ml l:=by
 simp only [vq] at h
 split at h
 ·cases h
 rename_i l hl
 split at h
 rotate_left
 ·cases h
 rename_i hok
 simp only [Option.some.injEq,Prod.mk.injEq] at h
 obtain ⟨hds,hlate⟩:=h
 rw [hds] at hok
 obtain ⟨G,hlen⟩:=tU (ops:=ops) (os:=ops.toList) (fun i o h=>by simpa using h) hl hds hok
 exact ⟨l,G,by simpa using hlen,hlate.symm⟩
theorem kQ {l:List DI} {ds:List gb} (hlen:ds.length=l.length) (hc:∀ i,i<l.length->(ds.getD i default).cls=dY l i) :
  ∀ q,q<=l.length->((ds.take q).filter fun d=>d.cls == 2).length=((List.range q).filter fun i=>(l.getD i default).cls == 2).length
 | 0,_=>rfl
 | q+1,h=>by
  rw [List.take_succ_eq_append_getElem (by omega),List.range_succ,List.filter_append,List.filter_append,List.length_append,List.length_append,kQ hlen hc q (by omega)]
  have:=hc q (by omega)
  rw [List.getD_eq_getElem?_getD,List.getElem?_eq_getElem (by omega),Option.getD_some] at this
  congr 1
  simp only [List.filter_cons,List.filter_nil]
  rw [this,show (l.getD q default).cls=dY l q from rfl]
  split <;> rfl
section
variable {P:Program} {ops:Array Oper} {l:List DI} {ds:List gb} {T0:Tm} {s:DS} {base:Nat} {F:Nat->Prop} {μ0:Mu} {H0:Heap} {w0:World} {df:List Deferred}
theorem zH {cal:iH} (hcal:gL P cal) {fence:Fence} {rd:Bool} (hF:FenceOK fence rd) {n:Nat} {Q:Exit->Act->World->Prop} (G:kU P ops l ds) (hlen:l.length=ops.size)
  (hop:∀ i,i<l.length->E7 cal base T0 s i (ds.getD i default)) (hsame:∀ i,i<l.length->gx base T0 s i (ds.getD i default)=true)
  (hQ:∀ S k μ a w,(∀ j,j<l.length->S j=true)->Inv P l T0 s base F μ0 H0 w0 df S k μ a w->Q .normal a w) :
  ∀ (fuel:Nat) (listed:Array Bool) (k:Nat) (μ:Mu) (a:Act) (w:World),listed.size=l.length->cnt (fun j=>listed.getD j false) l.length=fuel ->
   Inv P l T0 s base F μ0 H0 w0 df (fun j=>listed.getD j false) k μ a w->wpAnyIn fence n P .any ops Q fuel listed a w:=by
 intro fuel
 induction fuel with
 | zero =>
  intro listed k μ a w hsz hcnt J
  have hall:=su _ hcnt
  refine ⟨?_,hQ _ k μ a w hall J⟩
  apply List.eq_nil_iff_forall_not_mem.2
  intro j hj
  have h0:=(mem_ready.1 hj).1
  have hlt:j<listed.size:=by
   rcases Nat.lt_or_ge j listed.size with h | h
   ·exact h
   ·simp [Array.getElem?_eq_none h] at h0
  have:=hall j (hsz ▸ hlt)
  simp [hlt] at h0 this
  rw [h0] at this; cases this
 | succ fuel ih =>
  intro listed k μ a w hsz hcnt J
  refine ⟨fun hr=>?_,fun i hi=>?_⟩
  ·refine hQ _ k μ a w ?_ J
   intro j
   induction j using Nat.strongRecOn with
   | _ j hj =>
    intro hlt
    cases hS:listed.getD j false with
    | true=>rfl
    | false =>
     exfalso
     obtain ⟨o,ho,_⟩:=G.op j hlt
     have:j∈Region.ready .any ops listed:=by
      refine mem_ready.2 ⟨?_,o,ho,fun e he hb=>?_⟩
      ·have:j<listed.size:=by omega
       simp [this] at hS ⊢; exact hS
      ·have hm:e.on∈gT o:=by
        unfold gT
        exact List.mem_map.2 ⟨e,List.mem_filter.2 ⟨by simpa using he,hb⟩,rfl⟩
       have hlt':=G.back j o hlt ho _ hm
       exact hj e.on hlt' (by omega)
     rw [hr] at this; cases this
  ·obtain ⟨h0,o,ho,hall⟩:=mem_ready.1 hi
   have hlt:i<listed.size:=by
    rcases Nat.lt_or_ge i listed.size with h | h
    ·exact h
    ·simp [Array.getElem?_eq_none h] at h0
   have hS:listed.getD i false=false:=by simp [hlt] at h0 ⊢; exact h0
   have hset:(fun j=>(listed.setIfInBounds i true).getD j false)=add (fun j=>listed.getD j false) i:=by
    funext j
    by_cases e:j=i
    ·subst e; simp [add,hlt]
    ·rw [getD_set_ne false (Ne.symm e)]; simp [add,e]
   refine xl hcal hF J G (hop i (hsz ▸ hlt)) (wg (hsame i (hsz ▸ hlt)) k) (hsz ▸ hlt) hS (fun p hp=>?_) fun a' w' μ' k' J'=>?_
   ·obtain ⟨j,hj,hh⟩:=G.pre i o (hsz ▸ hlt) ho p hp
    unfold gT at hj
    obtain ⟨e,he,rfl⟩:=List.mem_map.1 hj
    rw [List.mem_filter] at he
    have hSj:=hall e (by simpa using he.1) he.2
    rcases hh with rfl | hh
    ·exact hSj
    ·refine J.cl e.on ?_ hSj p hh
     have:=G.back i o (hsz ▸ hlt) ho e.on (by unfold gT; exact List.mem_map.2 ⟨e,List.mem_filter.2 he,rfl⟩)
     omega
   ·refine ih _ k' μ' a' w' (by simp [hsz]) ?_ (hset ▸ J')
    rw [hset]
    have:=vn (S:=fun j=>listed.getD j false) hS l.length (hsz ▸ hlt)
    omega
theorem HR.of_heap {μ:Mu} {H:Heap} {w w':World} (h:HR P μ F H w) (hw:w'.heap=w.heap):HR P μ F H w' :=
 ⟨fun b L hb=>hw ▸ h.dom b L hb,fun c hc=>hw ▸ h.fb c hc,fun b e hb=>let ⟨L,hL,hE⟩:=h.ent b e hb; ⟨L,hL,hE.mono (fun _ _ h=>h) (fun _ h=>h) (fun c _=>by rw [hw]) (by rw [hw]) (fun hr=>hE.notF hr)⟩,h.inj,fun g cs hg=>(h.gl g cs hg).mono (fun _ _ h=>h) (fun _ h=>h) fun c _=>by rw [hw]⟩
theorem tT {cal:iH} (hcal:gL P cal) (hm:P.follows .mixedOrders=true) {fence:Fence} {rd:Bool} (hF:FenceOK fence rd) {n id:Nat} {late:List Nat} {Q:Exit->Act->World->Prop} {T T':Tm} {H H':Heap} {μ:Mu} {a:Act} {w:World}
  (hc:vq P ops=some (ds,late)) (hrun:sg cal ds late T H=some (T',H')) (hT:LR μ F w T a.tmps.toList) (hH:HR P μ F H w)
  (hQ:∀ a' w' μ',a'.defers=a.defers->LR μ' F w' T' a'.tmps.toList->HR P μ' F H' w'->Stp kA P μ F H w μ' F H' w'->Q .normal a' w') :
  (Code.region id ops true).wpIn fence n P Q a w:=by
 obtain ⟨l,G,hlen,rfl⟩:=sf hc
 unfold sg at hrun
 split at hrun
 ·cases hrun
 rename_i s hs
 split at hrun
 rotate_left
 ·cases hrun
 rename_i hsame
 cases hrun
 have hcls:∀ d∈ds,d.cls=0\/d.cls=1\/d.cls=2:=by
  intro d hd
  obtain ⟨i,hi,rfl⟩:=List.getElem_of_mem hd
  have hi':i<l.length:=by rw [<- G.dlen]; exact hi
  have h1:=G.cl i hi'
  rw [<- (G.dso i hi').2.2.2,getD_of (List.getElem?_eq_getElem hi)] at h1
  exact h1
 obtain ⟨k1,k2,k3,k4,k5⟩:=xm ds 0 _ _ hcls hs
 have hcl:∀ i,i<l.length->(ds.getD i default).cls=dY l i:=fun i hi=>(G.dso i hi).2.2.2
 have hdi:∀ i,i<l.length->ds[i]? = some (ds.getD i default):=by
  intro i hi
  have:i<ds.length:=by rw [G.dlen]; exact hi
  rw [List.getElem?_eq_getElem this]
  simp [List.getD_eq_getElem?_getD,List.getElem?_eq_getElem this]
 have hVl:s.Vs.length=l.length:=by rw [k2,G.dlen]; simp
 have hop:∀ i,i<l.length->E7 cal H.next T s i (ds.getD i default):=by
  intro i hi
  obtain ⟨s1,s2,e1,e2,e3,e4,e5⟩:=k5 i _ (hdi i hi)
  rw [Nat.zero_add] at e1
  refine Dv e1 e2 (hcls _ (List.mem_of_getElem? (hdi i hi))) (by simpa using e3) (by simpa using e4) (fun u hu j hj=>?_) (fun h2 k adds hl=>?_)
  ·obtain ⟨t,u⟩:=u
   have hj:u=some j:=hj
   subst hj
   exact (G.useS i hi t j hu).2.2.1
  ·have hc2:dY l i=2:=(hcl i hi) ▸ h2
   obtain ⟨kk,adds',hl',g1,g2,_⟩:=G.act i hi hc2
   rw [hl] at hl'; cases hl'
   refine ⟨?_,fun a ha=>(G.look i hi k adds (by rw [hl]; exact List.mem_cons_self ..) a ha).2.2.2⟩
   rw [e5,kQ G.dlen hcl i (by omega)]
   obtain ⟨q1,q2⟩:=z7 hi hc2
   have:=sK q1 g1 (q2.trans g2.symm)
   rw [this]
   simp; omega
 have hC0:s.Cs.getD 0 default = { H with next:=H.next+ds.length }:=by rw [gz k1.2.1 (by simp)]; rfl
 have hCl:s.Cs.length=(ax l).length+1:=by
  have:=kQ G.dlen hcl l.length (Nat.le_refl _)
  rw [List.take_of_length_le (by rw [G.dlen]; exact Nat.le_refl _)] at this
  rw [k4,this]; simp [ax]; omega
 obtain ⟨w1,hw1⟩:∃ w1,w1 = { w with drawn:=w.drawn+1 }:=⟨_,rfl⟩
 have hH1:HR P μ F H w1:=hH.of_heap (by rw [hw1])
 have hB1:HR P μ F (s.Cs.getD 0 default) w1:=by rw [hC0]; exact hH1.bump _
 have hst1:Stp kA P μ F H w μ F H w1:=by
  subst hw1
  exact ⟨fun _ _ h=>h,fun _ h=>h,Nat.le_refl _,fun _ _ _=>rfl,fun b L hb hL=>.inr ⟨b,L,hb,hL,rfl⟩,Nat.le_refl _,fun _ _ _ h=>h,fun b L h=>.inl ⟨b,L,h,rfl⟩,fun b e h _ _=>⟨e,h⟩,fun b e L h hL=>.inr ⟨b,e,L,h,hL,rfl⟩,Tp.draw,rfl,rfl⟩
 have hz:Hh l s H.next (fun _=>false) 0=s.Cs.getD 0 default:=by
  unfold Hh
  have:qq l (fun _=>false) 0=[]:=by simp [qq]
  rw [this]; rfl
 have hrep:∀ j,(Array.replicate ops.size false).getD j false=false:=by
  intro j
  rcases Nat.lt_or_ge j ops.size with h | h
  ·simp [h]
  ·simp [Array.getElem?_eq_none (show (Array.replicate ops.size false).size<=j by simpa using h)]
 have J0:Inv P l T s H.next F μ (s.Cs.getD 0 default) w1 a.defers (fun j=>(Array.replicate ops.size false).getD j false) 0 μ a w1:=by
  have hf:(fun j=>(Array.replicate ops.size false).getD j false)=fun _=>false:=funext hrep
  rw [hf]
  refine ⟨fun j _ h=>(by cases h),Nat.zero_le _,fun q _=>(by simp),?_,by rw [hz]; exact hB1,fun j hj _ _=>?_,?_,fun j hj _=>fu hH (Nat.le_add_right _ _),by rw [hz]; exact Stp.refl _ _ _ _ _ _,rfl⟩
  ·rw [Aa]; exact LR.mono (w:=w) (w':=w1) (fun _ _ h=>h) (fun _ h=>h) (fun _ _=>by rw [hw1]) hT
  ·rw [hC0]
   cases hg:H.get (H.next+j) with
   | none=>exact hg
   | some e =>
    obtain ⟨L,hL,_⟩:=hH.ent _ e hg
    rw [fu hH (Nat.le_add_right _ _)] at hL; cases hL
  ·rw [hC0,G.dlen]; exact Nat.le_refl _
 refine wpIn_region_any hm ?_
 rw [<- hw1]
 refine zH hcal hF G hlen hop (fun i hi=>?_) (fun S k μ' a' w' hall J=>?_) ops.size _ 0 μ a w1 (by simp [hlen]) ?_ J0
 ·have:=rt ds 0 hsame i _ (hdi i hi)
  rwa [Nat.zero_add] at this
 ·have hk:k=(ax l).length:=by
   rcases Nat.lt_or_ge k (ax l).length with h | h
   ·have:=(J.act k h).1 (hall _ (jQ h).1); omega
   ·have:=J.kle; omega
  subst hk
  have hTS:TS l T s S=eJ T ds s.Vs:=by
   rw [wr G.dlen hVl (fun i hi=>(G.dso i hi).1)]
   unfold TS
   apply List.map_congr_left
   intro t _
   exact nC _ hall
  have hlst:qq l S (ax l).length=ml l:=by
   rw [<- BJ]
   unfold qq
   apply List.filter_congr
   intro x hx
   rw [hall x (by simpa using hx)]
  have hlast:s.Cs.getLastD default=s.Cs.getD (ax l).length default:=by
   rw [List.getLastD_eq_getLast?,List.getLast?_eq_getElem?,hCl,List.getD_eq_getElem?_getD]; rfl
  have hHh:Hh l s H.next S (ax l).length=cV H.next s.Es (s.Cs.getLastD default) (ml l):=by
   unfold Hh; rw [hlst,hlast]
  have hhr:=J.hr
  have hst:=J.st
  rw [hHh] at hhr hst
  refine hQ a' w' μ' J.df (hTS ▸ J.tm) hhr (hst1.trans ?_)
  rw [hC0] at hst
  exact ⟨hst.mu,hst.fr,hst.size,hst.keep,hst.rw,Nat.le_trans (Nat.le_add_right _ _) hst.next,fun b hb _ hn=>hst.new b (Nat.lt_of_lt_of_le hb (Nat.le_add_right _ _)) (by omega) hn,hst.rng,fun b e hb hl _=>hst.old b e hb (Nat.lt_of_lt_of_le hl (Nat.le_add_right _ _)) (by omega),hst.alv,hst.tape,hst.os,hst.out⟩
 ·rw [vj _ (fun j _=>hrep j),hlen]
end
section
variable {P:Program} {ops:Array Oper} {l:List DI} {ds:List gb} {T0:Tm} {s:DS} {base:Nat} {F:Nat->Prop} {μ0:Mu} {H0:Heap} {w0:World} {df:List Deferred}
theorem z6 {H H':Heap} {μ μ':Mu} {w w1 w':World} {m:Nat} (h1:Stp kA P μ F H w μ F H w1) (hst:Stp (fun b=>H.next<=b) P μ F { H with next:=H.next+m } w1 μ' F H' w'):Stp kA P μ F H w μ' F H' w' :=
 h1.trans ⟨hst.mu,hst.fr,hst.size,hst.keep,hst.rw,Nat.le_trans (Nat.le_add_right _ _) hst.next,fun b hb _ hn=>hst.new b (Nat.lt_of_lt_of_le hb (Nat.le_add_right _ _)) (by omega) hn,hst.rng,fun b e hb hl _=>hst.old b e hb (Nat.lt_of_lt_of_le hl (Nat.le_add_right _ _)) (by omega),hst.alv,hst.tape,hst.os,hst.out⟩
end
section
variable {μ μ':Mu} {F:Nat->Prop} {w w':World}
theorem VR.back (hμ:∀ b L,μ b=some L->μ' b=some L) {c:AV} {v0:Value} (h0:VR μ F w c v0):∀ {v:Value},VR μ' F w' c v->VR μ F w' c v:=by
 induction h0 with
 | undef v0=>intro v h; exact .undef v
 | bool b=>intro v h; cases h; exact .bool b
 | int k n=>intro v h; cases h; exact .int k n
 | str s=>intro v h; cases h; exact .str s
 | nilPtr=>intro v h; cases h; exact .nilPtr
 | nilSl=>intro v h; cases h; exact .nilSl
 | nilFn=>intro v h; cases h; exact .nilFn
 | nilIf=>intro v h; cases h; exact .nilIf
 | nilMap=>intro v h; cases h; exact .nilMap
 | agg cs vs hl hv ih =>
  intro v h
  cases h with
  | agg _ us hl' hv' =>
   refine .agg cs us hl' fun i c u hc hu=>?_
   obtain ⟨x,hx⟩:∃ x,vs[i]? = some x:=⟨vs[i]'(by have:=(List.getElem?_eq_some_iff.1 hc).1; omega),Array.getElem?_eq_getElem _⟩
   exact ih i c x hc hx (hv' i c u hc hu)
 | tup cs vs hl hv ih =>
  intro v h
  cases h with
  | tup _ us hl' hv' =>
   refine .tup cs us hl' fun i c u hc hu=>?_
   obtain ⟨x,hx⟩:∃ x,vs[i]? = some x:=⟨vs[i]'(by have:=(List.getElem?_eq_some_iff.1 hc).1; omega),Array.getElem?_eq_getElem _⟩
   exact ih i c x hc hx (hv' i c u hc hu)
 | sl0 a cap =>
  intro v h
  cases h with
  | sl0 a cap=>exact .sl0 a cap
  | sl _ _ cap blk off arr ty fr g1 g2 g3 g4 g5=>exact .sl0 _ _
 | sl cells n cap blk off arr ty fr hf hb hn ho hv ih =>
  intro v h
  cases h with
  | sl0 a cap=>exact .sl0 a cap
  | sl _ _ cap' blk' off' arr' ty' fr' g1 g2 g3 g4 g5 =>
   refine .sl cells n cap' blk' off' arr' ty' fr' g1 g2 g3 g4 fun i c u hc hu=>?_
   obtain ⟨x,hx⟩:∃ x,arr[off+i]? = some x:=⟨arr[off+i]'(by have:=(List.getElem?_eq_some_iff.1 hc).1; omega),Array.getElem?_eq_getElem _⟩
   exact ih i c x hc hx (g5 i c u hc hu)
 | dp cells o blk off arr ty fr hf hb ho hv ih =>
  intro v h
  cases h with
  | dp _ _ blk' off' arr' ty' fr' g1 g2 g4 g5 =>
   refine .dp cells o blk' off' arr' ty' fr' g1 g2 g4 fun i c u hc hu=>?_
   obtain ⟨x,hx⟩:∃ x,arr[off+i]? = some x:=⟨arr[off+i]'(by have:=(List.getElem?_eq_some_iff.1 hc).1; omega),Array.getElem?_eq_getElem _⟩
   exact ih i c x hc hx (g5 i c u hc hu)
 | own b off n c sz ex L cap h1 h2 h3 h4 h5 h6 =>
  intro v h
  cases h with
  | own _ _ _ _ _ _ L' cap' g1 g2 g3 g4 g5 g6 =>
   have:=hμ _ _ h1
   rw [g1] at this
   cases this
   exact .own b off n c sz ex L cap' h1 g2 g3 g4 g5 g6
 | ptr b off L h1 =>
  intro v h
  cases h with
  | ptr _ _ L' g1 =>
   have:=hμ _ _ h1
   rw [g1] at this
   cases this
   exact .ptr b off L h1
 | fn f as bs us vs h1 h2 h3 h4 ih1 ih2 =>
  intro v h
  cases h with
  | fn _ _ _ us' vs' g1 g2 g3 g4 =>
   refine .fn f as bs us' vs' g1 (fun i c u hc hu=>?_) g3 fun i c u hc hu=>?_
   ·obtain ⟨x,hx⟩:∃ x,us[i]? = some x:=⟨us[i]'(by have:=(List.getElem?_eq_some_iff.1 hc).1; omega),Array.getElem?_eq_getElem _⟩
    exact ih1 i c x hc hx (g2 i c u hc hu)
   ·obtain ⟨x,hx⟩:∃ x,vs[i]? = some x:=⟨vs[i]'(by have:=(List.getElem?_eq_some_iff.1 hc).1; omega),Array.getElem?_eq_getElem _⟩
    exact ih2 i c x hc hx (g4 i c u hc hu)
 | ifc t x v0 hx ih =>
  intro v h
  cases h with
  | ifc _ _ u hu=>exact .ifc t x u (ih hu)
 | map b L h1 =>
  intro v h
  cases h with
  | map _ L' g1 =>
   have:=hμ _ _ h1
   rw [g1] at this
   cases this
   exact .map b L h1
 | loopv b L h1 =>
  intro v h
  cases h with
  | loopv _ L' g1 =>
   have:=hμ _ _ h1
   rw [g1] at this
   cases this
   exact .loopv b L h1
theorem LR.back (hμ:∀ b L,μ b=some L->μ' b=some L) {cs:List AV} {vs0 vs:List Value} (h0:LR μ F w cs vs0) (h:LR μ' F w' cs vs):LR μ F w' cs vs:=by
 refine ⟨h.1,fun i c v hc hv=>?_⟩
 obtain ⟨x,hx⟩:∃ x,vs0[i]? = some x:=⟨vs0[i]'(by have:=(List.getElem?_eq_some_iff.1 hc).1; have:=h0.1; omega),List.getElem?_eq_getElem _⟩
 exact (h0.2 i c x hc hx).back hμ (h.2 i c v hc hv)
theorem rh {W:List Nat} {T:Tm} {vs:List Value} (h:LR μ F w T vs):LR μ F w (fE W T) vs:=by
 refine ⟨by simp [fE,h.1],fun i c v hc hv=>?_⟩
 unfold fE at hc
 rw [List.getElem?_map,Option.map_eq_some_iff] at hc
 obtain ⟨p,hp,rfl⟩:=hc
 rw [List.getElem?_zipIdx,Option.map_eq_some_iff] at hp
 obtain ⟨y,hy,rfl⟩:=hp
 split
 ·exact .undef v
 ·exact h.2 i y v hy hv
end
def qM:Ex->Exit
 | .nrm=>.normal
 | .exit i=>.exit i
 | .goto l=>.goto l
 | .ret=>.ret
def DM (B:Nat × List Deferred) (μ:Mu) (F:Nat->Prop) (w:World) (ds:List Deferred):Prop :=
 ∃ Ds:List Nat,ds=Ds.map (fun D=>{ target:=.collected D,args:=#[] })++B.2/\Ds.Nodup /\
  ∀ D∈Ds,B.1<=D/\D<w.heap.size/\w.heap[D]? = some (.deferred (some []))/\¬ F D/\∀ b L,μ b=some L->L.blk≠D
section
variable {P:Program} {μ:Mu} {F:Nat->Prop} {H:Heap} {w:World} {T:Tm} {a:Act} {B:Nat × List Deferred}
theorem DM.nil {B:Nat × List Deferred}:DM B μ F w B.2:=⟨[],rfl,List.nodup_nil,fun D h=>by cases h⟩
theorem DM.stp {I:Nat->Prop} {μ':Mu} {H':Heap} {w':World} {ds:List Deferred} (h:DM B μ F w ds) (hS:Stp I P μ F H w μ' F H' w'):DM B μ' F w' ds:=by
 obtain ⟨Ds,h1,h2,h3⟩:=h
 refine ⟨Ds,h1,h2,fun D hD=>?_⟩
 obtain ⟨g1,g2,g3,g4,g5⟩:=h3 D hD
 refine ⟨g1,Nat.lt_of_lt_of_le g2 hS.size,?_,g4,fun b L hb=>?_⟩
 ·rw [hS.keep D g2 fun b L _ hL=>g5 b L hL]; exact g3
 ·rcases hS.rng b L hb with ⟨b0,L0,h0,e⟩ | hge
  ·rw [<- e]; exact g5 b0 L0 h0
  ·omega
structure xO (P:Program) (B:Nat × List Deferred) (μ:Mu) (F:Nat->Prop) (H:Heap) (w:World) (T:Tm) (a:Act):Prop where
 hT:LR μ F w T a.tmps.toList
 hH:HR P μ F H w
 hD:DM B μ F w a.defers
def fz (P:Program) (rd:Bool) (c:Code) (T:Tm) (H:Heap) (x:Ex) (T':Tm) (H':Heap):Prop :=
 ∀ (fence:Fence) (n:Nat) (B:Nat × List Deferred) (μ:Mu) (F:Nat->Prop) (w:World) (a:Act) (Q:Exit->Act->World->Prop),FenceOK fence rd->B.1<=w.heap.size->xO P B μ F H w T a ->
  (∀ a' w' μ',xO P B μ' F H' w' T' a'->Stp kA P μ F H w μ' F H' w'->Q (qM x) a' w')->c.wpIn fence n P Q a w
theorem DM.back {μ':Mu} {ds:List Deferred} (hμ:∀ b L,μ b=some L->μ' b=some L) (h:DM B μ' F w ds):DM B μ F w ds:=by
 obtain ⟨Ds,h1,h2,h3⟩:=h
 exact ⟨Ds,h1,h2,fun D hD=>⟨(h3 D hD).1,(h3 D hD).2.1,(h3 D hD).2.2.1,(h3 D hD).2.2.2.1,fun b L hb=>(h3 D hD).2.2.2.2 b L (hμ b L hb)⟩⟩
theorem DM.keep {w':World} {ds:List Deferred} (h:DM B μ F w ds) (hs:w.heap.size<=w'.heap.size) (hw:∀ (D:Nat),w.heap[D]? = some (.deferred (some []))->w'.heap[D]? = w.heap[D]?):DM B μ F w' ds:=by
 obtain ⟨Ds,h1,h2,h3⟩:=h
 refine ⟨Ds,h1,h2,fun D hD=>?_⟩
 obtain ⟨g1,g2,g3,g4,g5⟩:=h3 D hD
 exact ⟨g1,Nat.lt_of_lt_of_le g2 hs,(hw D g3).trans g3,g4,g5⟩
theorem qf {H:Heap} (hH:HR P μ F H w) {b:Nat} {e:Ent} (h:H.ro.get b=some e):∃ e0,H.get b=some e0/\e0.ro=some e:=by
 rw [Heap.get_ro] at h
 split at h
 ·cases hg:H.get b with
  | none=>rw [hg] at h; cases h
  | some e0=>rw [hg] at h; exact ⟨e0,rfl,h⟩
 ·rename_i hlt
  obtain ⟨L,hL,_⟩:=hH.ent b e h
  have:=(hH.dom b L hL).1
  omega
theorem EB {H:Heap} (hH:HR P μ F H w) {b:Nat}:¬ H.ro.rwAt b:=by
 rintro ⟨e,h,hr⟩
 obtain ⟨e0,-,h0⟩:=qf hH h
 cases e0 <;> simp only [Ent.ro] at h0 <;> first | (cases h0; done) | (simp only [Option.some.injEq] at h0; subst h0; cases hr)
theorem Cw {H:Heap} (hH:HR P μ F H w):HR P μ F H.ro w:=by
 refine ⟨hH.dom,hH.fb,fun b e h=>?_,fun b b' e e' L L' h h' hL hL' hb=>?_,hH.gl⟩
 ·obtain ⟨e0,h0,he⟩:=qf hH h
  obtain ⟨L,hL,hE⟩:=hH.ent b e0 h0
  refine ⟨L,hL,?_⟩
  cases e0 <;> simp only [Ent.ro] at he <;> first | (cases he; done) | (simp only [Option.some.injEq] at he; subst he)
  ·obtain ⟨arr,fr,h1,h2,h3,h4,h5,h6,h7⟩:=hE
   exact ⟨arr,fr,h1,h2,h3,h4,h5,fun h=>(by cases h),fun _=>trivial⟩
  ·exact hE.2
  ·exact hE
 ·obtain ⟨e0,h0,-⟩:=qf hH h
  obtain ⟨e1,h1,-⟩:=qf hH h'
  exact hH.inj b b' e0 e1 L L' h0 h1 hL hL' hb
theorem qe {I:Nat->Prop} {H H2 H':Heap} {μ':Mu} {w':World} (hH:HR P μ F H w) (h2:∀ b,H2.get b=H.ro.get b) (hS:Stp I P μ F H2 w μ' F H' w'):∀ c,c<w.heap.size->w'.heap[c]? = w.heap[c]? :=
 fun c hc=>hS.keep c hc fun b L ⟨e,he,hr⟩ _=>absurd ⟨e,h2 b ▸ he,hr⟩ (EB hH)
theorem pU (W:List Nat) (T:Tm):(fE W T).length=T.length:=by simp [fE]
theorem yp {W:List Nat} {T:Tm} {i:Nat} (hi:i∈W) (hl:i<T.length):(fE W T)[i]? = some .undef:=by
 unfold fE
 rw [List.getElem?_map,List.getElem?_zipIdx,List.getElem?_eq_getElem hl]
 simp [hi]
theorem zf {vs:List Value} {i:Nat} {v:Value} (h:LR μ F w T vs) (hi:T[i]? = some .undef):LR μ F w T (vs.set i v):=by
 have:=h.set i (VR.undef (μ:=μ) (F:=F) (w:=w) v)
 have e:T.set i .undef=T:=by
  apply List.ext_getElem?
  intro j
  by_cases hj:i=j
  ·subst hj; rw [List.getElem?_set_self',hi]; rfl
  ·rw [List.getElem?_set_ne hj]
 rwa [e] at this
theorem lD {d:Nat} {v:Value} (h:LR μ F w T a.tmps.toList) (hi:T[d]? = some .undef):LR μ F w T (a.put (some d) v).tmps.toList:=by
 simp only [Act.put,Array.toList_setIfInBounds]
 exact zf h hi
theorem r6 {d:Nat} {v:Value} (h:d<a.tmps.size):(a.put (some d) v).eval (.tmp d)=v:=by
 simp [Act.put,Act.eval,h]
theorem jZ {fence:Fence} {rd:Bool} (hF:FenceOK fence rd) {n:Nat} {ops:Array Oper} {Q:Exit->Act->World->Prop} {i:Nat} {rest:List Nat} {o:Oper} {u:Value} {w':World} (hoi:ops[i]? = some o) (hg:o.guard=none) (hd:∀ c,o.op ≠ .defer c)
  (hE:Ai P a w o u w') (hn:wpOpsIn fence n P ops Q rest (a.put o.dst u) w'):wpOpsIn fence n P ops Q (i :: rest) a w:=by
 simp only [wpOpsIn,hoi]
 rw [if_pos (by unfold Region.wanted; rw [hg])]
 exact mf hF hd hE hn
theorem oQ {ops:Array Oper} {pre:List Oper} {x:Operand} {it:Nat} (h:jX P ops=some (pre,x,it)):∃ o t,ops.toList=pre++[o]/\o.op=.range t x/\o.dst=some it/\o.guard=none/\zu P t=true:=by
 unfold jX at h
 split at h
 ·rename_i hl
  split at h
  ·rename_i hm
   cases h
   obtain ⟨ys,hys⟩:=List.getLast?_eq_some_iff.1 hl
   have e:∀ (o:Oper),ops.toList=ys++[o]->ops.toList=ops.toList.dropLast++[o]:=fun o h=>by rw [h]; simp
   exact ⟨_,_,e _ hys,rfl,rfl,rfl,hm⟩
  ·cases h
 ·cases h
theorem oP {ops:Array Oper} {it nx ex:Nat} (h:jW ops=some (it,nx,ex)):∃ o1 o2,ops.toList=[o1,o2]/\o1.op=.next (.tmp it) false/\o1.dst=some nx/\o1.guard=none/\o2.op=.extract (.tmp nx) 0/\o2.dst=some ex/\o2.guard=none:=by
 unfold jW at h
 split at h
 ·rename_i hl
  split at h
  ·rename_i e
   cases h
   subst e
   exact ⟨_,_,hl,rfl,rfl,rfl,rfl,rfl,rfl⟩
  ·cases h
 ·cases h
theorem nP {ops:Array Oper} {it en:Nat} {os:List Oper} (h:ie ops=some (it,en,os)):∃ o,ops.toList=o :: os/\o.op=.entry (.tmp it)/\o.dst=some en/\o.guard=none:=by
 unfold ie at h
 split at h
 ·rename_i hl
  cases h
  exact ⟨_,hl,rfl,rfl,rfl⟩
 ·cases h
theorem Bz {H:Heap} (hH:HR P μ F H w) {id:Nat} (hid:μ id=none) (hlt:id<H.next) {w':World} (hk:∀ c,c<w.heap.size->w'.heap[c]? = w.heap[c]?) (hs:w.heap.size<w'.heap.size) :
  HR P (μ.upd id ⟨w.heap.size,0,0⟩) F H w':=by
 have hne:∀ b e,H.get b=some e->b≠id:=fun b e hb he=>by
  subst he
  obtain ⟨L,hL,_⟩:=hH.ent _ e hb
  rw [hid] at hL; cases hL
 have hF:∀ c,F c->w'.heap[c]? = w.heap[c]?:=fun c hc=>hk c (hH.fb c hc)
 refine ⟨fun b L hb=>?_,fun c hc=>by have:=hH.fb c hc; omega,fun b e hb=>?_,fun b b' e e' L L' h1 h2 hL hL' he=>?_,fun g cs hg=>(hH.gl g cs hg).mono (dU hid) (fun _ h=>h) hF⟩
 ·by_cases e:b=id
  ·subst e
   rw [upd_same] at hb; cases hb
   exact ⟨hlt,hs⟩
  ·rw [aZ _ e] at hb
   have:=hH.dom b L hb
   exact ⟨this.1,by omega⟩
 ·obtain ⟨L,hL,hE⟩:=hH.ent b e hb
  exact ⟨L,dU hid _ _ hL,hE.mono (dU hid) (fun _ h=>h) hF (hk _ (hH.dom b L hL).2) fun hr=>hE.notF hr⟩
 ·rw [aZ _ (hne b e h1)] at hL
  rw [aZ _ (hne b' e' h2)] at hL'
  exact hH.inj b b' e e' L L' h1 h2 hL hL' he
structure RM (B:Nat × List Deferred) (μ:Mu) (F:Nat->Prop) (w1:World) (mb clock:Nat) (T:Tm) (seen:Array Nat) (a:Act) (w:World):Prop where
 it:w.heap[w1.heap.size]? = some (.mapIter (some mb) clock seen clock)
 keep:∀ c,c<w1.heap.size->w.heap[c]? = w1.heap[c]?
 tape:Tp w1 w
 os:w.os=w1.os
 out:w.output=w1.output
 hT:LR μ F w T a.tmps.toList
 hD:DM B μ F w a.defers
def gw (entries:Array MapEntry) (r:Nat) (w:World):Nat:=match w.heap[r]? with
 | some (.mapIter _ _ seen _)=>(leftOf entries seen).size
 | _=>0
theorem rv {cal:iH} (hcal:gL P cal) {m:Nat} {fence:Fence} {rd:Bool} (hF:FenceOK fence rd) {n:Nat} {B:Nat × List Deferred} {μ2:Mu} {w1:World} {id mb clock en bid2:Nat} {W:List Nat} {T2:Tm} {H1:Heap}
  {i2 it:Nat} {ops2:Array Oper} {os:List Oper} {ros:List oF} {rest:Code} {arest:ACode} {entries:Array MapEntry} {es:List (AV × AV)} {l:List (Option Tm)}
  (hen:ie ops2=some (it,en,os)) (hros:os.mapM (ow P ops2)=some ros) (ih:∀ T H x T' H',aw cal m rd arest T H=some (x,T',H')->fz P rd rest T H x T' H')
  (hit:aa T2 it=.ptr id 0) (hμ:μ2 id=some ⟨w1.heap.size,0,0⟩) (hB:B.1<=w1.heap.size)
  (hall:es.mapM (fun p=>ib W bid2 T2 (match io cal (H1.next+1) ros (T2.set en (.tup [p.1,p.2])) { H1.ro with next:=H1.next+(ros.length+1) } with
   | some (T3,H3)=>aw cal m rd arest T3 H3
   | none=>none))=some l) (hmb:mb<w1.heap.size) (hmap:w1.heap[mb]? = some (.map entries clock)) (hnd:(entries.toList.map (·.born)).Nodup)
  (hk:LR μ2 F w1 (es.map (·.1)) (entries.toList.map (·.key))) (hv:LR μ2 F w1 (es.map (·.2)) (entries.toList.map (·.val))) (hfb:∀ c,F c->c<w1.heap.size)
  {seen:Array Nat} {e:MapEntry} {j:Nat} (hj:entries.toList[j]? = some e) {a:Act} {w:World} (J:RM B μ2 F w1 mb clock T2 (seen.push e.born) a w) (hHw:∀ w',(∀ c,c<w1.heap.size->w'.heap[c]? = w1.heap[c]?)->w1.heap.size<w'.heap.size->HR P μ2 F H1 w')
  {Q:Exit->Act->World->Prop} (hQ:∀ a' w',RM B μ2 F w1 mb clock T2 (seen.push e.born) a' w'->l[j]? = some none->Q .normal a' w')
  (hR:∀ a' w' T4 μ4,RM B μ2 F w1 mb clock T2 (seen.push e.born) a' w'->l[j]? = some (some T4)->LR μ4 F w' T4 a'.tmps.toList->Q .ret a' w') :
  (Code.block bid2 (.seq (.region i2 ops2 false) rest)).wpIn fence n P Q a w:=by
 obtain ⟨o,hops,ho1,ho2,ho3⟩:=nP hen
 have hlt:w1.heap.size<w.heap.size:=(Array.getElem?_eq_some_iff.1 J.it).1
 have hHw0:HR P μ2 F H1 w:=hHw w J.keep hlt
 have hFw:∀ c,F c->w.heap[c]? = w1.heap[c]?:=fun c hc=>J.keep c (hfb c hc)
 refine wpIn_block (wpIn_seq (wpIn_region ?_))
 have hsz:ops2.size=os.length+1:=by rw [<- Array.length_toList,hops]; rfl
 have hlist:List.range ops2.size=0 :: (List.range' 1 os.length++[]):=by rw [hsz,List.range_eq_range',List.range'_succ,List.append_nil]
 rw [hlist]
 have ho0:ops2[0]? = some o:=by
  have:ops2.toList[0]? = some o:=by rw [hops]; rfl
  simpa using this
 have hptr:a.eval (.tmp it)=.pointer (some ⟨w1.heap.size,0,none⟩):=by
  have:=np J.hT it
  rw [hit] at this
  obtain ⟨L,hL,hp⟩:=lx this
  rw [hμ] at hL; cases hL
  exact hp
 have hrun:=run_entry_at (P:=P) w w1.heap.size mb clock seen entries clock e J.it ((J.keep mb hmb).trans hmap) (List.mem_of_getElem? hj) hnd
 have hjl:j<es.length:=by
  have:=hk.1; simp at this
  have:=(List.getElem?_eq_some_iff.1 hj).1
  simp at this; omega
 obtain ⟨p,hp⟩:∃ p,es[j]? = some p:=⟨es[j],List.getElem?_eq_getElem hjl⟩
 have hrk:VR μ2 F w p.1 e.key:=(hk.2 j p.1 e.key (by rw [List.getElem?_map,hp]; rfl) (by rw [List.getElem?_map,hj]; rfl)).mono (fun _ _ h=>h) (fun _ h=>h) hFw
 have hrv:VR μ2 F w p.2 e.val:=(hv.2 j p.2 e.val (by rw [List.getElem?_map,hp]; rfl) (by rw [List.getElem?_map,hj]; rfl)).mono (fun _ _ h=>h) (fun _ h=>h) hFw
 have htup:VR μ2 F w (.tup [p.1,p.2]) (.tuple #[e.key,e.val]):=by
  have:=LR.cons hrk (LR.cons hrv (LR.nil (μ:=μ2) (F:=F) (w:=w)))
  exact .tup _ _ rfl fun i c u h1 h2=>this.2 i c u h1 (by simpa using h2)
 have hE:Ai P a w o (.tuple #[e.key,e.val]) w:=by
  refine .inl ?_
  unfold execOp
  rw [ho1]
  simp only [hptr]
  exact bN hrun
 refine jZ hF ho0 ho3 (fun c hc=>by rw [ho1] at hc; cases hc) hE ?_
 rw [ho2]
 obtain ⟨-,hl⟩:=j4 _ _ hall
 obtain ⟨r,hlj,hok⟩:=hl j p hp
 split at hok
 rotate_left
 ·unfold ib at hok; cases hok
 rename_i T3 H3 hrun3
 have hro:=Cw hHw0
 have hbump:HR P μ2 F { H1.ro with next:=H1.next+(ros.length+1) } w:=hro.bump (ros.length+1)
 have hlen:os.length=ros.length:=by
  have:=(j4 _ _ hros).1
  omega
 refine kI hcal hF (n:=n) (ops:=ops2) (base:=H1.next) (top:=H1.next+(ros.length+1)) (tail:=[]) os ros 1 (H1.next+1) μ2 _ w _ _ (fun k o' h=>?_) hros hrun3 (by omega) (by omega) (by show H1.next+1+os.length<=H1.next+(ros.length+1); omega)
  (fun j h1 _=>fu hHw0 (by omega)) (nQ J.hT (some en) htup) hbump (fun a3 w3 μ3 hd3 hT3 hH3 hS3=>?_)
 ·have:ops2.toList[1+k]? = some o':=by
   rw [hops,show 1+k=k+1 by omega]; simpa using h
  simpa using this
 have hro2:∀ b,({ H1.ro with next:=H1.next+(ros.length+1) }:Heap).get b=H1.ro.get b:=fun b=>rfl
 have hk3:=qe hHw0 hro2 hS3
 have hDa:DM B μ2 F w ((a.put (some en) (.tuple #[e.key,e.val])).defers):=J.hD
 have hD3:DM B μ3 F w3 a3.defers:=by rw [hd3]; exact hDa.stp hS3
 have fin:∀ (x:Ex) (T4:Tm) (H4:Heap),AV.beqs (fE W T4) T2=true->aw cal m rd arest T3 H3=some (x,T4,H4)->(∀ a4 w4 μ4,RM B μ2 F w1 mb clock T2 (seen.push e.born) a4 w4->LR μ4 F w4 T4 a4.tmps.toList->Exit.inBlock bid2 Q (qM x) a4 w4)->rest.wpIn fence n P (Exit.inBlock bid2 Q) a3 w3:=by
  intro x T4 H4 hw4 hrun4 hfin
  have hw4:=AV.beqs_eq _ _ hw4
  refine ih T3 H3 x T4 H4 hrun4 fence n B μ3 F w3 a3 _ hF (by have:=hS3.size; omega) ⟨hT3,hH3,hD3⟩ fun a4 w4 μ4 hSt4 hS4=>?_
  have hstep:=hS3.trans (hS4.mono fun b hb=>hb.elim)
  have hk4:=qe hHw0 hro2 hstep
  have hT4:=rh (W:=W) hSt4.hT
  rw [hw4] at hT4
  have hT5:LR μ2 F w4 T2 a4.tmps.toList:=LR.back hstep.mu J.hT hT4
  have hD5:DM B μ2 F w4 a4.defers:=DM.back hstep.mu hSt4.hD
  exact hfin a4 w4 μ4 ⟨(hk4 _ hlt).trans J.it,fun c hc=>(hk4 c (by omega)).trans (J.keep c hc),J.tape.trans hstep.tape,hstep.os.trans J.os,hstep.out.trans J.out,hT5,hD5⟩ hSt4.hT
 show rest.wpIn fence n P (Exit.inBlock bid2 Q) a3 w3
 unfold ib at hok
 split at hok
 ·rename_i T4 H4 hrun4
  split at hok
  ·rename_i hw
   cases hok
   exact fin _ T4 H4 hw hrun4 fun a4 w4 μ4 hJ _=>hQ a4 w4 hJ hlj
  ·cases hok
 ·rename_i i T4 H4 hrun4
  split at hok
  ·rename_i hw
   obtain ⟨rfl,hw⟩:=hw
   cases hok
   refine fin _ T4 H4 hw hrun4 fun a4 w4 μ4 hJ _=>?_
   simp only [qM,Exit.inBlock,if_true]
   exact hQ a4 w4 hJ hlj
  ·cases hok
 ·rename_i T4 H4 hrun4
  split at hok
  ·rename_i hw
   cases hok
   exact fin _ T4 H4 hw hrun4 fun a4 w4 μ4 hJ hT=>hR a4 w4 T4 μ4 hJ hlj hT
  ·cases hok
 ·cases hok
theorem wR {T:Tm} {i:Nat} {k:IntKind} {n:Int} (h:aa T i=.int k n):T[i]? = some (.int k n):=by
 unfold aa at h
 rw [List.getD_eq_getElem?_getD] at h
 cases ht:T[i]? with
 | none=>rw [ht] at h; cases h
 | some v=>rw [ht] at h; exact congrArg some h
theorem Bi {μ2 μ4:Mu} {w:World} {T2 T4:Tm} {l:List Tm} {vs:List Value} (h2:LR μ2 F w T2 vs) (hm:T4∈l) (h4:LR μ4 F w T4 vs):LR μ2 F w (nN T2 l) vs:=by
 refine ⟨by unfold nN; simpa using h2.1,fun i c v hc hv=>?_⟩
 unfold nN at hc
 rw [List.getElem?_map,List.getElem?_zipIdx] at hc
 cases ht:T2[i]? with
 | none=>rw [ht] at hc; cases hc
 | some t =>
  rw [ht] at hc
  simp only [Option.map_some,Nat.zero_add,Option.some.injEq] at hc
  have hu:t ≠ .undef->c=t->VR μ2 F w c v:=fun _ e=>by rw [e]; exact h2.2 i t v ht hv
  cases t with
  | undef =>
   simp only at hc
   cases l with
   | nil=>cases hm
   | cons t0 ts =>
    simp only at hc
    split at hc
    ·rename_i k n hg
     split at hc
     ·rename_i hall
      subst hc
      have e4:aa T4 i=.int k n:=by
       rcases List.mem_cons.1 hm with rfl | hm
       ·exact hg
       ·exact AV.beq_eq _ _ (List.all_eq_true.1 hall T4 hm)
      have:=h4.2 i _ v (wR e4) hv
      cases this
      exact .int _ _
     ·subst hc; exact .undef v
    ·subst hc; exact .undef v
  | _=>exact hu (fun h=>by cases h) hc.symm
theorem qd {P:Program} {ρ:Operand->Value} {o:Oper} {nx:Nat} {vs:Array Value} {v:Value} {w:World} (ho:o.op=.extract (.tmp nx) 0) (hv:ρ (.tmp nx)=.tuple vs) (h0:vs[0]? = some v):(execOp ρ o).run P w=.ok (.value v) w:=by
 unfold execOp
 rw [ho]
 simp only [hv]
 refine bN ?_
 simp [Instr.extract,h0]
theorem qo {cal:iH} (hcal:gL P cal) {m:Nat} {rd:Bool} {i0 i1 i2 bid bid2 it nx ex en:Nat} {ops0 ops1 ops2:Array Oper} {pre os:List Oper} {x:Operand} {sx:Src} {rpre ros:List oF} {rest:Code} {arest:ACode} {W:List Nat}
  (h0:jX P ops0=some (pre,x,it)) (h1:jW ops1=some (it,nx,ex)) (h2:ie ops2=some (it,en,os)) (hne:bid≠bid2/\nx≠it/\ex≠it/\en≠it)
  (hpre:pre.mapM (ow P ops0)=some rpre) (hros:os.mapM (ow P ops2)=some ros) (hsx:bD x=some sx)
  (ih:∀ T H x T' H',aw cal m rd arest T H=some (x,T',H')->fz P rd rest T H x T' H')
  {T:Tm} {H:Heap} {xx:Ex} {T':Tm} {H':Heap} (hrun:aw cal m rd (.rangeM rpre sx it nx ex bid bid2 en ros arest W) T H=some (xx,T',H')) :
  fz P rd (.seq (.region i0 ops0 false) (.block bid (.loop (.seq (.region i1 ops1 false) (.seq (.cond (.tmp ex) .skip (.exit bid)) (.block bid2 (.seq (.region i2 ops2 false) rest))))))) T H xx T' H':=by
 intro fence n B μ F w a Q hF hB hS hQ
 simp only [aw] at hrun
 split at hrun
 ·cases hrun
 rename_i T1 H1 hrunP
 split at hrun
 rotate_left
 ·cases hrun
 rename_i b hxb
 split at hrun
 rotate_left
 ·cases hrun
 rename_i es hbE
 split at hrun
 rotate_left
 ·cases hrun
 rename_i hchk
 obtain ⟨hit,hnx,hex,hen⟩:=hchk
 have hit:=AV.beq_eq _ _ hit
 split at hrun
 ·cases hrun
 rename_i l hall
 have hH1e:H1=H':=by split at hrun <;> (cases hrun; rfl)
 subst hH1e
 obtain ⟨o,t,hops,ho1,ho2,ho3,hmapT⟩:=oQ h0
 obtain ⟨o1,o2,hops1,n1,n2,n3,e1,e2,e3⟩:=oP h1
 have hplen:pre.length=rpre.length:=by have:=(j4 _ _ hpre).1; omega
 have hsz:ops0.size=pre.length+1:=by rw [<- Array.length_toList,hops]; simp
 refine wpIn_seq (wpIn_region ?_)
 have hlist:List.range ops0.size=List.range' 0 pre.length++[pre.length]:=by rw [hsz,List.range_succ,List.range_eq_range']
 rw [hlist]
 refine kI hcal hF (n:=n) (ops:=ops0) (base:=H.next) (top:=H.next+pre.length) (tail:=[pre.length]) pre rpre 0 H.next μ { H with next:=H.next+(rpre.length+1) } w T a (fun k o' h=>?_) hpre hrunP (Nat.le_refl _) (Nat.le_refl _) (by show H.next+pre.length<=H.next+(rpre.length+1); omega)
  (fun j h1 _=>fu hS.hH (by omega)) hS.hT (hS.hH.bump _) (fun a1 w1 μ1 hd1 hT1 hH1 hS1=>?_)
 ·have hlt:=(List.getElem?_eq_some_iff.1 h).1
  have:ops0.toList[0+k]? = some o':=by rw [hops,Nat.zero_add,List.getElem?_append_left hlt]; exact h
  simpa using this
 have hid:μ1 (H.next+rpre.length)=none:=hS1.new _ (by show H.next+rpre.length<H.next+(rpre.length+1); omega) (by omega) (fu hS.hH (by omega))
 have hlt:H.next+rpre.length<H1.next:=by have:=hS1.next; show H.next+rpre.length<H1.next; have e:({ H with next:=H.next+(rpre.length+1) }:Heap).next=H.next+(rpre.length+1):=rfl; omega
 generalize hidn:H.next+rpre.length=id at *
 have hvx:=aK hT1 hsx
 rw [hxb] at hvx
 obtain ⟨L,hL,hxv⟩:∃ L,μ1 b=some L/\a1.eval x=.map (some L.blk):=by
  generalize a1.eval x=vx at hvx
  cases hvx with
  | map _ L hL=>exact ⟨L,hL,rfl⟩
 obtain ⟨L',hL',hE⟩:=hH1.ent b _ hbE
 rw [hL] at hL'; cases hL'
 obtain ⟨hnF,entries,clock,hmap,hk,hv,hborn⟩:=hE
 have hmb:L.blk<w1.heap.size:=(hH1.dom b L hL).2
 obtain ⟨kt,et,ht⟩:∃ kt et,P.underlying t=some (.map kt et):=by
  unfold zu at hmapT
  split at hmapT
  ·rename_i k e hk; exact ⟨k,e,hk⟩
  ·cases hmapT
 have hoi:ops0[pre.length]? = some o:=by
  have:ops0.toList[pre.length]? = some o:=by rw [hops]; simp
  simpa using this
 have hrange:Ai P a1 w1 o (.pointer (some ⟨w1.heap.size,0,none⟩)) (w1.alloc (.mapIter (some L.blk) clock #[] clock)):=by
  refine .inl ?_
  unfold execOp
  rw [ho1]
  simp only [hxv]
  exact bN (run_range_map w1 t kt et L.blk entries clock ht hmap)
 refine jZ hF hoi ho3 (fun c hc=>by rw [ho1] at hc; cases hc) hrange ?_
 rw [ho2]
 obtain ⟨μ2,hμ2⟩:∃ μ2,μ2=μ1.upd id ⟨w1.heap.size,0,0⟩:=⟨_,rfl⟩
 have hext:∀ b L,μ1 b=some L->μ2 b=some L:=by rw [hμ2]; exact dU hid
 have hμid:μ2 id=some ⟨w1.heap.size,0,0⟩:=by rw [hμ2]; exact upd_same _ _
 have hFk:∀ {w':World},(∀ c,c<w1.heap.size->w'.heap[c]? = w1.heap[c]?)->∀ c,F c->w'.heap[c]? = w1.heap[c]?:=fun h c hc=>h c (hH1.fb c hc)
 have hHw:∀ w',(∀ c,c<w1.heap.size->w'.heap[c]? = w1.heap[c]?)->w1.heap.size<w'.heap.size->HR P μ2 F H1 w':=fun w' hk hs=>by rw [hμ2]; exact Bz hH1 hid hlt hk hs
 have hkA:∀ c,c<w1.heap.size->(w1.alloc (.mapIter (some L.blk) clock #[] clock)).heap[c]? = w1.heap[c]?:=fun c hc=>gQ _ _ hc
 obtain ⟨T2,hT2⟩:∃ T2,T2=fE (nx :: ex :: en :: W) (T1.set it (.ptr id 0)):=⟨_,rfl⟩
 rw [<- hT2] at hit hall hrun
 have hlen2:T2.length=T1.length:=by rw [hT2,pU,List.length_set]
 have hund:∀ {i:Nat},i∈nx :: ex :: en :: W->i<T1.length->T2[i]? = some .undef:=fun h1 h2=>by rw [hT2]; exact yp h1 (by simpa using h2)
 have J0:RM B μ2 F w1 L.blk clock T2 #[] (a1.put (some it) (.pointer (some ⟨w1.heap.size,0,none⟩))) (w1.alloc (.mapIter (some L.blk) clock #[] clock)):=by
  refine ⟨heap_alloc_new w1 _,hkA,Tp.same rfl rfl,rfl,rfl,?_,?_⟩
  ·rw [hT2]
   exact rh (nQ (hT1.mono hext (fun _ h=>h) (hFk hkA)) (some it) (.ptr id 0 _ hμid))
  ·have hd:DM B μ1 F w1 a1.defers:=by rw [hd1]; exact hS.hD.stp hS1
   obtain ⟨Ds,g1,g2,g3⟩:=hd
   refine ⟨Ds,g1,g2,fun D hD=>?_⟩
   obtain ⟨k1,k2,k3,k4,k5⟩:=g3 D hD
   refine ⟨k1,by rw [World.size_alloc]; omega,(hkA D k2).trans k3,k4,fun b L hb=>?_⟩
   by_cases e:b=id
   ·subst e; rw [hμid] at hb; cases hb; show w1.heap.size≠D; omega
   ·rw [hμ2,aZ _ e] at hb; exact k5 b L hb
 have hBw1:B.1<=w1.heap.size:=Nat.le_trans hB hS1.size
 have hdone:∀ a' w' seen,RM B μ2 F w1 L.blk clock T2 seen a' w'->LR μ2 F w' T' a'.tmps.toList->Q (qM xx) a' w':=by
  intro a' w' seen J hTT
  have hlt':w1.heap.size<w'.heap.size:=(Array.getElem?_eq_some_iff.1 J.it).1
  have hne:∀ b e,H1.get b=some e->b≠id:=fun b e hb he=>by
   subst he
   obtain ⟨L,hL,_⟩:=hH1.ent _ e hb
   rw [hid] at hL; cases hL
  have hE:Stp (fun b=>H.next<=b) P μ1 F H1 w1 μ2 F H1 w' :=
   ⟨hext,fun _ h=>h,by omega,fun c hc _=>J.keep c hc,fun b L ⟨e,he,hr⟩ hb=>by
     rw [hμ2,aZ _ (hne b e he)] at hb
     exact .inr ⟨b,L,⟨e,he,hr⟩,hb,rfl⟩,Nat.le_refl _,fun b hb hi hn=>by
     rw [hμ2,aZ _ (by omega)]; exact hn,fun b L hb=>by
     by_cases e:b=id
     ·subst e; rw [hμid] at hb; cases hb; exact .inr (Nat.le_refl _)
     ·rw [hμ2,aZ _ e] at hb; exact .inl ⟨b,L,hb,rfl⟩,fun b e he _ _=>⟨e,he⟩,fun b e L he hb=>by
     rw [hμ2,aZ _ (hne b e he)] at hb
     exact .inr ⟨b,e,L,he,hb,rfl⟩,J.tape,J.os,J.out⟩
  have hst:Stp kA P μ F H w μ2 F H1 w':=z6 (Stp.refl _ _ _ _ _ _) ((hS1.mono fun b hb=>hb.1).trans hE)
  exact hQ a' w' μ2 ⟨hTT,hHw w' J.keep hlt',J.hD⟩ hst
 obtain ⟨hll,hla⟩:=j4 _ _ hall
 have hdone0:(∀ j r,l[j]? = some r->r=none)->xx=.nrm/\T'=T2:=fun hnone=>by
  have:l.filterMap (fun x=>x)=[]:=List.filterMap_eq_nil_iff.2 fun r hr=>by
   obtain ⟨j,hj⟩:=List.getElem?_of_mem hr
   exact hnone j r hj
  rw [this] at hrun
  cases hrun; exact ⟨rfl,rfl⟩
 have hdone1:∀ j T4,l[j]? = some (some T4)->xx=.ret/\∃ r,T4∈r/\T'=nN T2 r:=fun j T4 hj=>by
  have hm:T4∈l.filterMap (fun x=>x):=List.mem_filterMap.2 ⟨some T4,List.mem_of_getElem? hj,rfl⟩
  split at hrun
  ·rename_i he; rw [he] at hm; cases hm
  ·rename_i r hr
   cases hrun
   exact ⟨rfl,_,hm,rfl⟩
 have hel:entries.toList.length=es.length:=by have:=hk.1; simpa using this.symm
 refine wpIn_block (wpIn_loop (fun a w=>∃ seen,RM B μ2 F w1 L.blk clock T2 seen a w/\∀ (j:Nat) (e:MapEntry),entries.toList[j]? = some e->seen.contains e.born=true->l[j]? = some none) (fun _ w=>gw entries w1.heap.size w) ⟨#[],J0,fun j e _ h=>by simp at h⟩ fun a w ⟨seen,J,hs⟩=>?_)
 have hlw:w1.heap.size<w.heap.size:=(Array.getElem?_eq_some_iff.1 J.it).1
 have hsz1:ops1.size=2:=by rw [<- Array.length_toList,hops1]; rfl
 have hg0:ops1[0]? = some o1:=by
  have:ops1.toList[0]? = some o1:=by rw [hops1]; rfl
  simpa using this
 have hg1:ops1[1]? = some o2:=by
  have:ops1.toList[1]? = some o2:=by rw [hops1]; rfl
  simpa using this
 have htl:T2.length=a.tmps.size:=by have:=J.hT.1; simpa using this
 have hptr:a.eval (.tmp it)=.pointer (some ⟨w1.heap.size,0,none⟩):=by
  have:=np J.hT it
  rw [hit] at this
  obtain ⟨L,hL,hp⟩:=lx this
  rw [hμid] at hL; cases hL
  exact hp
 refine wpIn_seq (wpIn_region ?_)
 rw [hsz1]
 have step:∀ (tp:Array Value) (bv:Bool) (w':World),tp[0]? = some (.bool bv)->(Instr.next (.pointer (some ⟨w1.heap.size,0,none⟩)) false o1.type).run P w=.ok (.tuple tp) w' ->
   (∀ a',a'.defers=a.defers->a'.eval (.tmp ex)=.bool bv->(LR μ2 F w' T2 a.tmps.toList->LR μ2 F w' T2 a'.tmps.toList)->(Code.seq (.cond (.tmp ex) .skip (.exit bid)) (.block bid2 (.seq (.region i2 ops2 false) rest))).wpIn fence n P
    (Exit.then (fun a' w'=>(∃ seen,RM B μ2 F w1 L.blk clock T2 seen a' w'/\∀ (j:Nat) (e:MapEntry),entries.toList[j]? = some e->seen.contains e.born=true->l[j]? = some none)/\gw entries w1.heap.size w'<gw entries w1.heap.size w) (Exit.inBlock bid Q)) a' w') ->
   wpOpsIn fence n P ops1 (Exit.then ((Code.seq (.cond (.tmp ex) .skip (.exit bid)) (.block bid2 (.seq (.region i2 ops2 false) rest))).wpIn fence n P
    (Exit.then (fun a' w'=>(∃ seen,RM B μ2 F w1 L.blk clock T2 seen a' w'/\∀ (j:Nat) (e:MapEntry),entries.toList[j]? = some e->seen.contains e.born=true->l[j]? = some none)/\gw entries w1.heap.size w'<gw entries w1.heap.size w) (Exit.inBlock bid Q)))
    (Exit.then (fun a' w'=>(∃ seen,RM B μ2 F w1 L.blk clock T2 seen a' w'/\∀ (j:Nat) (e:MapEntry),entries.toList[j]? = some e->seen.contains e.born=true->l[j]? = some none)/\gw entries w1.heap.size w'<gw entries w1.heap.size w) (Exit.inBlock bid Q))) (List.range 2) a w:=by
  intro tp bv w' htp hrun hk
  show wpOpsIn fence n P ops1 _ [0,1] a w
  refine jZ hF hg0 n3 (fun c hc=>by rw [n1] at hc; cases hc) (u:=.tuple tp) (w':=w') (.inl ?_) ?_
  ·unfold execOp
   rw [n1]
   simp only [hptr]
   exact bN hrun
  rw [n2]
  have hnxs:nx<a.tmps.size:=by omega
  refine jZ hF hg1 e3 (fun c hc=>by rw [e1] at hc; cases hc) (.inl (qd e1 (r6 hnxs) htp)) ?_
  rw [e2]
  refine hk _ rfl (r6 (by simp [Act.put]; omega)) fun hT=>?_
  exact lD (lD hT (hund (by simp) (by omega))) (hund (by simp) (by omega))
 have hmapw:w.heap[L.blk]? = some (.map entries clock):=(J.keep _ hmb).trans hmap
 rcases run_next_at (P:=P) w o1.type w1.heap.size L.blk clock clock seen entries clock J.it hmapw hborn.1 (Nat.le_refl _) with ⟨hz,hover⟩ | ⟨e,he,wd,hwd,hnext⟩
 ·refine step _ false w rfl hover fun a' hd hev hT=>?_
  refine wpIn_seq (wpIn_cond_false hev (wpIn_exit ?_))
  show Exit.inBlock bid Q (.exit bid) a' w
  simp only [Exit.inBlock,if_true]
  have hnone:∀ j r,l[j]? = some r->r=none:=fun j r hj=>by
   have hjl:j<entries.toList.length:=by have:=(List.getElem?_eq_some_iff.1 hj).1; omega
   have he:=List.getElem?_eq_getElem hjl
   have hc:seen.contains entries.toList[j].born=true:=by
    have h2:leftOf entries seen = #[]:=Array.eq_empty_of_size_eq_zero hz
    unfold leftOf at h2
    have h3:=Array.filter_eq_empty_iff.1 h2 entries.toList[j] (by simp)
    simpa using h3
   have:=hs j _ he hc
   rw [hj] at this
   exact Option.some.inj this
  obtain ⟨rfl,rfl⟩:=hdone0 hnone
  exact hdone a' w seen ⟨J.it,J.keep,J.tape,J.os,J.out,hT J.hT,hd ▸ J.hD⟩ (hT J.hT)
 ·obtain ⟨hein,hnew⟩:=mem_left he
  have hdh:wd.heap=w.heap:=by rcases hwd with rfl | rfl <;> rfl
  obtain ⟨w',hw'⟩:∃ w',w'=ChangeMaps.setBlock wd w1.heap.size (.mapIter (some L.blk) clock (seen.push e.born) clock):=⟨_,rfl⟩
  rw [<- hw'] at hnext
  have hheap:w'.heap=w.heap.setIfInBounds w1.heap.size (.mapIter (some L.blk) clock (seen.push e.born) clock):=by rw [hw',<- hdh]; rfl
  have hother:∀ c,c≠w1.heap.size->w'.heap[c]? = w.heap[c]?:=fun c hc=>by rw [hheap,Array.getElem?_setIfInBounds_ne (Ne.symm hc)]
  have hself:w'.heap[w1.heap.size]? = some (.mapIter (some L.blk) clock (seen.push e.born) clock):=by rw [hheap]; simp [hlw]
  have hto:Tp w w'/\w'.os=w.os/\w'.output=w.output:=by rw [hw']; rcases hwd with rfl | rfl <;> exact ⟨by first | exact Tp.same rfl rfl | exact ⟨rfl,fun _=>Nat.le_succ _⟩,rfl,rfl⟩
  refine step _ true w' rfl hnext fun a' hd hev hT=>?_
  have hkeep:∀ c,c<w1.heap.size->w'.heap[c]? = w1.heap[c]?:=fun c hc=>(hother c (by omega)).trans (J.keep c hc)
  have hTw:LR μ2 F w' T2 a.tmps.toList:=J.hT.mono (fun _ _ h=>h) (fun _ h=>h) fun c hc=>hother c (by have:=hH1.fb c hc; omega)
  have hDw:DM B μ2 F w' a'.defers:=by
   rw [hd]
   refine J.hD.keep (by rw [hheap]; simp) fun D hD=>hother D fun e=>?_
   rw [e,J.it] at hD; cases hD
  have J':RM B μ2 F w1 L.blk clock T2 (seen.push e.born) a' w':=⟨hself,hkeep,J.tape.trans hto.1,hto.2.1.trans J.os,hto.2.2.trans J.out,hT hTw,hDw⟩
  refine wpIn_seq (wpIn_cond_true hev (wpIn_skip ?_))
  obtain ⟨j,hj⟩:=List.getElem?_of_mem hein
  refine rv hcal hF (B:=B) (μ2:=μ2) (w1:=w1) (id:=id) (mb:=L.blk) (clock:=clock) (en:=en) (bid2:=bid2) (W:=nx :: ex :: en :: W) (T2:=T2) (H1:=H1) h2 hros ih hit hμid hBw1 hall hmb hmap hborn.2
   (hk.mono hext (fun _ h=>h) fun _ _=>rfl) (hv.mono hext (fun _ h=>h) fun _ _=>rfl) hH1.fb hj J' hHw (fun a4 w4 J4 hlj=>?_) (fun a4 w4 T4 μ4 J4 hlj hT4=>?_)
  ·refine ⟨⟨_,J4,fun j' e' hj' hc=>?_⟩,?_⟩
   ·rw [Array.contains_push] at hc
    rcases Bool.or_eq_true_iff.1 hc with hc | hc
    ·exact hs j' e' hj' hc
    ·have hbe:e'.born=e.born:=by simpa using hc
     have:j'=j:=by
      have hnd:=hborn.2
      have g1:(entries.toList.map (·.born))[j']? = some e'.born:=by rw [List.getElem?_map,hj']; rfl
      have g2:(entries.toList.map (·.born))[j]? = some e'.born:=by rw [List.getElem?_map,hj,hbe]; rfl
      exact (List.getElem?_inj (List.getElem?_eq_some_iff.1 g1).1 hnd).1 (g1.trans g2.symm)
     rw [this]; exact hlj
   ·unfold gw
    rw [J4.it,J.it]
    exact left_shrinks entries seen e he
  ·obtain ⟨rfl,r,hm,rfl⟩:=hdone1 j T4 hlj
   have:=hdone a4 w4 _ J4 (Bi J4.hT hm hT4)
   exact this
end
section
variable {P:Program} {μ:Mu} {F:Nat->Prop} {H:Heap} {w:World} {T:Tm} {a:Act} {B:Nat × List Deferred}
theorem oe {cal:iH} {m:Nat} {rd:Bool} {c:Code} {ac:ACode} (hc:∀ T H x T' H',aw cal m rd ac T H=some (x,T',H')->fz P rd c T H x T' H') :
  ∀ (k:Nat) (T:Tm) (H:Heap) (x:Ex) (T':Tm) (H':Heap),og (aw cal m rd ac) k T H=some (x,T',H') ->
  ∀ (fence:Fence) (n:Nat) (B:Nat × List Deferred) (μ:Mu) (F:Nat->Prop) (w:World) (a:Act) (Q:Exit->Act->World->Prop),FenceOK fence rd->B.1<=w.heap.size->xO P B μ F H w T a ->
  (∀ a' w' μ',xO P B μ' F H' w' T' a'->Stp kA P μ F H w μ' F H' w'->Q (qM x) a' w')->x ≠ .nrm/\Code.roundsIn fence n P c Q k a w
 | 0,T,H,x,T',H',h=>by cases h
 | k+1,T,H,x,T',H',h=>by
  intro fence n B μ F w a Q hF hB hS hQ
  simp only [og] at h
  split at h
  ·rename_i T1 H1 h1
   refine ⟨?_,?_⟩
   ·
    have key:∀ (k:Nat) (T:Tm) (H:Heap) (x:Ex) (T':Tm) (H':Heap),og (aw cal m rd ac) k T H=some (x,T',H')->x ≠ .nrm:=by
     intro k
     induction k with
     | zero=>intro T H x T' H' h; cases h
     | succ k ih =>
      intro T H x T' H' h
      simp only [og] at h
      split at h
      ·exact ih _ _ _ _ _ h
      ·rename_i hne
       intro e
       subst e
       exact hne _ _ h
    exact key _ _ _ _ _ _ h
   ·rw [roundsIn_succ]
    refine hc T H _ _ _ h1 fence n B μ F w a _ hF hB hS fun a' w' μ' hS' hst=>?_
    exact (oe hc k T1 H1 x T' H' h fence n B μ' F w' a' Q hF (Nat.le_trans hB hst.size) hS' fun a2 w2 μ2 hS2 hst2=>hQ a2 w2 μ2 hS2 (hst.trans hst2)).2
  ·rename_i hne
   have hx:x ≠ .nrm:=fun e=>by subst e; exact hne _ _ h
   refine ⟨hx,?_⟩
   rw [roundsIn_succ]
   refine hc T H _ _ _ h fence n B μ F w a _ hF hB hS fun a' w' μ' hS' hst=>?_
   have:=hQ a' w' μ' hS' hst
   cases x <;> first | exact this | exact absurd rfl hx
theorem rF (hH:HR P μ F H w) (o:Obj):HR P μ F H (w.alloc o)/\Stp kA P μ F H w μ F H (w.alloc o):=by
 have hw:∀ c,c<w.heap.size->(w.alloc o).heap[c]? = w.heap[c]?:=fun c hc=>gQ _ _ hc
 have hsz:(w.alloc o).heap.size=w.heap.size+1:=by simp
 refine ⟨⟨fun b L hb=>?_,fun c hc=>?_,fun b e hb=>?_,hH.inj,fun g cs hg=>(hH.gl g cs hg).mono (fun _ _ h=>h) (fun _ h=>h) fun c hc=>hw c (hH.fb c hc)⟩,⟨fun _ _ h=>h,fun _ h=>h,by omega,fun c hc _=>hw c hc,fun b L hb hL=>.inr ⟨b,L,hb,hL,rfl⟩,Nat.le_refl _,fun _ _ _ h=>h,fun b L h=>.inl ⟨b,L,h,rfl⟩,fun b e h _ _=>⟨e,h⟩,fun b e L h hL=>.inr ⟨b,e,L,h,hL,rfl⟩,Tp.same rfl rfl,rfl,rfl⟩⟩
 ·have:=hH.dom b L hb; exact ⟨this.1,by omega⟩
 ·have:=hH.fb c hc; omega
 ·obtain ⟨L,hL,hE⟩:=hH.ent b e hb
  exact ⟨L,hL,hE.mono (fun _ _ h=>h) (fun _ h=>h) (fun c hc=>hw c (hH.fb c hc)) (hw _ (hH.dom b L hL).2) (fun hr=>hE.notF hr)⟩
theorem mw (c1 c2:Code):(∃ i0 ops0 bid i1 ops1 ex bid' bid2 i2 ops2 rest,c1=.region i0 ops0 false/\c2=.block bid (.loop (.seq (.region i1 ops1 false) (.seq (.cond (.tmp ex) .skip (.exit bid')) (.block bid2 (.seq (.region i2 ops2 false) rest)))))) \/
  aY P (.seq c1 c2)=(do some (.seq (<- aY P c1) (<- aY P c2))):=by
 by_cases h:∃ i0 ops0 bid i1 ops1 ex bid' bid2 i2 ops2 rest,c1=.region i0 ops0 false/\c2=.block bid (.loop (.seq (.region i1 ops1 false) (.seq (.cond (.tmp ex) .skip (.exit bid')) (.block bid2 (.seq (.region i2 ops2 false) rest)))))
 ·exact .inl h
 ·refine .inr ?_
  rw [aY]
  intro i0 ops0 bid i1 ops1 ex bid' bid2 i2 ops2 rest h1 h2
  exact h ⟨i0,ops0,bid,i1,ops1,ex,bid',bid2,i2,ops2,rest,h1,h2⟩
theorem od {c:Code} {ac:ACode} (h:aY P c=some ac):(ac=.ret->c=.ret)/\(∀ id,ac=.exit id->c=.exit id)/\(∀ l,ac=.goto l->c=.goto l):=by
 have no:∀ {ac:ACode},ac ≠ .ret->(∀ id,ac ≠ .exit id)->(∀ l,ac ≠ .goto l)->(ac=.ret->c=.ret)/\(∀ id,ac=.exit id->c=.exit id)/\(∀ l,ac=.goto l->c=.goto l) :=
  fun h1 h2 h3=>⟨fun h=>absurd h h1,fun id h=>absurd h (h2 id),fun l h=>absurd h (h3 l)⟩
 cases c with
 | ret=>cases h; exact ⟨fun _=>rfl,fun id h=>(by cases h),fun l h=>(by cases h)⟩
 | exit id=>cases h; exact ⟨fun h=>(by cases h),fun id h=>(by cases h; rfl),fun l h=>(by cases h)⟩
 | goto l=>cases h; exact ⟨fun h=>(by cases h),fun id h=>(by cases h),fun l h=>(by cases h; rfl)⟩
 | skip=>cases h; exact no (fun h=>by cases h) (fun id h=>by cases h) (fun l h=>by cases h)
 | label l=>cases h; exact no (fun h=>by cases h) (fun id h=>by cases h) (fun l h=>by cases h)
 | refuse w=>cases h; exact no (fun h=>by cases h) (fun id h=>by cases h) (fun l h=>by cases h)
 | region i ops d =>
  simp only [aY] at h
  split at h
  ·split at h
   ·cases h; exact no (fun h=>by cases h) (fun id h=>by cases h) (fun l h=>by cases h)
   ·cases h; exact no (fun h=>by cases h) (fun id h=>by cases h) (fun l h=>by cases h)
  ·simp only [Option.map_eq_some_iff] at h
   obtain ⟨_,_,h⟩:=h
   subst h; exact no (fun h=>by cases h) (fun id h=>by cases h) (fun l h=>by cases h)
 | seq c1 c2 =>
  rcases mw (P:=P) c1 c2 with ⟨i0,ops0,bid,i1,ops1,ex,bid',bid2,i2,ops2,rest,rfl,rfl⟩ | he
  ·simp only [aY] at h
   split at h
   ·split at h
    ·simp only [Option.bind_eq_bind,Option.bind_eq_some_iff] at h
     obtain ⟨_,_,_,_,_,_,_,_,h⟩:=h
     cases h; exact no (fun h=>by cases h) (fun id h=>by cases h) (fun l h=>by cases h)
    ·cases h; exact no (fun h=>by cases h) (fun id h=>by cases h) (fun l h=>by cases h)
   ·simp only [Option.bind_eq_bind,Option.bind_eq_some_iff] at h
    obtain ⟨_,_,_,_,h⟩:=h
    cases h; exact no (fun h=>by cases h) (fun id h=>by cases h) (fun l h=>by cases h)
  ·rw [he] at h
   simp only [Option.bind_eq_bind,Option.bind_eq_some_iff] at h
   obtain ⟨_,_,_,_,h⟩:=h
   cases h; exact no (fun h=>by cases h) (fun id h=>by cases h) (fun l h=>by cases h)
 | cond c a b =>
  simp only [aY,Option.bind_eq_bind,Option.bind_eq_some_iff] at h
  obtain ⟨_,_,_,_,_,_,h⟩:=h
  cases h; exact no (fun h=>by cases h) (fun id h=>by cases h) (fun l h=>by cases h)
 | block i a =>
  simp only [aY,Option.bind_eq_bind,Option.bind_eq_some_iff] at h
  obtain ⟨_,_,h⟩:=h
  cases h; exact no (fun h=>by cases h) (fun id h=>by cases h) (fun l h=>by cases h)
 | loop a =>
  simp only [aY,Option.bind_eq_bind,Option.bind_eq_some_iff] at h
  obtain ⟨_,_,h⟩:=h
  cases h; exact no (fun h=>by cases h) (fun id h=>by cases h) (fun l h=>by cases h)
 | scope a =>
  simp only [aY,Option.bind_eq_bind,Option.bind_eq_some_iff] at h
  obtain ⟨_,_,h⟩:=h
  cases h
  unfold p9
  split
  ·split
   ·exact no (fun h=>by cases h) (fun id h=>by cases h) (fun l h=>by cases h)
   ·exact no (fun h=>by cases h) (fun id h=>by cases h) (fun l h=>by cases h)
  ·exact no (fun h=>by cases h) (fun id h=>by cases h) (fun l h=>by cases h)
 | rangeFunc f ps a b =>
  simp only [aY,Option.bind_eq_bind,Option.bind_eq_some_iff] at h
  obtain ⟨_,_,_,_,_,_,h⟩:=h
  cases h; exact no (fun h=>by cases h) (fun id h=>by cases h) (fun l h=>by cases h)
theorem Bh {c:Code} (h:aY P c=some .ret):c=.ret:=(od h).1 rfl
theorem zB {c:Code} {id:Nat} (h:aY P c=some (.exit id)):c=.exit id:=(od h).2.1 id rfl
theorem zx {c:Code} {id:Nat} (h:aY P c=some (.goto id)):c=.goto id:=(od h).2.2 id rfl
theorem jf {cal:iH} (hcal:gL P cal) {fence:Fence} (hF:FenceOK fence false) {n:Nat} {g:Operand} {ps:Array Tmp} {asg body:Code} {s:Src} {a1 a2:ACode} (hs:bD g=some s) (h1:aY P asg=some a1) (h2:aY P body=some a2)
  {fi:Nat} {args:List AV} {v:AV} {H2:Heap} (ht:gE (s.ev T) [.loopv H.next]=some (.fn fi args))
  (hrun:cal (.ent fi args) (({ H with next:=H.next+1 }:Heap).put H.next (.loop T ps.toList a1 a2 .ready none))=some (v,H2)) (hB:B.1<=w.heap.size) (hS:xO P B μ F H w T a) {Q:Exit->Act->World->Prop}
  (hend:∀ T' ps' b1 b2 st pe,H2.get H.next=some (.loop T' ps' b1 b2 st pe)->st ≠ .busy/\∀ (r:Option Code),(match pe,r with | none,none=>True | some c,some c'=>aY P c'=some c | _,_=>False) ->
   ∀ a' w' μ',xO P B μ' F (H2.kill H.next) w' T a'->Stp kA P μ F H w μ' F (H2.kill H.next) w'->(match r with | none=>Q .normal a' w' | some c=>c.wpIn fence n P Q a' w'))
  (hex:∃ T' ps' b1 b2 st pe,H2.get H.next=some (.loop T' ps' b1 b2 st pe)):(Code.rangeFunc g ps asg body).wpIn fence n P Q a w:=by
 refine wpIn_rangeFunc fun fn _=>?_
 have hro:fence.round=none:=by
  rcases hF with ⟨_,rfl⟩ | ⟨h,_⟩; · rfl
  ·cases h
 obtain ⟨hA1,hA2⟩:=rF hS.hH (.deferred (some []))
 obtain ⟨rec,hrec⟩:∃ rec:Loop,rec = { state:=.ready,pending:=none,fn,tmps:=a.tmps,params:=ps,assign:=asg,body,defers:=w.heap.size }:=⟨_,rfl⟩
 have hszA:(w.alloc (.deferred (some []))).heap.size=w.heap.size+1:=by simp
 have hid:μ H.next=none:=fu hS.hH (Nat.le_refl _)
 obtain ⟨hN1,hN2⟩:=iQ (I:=fun b=>b=H.next) (hA1.bump 1) hid (Nat.lt_succ_self _) (.loop rec) (.loop T ps.toList a1 a2 .ready none) 0 0 (fun w' hw hn hnF=>by
  refine ⟨hnF,rec,hn,by rw [hrec],?_,by rw [hrec],by rw [hrec]; exact h1,by rw [hrec]; exact h2,by rw [hrec]; trivial⟩
  rw [hrec]
  exact ((hA2.lr hS.hH hS.hT).mono (dU hid) (fun _ h=>h) hw)) rfl (w.alloc (.deferred (some []))) rfl (Tp.same rfl rfl) rfl rfl
 rw [hszA] at hN1 hN2
 have hN3:Stp kA P μ F H w (μ.upd H.next ⟨w.heap.size+1,0,0⟩) F (({ H with next:=H.next+1 }:Heap).put H.next (.loop T ps.toList a1 a2 .ready none)) ((w.alloc (.deferred (some []))).alloc (.loop rec)) :=
  hA2.trans ⟨hN2.mu,hN2.fr,hN2.size,hN2.keep,hN2.rw,Nat.le_trans (Nat.le_succ _) hN2.next,fun b hb _ hn=>hN2.new b (Nat.lt_succ_of_lt hb) (fun e=>by have e:b=H.next:=e; omega) hn,hN2.rng,fun b e hb hl _=>hN2.old b e hb (Nat.lt_succ_of_lt hl) (fun e=>by have e:b=H.next:=e; omega),hN2.alv,hN2.tape,hN2.os,hN2.out⟩
 have hDM:DM B (μ.upd H.next ⟨w.heap.size+1,0,0⟩) F ((w.alloc (.deferred (some []))).alloc (.loop rec)) ([{ target:=.collected w.heap.size,args:=#[] }]++a.defers):=by
  obtain ⟨Ds,e1,e2,e3⟩:=hS.hD.stp hN3
  obtain ⟨Ds0,f1,f2,f3⟩:=hS.hD
  have hlt:∀ D∈Ds,D<w.heap.size:=by
   intro D hD
   have hm:({ target:=.collected D,args:=#[] }:Deferred)∈Ds0.map (fun D=>({ target:=.collected D,args:=#[] }:Deferred)):=by
    rw [<- List.append_cancel_right (e1.symm.trans f1)]
    exact List.mem_map.2 ⟨D,hD,rfl⟩
   obtain ⟨D0,hD0,he⟩:=List.mem_map.1 hm
   have:D0=D:=by injection he with he _; injection he
   subst this
   exact (f3 D0 hD0).2.1
  refine ⟨w.heap.size :: Ds,by simp [e1],List.nodup_cons.2 ⟨fun h=>Nat.lt_irrefl _ (hlt _ h),e2⟩,fun D hD=>?_⟩
  rcases List.mem_cons.1 hD with rfl | hD
  ·refine ⟨hB,by rw [World.size_alloc,World.size_alloc]; omega,?_,fun h=>by have:=hS.hH.fb _ h; omega,fun b L hb=>?_⟩
   ·rw [gQ _ _ (by simp)]; exact World.alloc_heap_new w _
   ·by_cases e:b=H.next
    ·subst e; simp at hb; subst hb; simp
    ·rw [aZ _ e] at hb; have:=(hS.hH.dom b L hb).2; omega
  ·exact e3 D hD
 have hv:=aK hS.hT hs
 have hv':=hN3.vr hS.hH hv
 have hloop:LR (μ.upd H.next ⟨w.heap.size+1,0,0⟩) F ((w.alloc (.deferred (some []))).alloc (.loop rec)) [.loopv H.next] [.func (.yield (w.heap.size+1)) #[] #[]]:=LR.cons (.loopv _ _ (upd_same _ _)) LR.nil
 generalize hfv:s.ev T=fv at ht hv'
 cases fv <;> simp only [gE] at ht <;> first | (cases ht; done) | skip
 rename_i ff first cap
 cases ff <;> simp only at ht <;> first | (cases ht; done) | skip
 cases ht
 generalize hgv:a.eval g=gv at hv'
 cases hv' with
 | fn _ _ _ us vs' k1 k2 k3 k4 =>
 have hl:=((LR.of_agg k1 k2).append hloop).append (LR.of_agg k3 k4)
 obtain ⟨hent,hruns⟩:=hcal _ _ _ _ hrun _ F _ _ fence false (n-1) hF hN1 hl (fun b args e=>by cases e)
 have hent:=hent _ _ rfl
 simp only [iq,hent,Runs] at hruns
 refine ⟨w.heap.size+1,[{ target:=.collected w.heap.size,args:=#[] }],(w.alloc (.deferred (some []))).alloc (.loop rec),{ target:=.fn (.func fi) vs',args:=us ++ #[.func (.yield (w.heap.size+1)) #[] #[]] },(w.alloc (.deferred (some []))).alloc (.loop rec),
  _,_,_,?_,?_,fun f' _=>hF.fn f',?_,hF.depth n,hruns.mono fun e w3 ⟨u,he,μ3,hdone⟩=>?_⟩
 ·rw [hro,hrec]; exact run_enterLoop_outer _ _ _ _ _
 ·have e:(#[Operand.const (Value.func (.yield (w.heap.size+1)) #[] #[])]).map a.eval = #[Value.func (.yield (w.heap.size+1)) #[] #[]]:=by simp only [List.map_toArray,List.map_cons,List.map_nil]; rfl
  simp only [resolve,hgv,Deferred.ofValue,e,Sem.run_pure]
 ·have e:(us ++ #[Value.func (.yield (w.heap.size+1)) #[] #[]]++vs')=(us.toList++[Value.func (.yield (w.heap.size+1)) #[] #[]]++vs'.toList).toArray:=by apply Array.ext'; simp
  simp only [invoke,e]
  exact hent
 ·subst he
  obtain ⟨T',ps',b1,b2,st,pe,hget⟩:=hex
  obtain ⟨hbusy,hfin⟩:=hend T' ps' b1 b2 st pe hget
  obtain ⟨L,hL,hE⟩:=hdone.heap.ent _ _ hget
  have hL':=hdone.stp.mu _ _ (upd_same (μ:=μ) H.next ⟨w.heap.size+1,0,0⟩)
  rw [hL'] at hL; cases hL
  obtain ⟨hnF,r,g1,g2,g3,g4,g5,g6,g7⟩:=hE
  simp only at g1
  have hlt:=(Array.getElem?_eq_some_iff.1 g1).1
  obtain ⟨q1,q2⟩:=gg (I:=kA) (e:=.loop T' ps' b1 b2 .exhausted pe) hdone.heap hget rfl hL' (w3.putObj (w.heap.size+1) (.loop { r with state:=.exhausted })) (fun c hc=>World.putObj_heap_other hc) (by simp [World.putObj]) (Tp.same rfl rfl) rfl rfl
   (fun hw=>⟨hnF,_,World.putObj_heap_same hlt,rfl,g3.mono (fun _ _ h=>h) (fun _ h=>h) hw,g4,g5,g6,g7⟩) rfl
  obtain ⟨q3,q4⟩:=ob (I:=kA) q1 H.next
  have hgg:∀ x,((H2.put H.next (.loop T' ps' b1 b2 .exhausted pe)).kill H.next).get x=(H2.kill H.next).get x:=by
   intro x; simp only [Heap.get_kill,Heap.get_put]; split <;> rfl
  have q5:=q3.congr (H2:=H2.kill H.next) rfl hgg
  have q6:Stp kA P μ F H w μ3 F (H2.kill H.next) (w3.putObj (w.heap.size+1) (.loop { r with state:=.exhausted })) :=
   (hN3.trans (hdone.stp.trans (q2.trans q4))).congr rfl fun x e he=>⟨e,by rw [hgg]; exact he,rfl⟩
  refine ⟨r.pending,_,run_endLoop g1 (by rw [g2]; exact hbusy),?_⟩
  have hSt:xO P B μ3 F (H2.kill H.next) (w3.putObj (w.heap.size+1) (.loop { r with state:=.exhausted })) T { a with defers:=[{ target:=.collected w.heap.size,args:=#[] }]++a.defers } :=
   ⟨q6.lr hS.hH hS.hT,q5,(hDM.stp hdone.stp).stp (q2.trans q4)⟩
  exact hfin r.pending g7 _ _ μ3 hSt q6
theorem bV {P:Program} {b:Frame} {a:Act} {k:List Item} {cs:List Frame} {w:World} {c:Code}:step P (lone (b.atR a (.code (.scope c) :: k)) cs w)=.next (lone (b.atR a (.code c :: .inScope c :: k)) cs w) :=
 step_lone_go (by simp [stepG,stepG.exec,Frame.atR])
theorem iK {P:Program} {b:Frame} {a:Act} {k:List Item} {cs:List Frame} {w:World} {c:Code}:step P (lone (b.atR a (.inScope c :: k)) cs w)=.next (lone (b.atR a k) cs w) :=
 step_lone_go (by simp [stepG,stepG.exec,Frame.atR])
theorem sT {P:Program} {F:Fence} {n:Nat} {a:Act} {w:World} {Q:Exit->Act->World->Prop} {c:Code} (h:c.wpIn F n P (Exit.noGoto Q) a w):(Code.scope c).wpIn F n P Q a w:=by
 intro b k cs hro hb hr
 have h0:(lone (b.atR a (.code (.scope c) :: k)) cs w).fenced P F:=fenced_calm hb hr rfl
 obtain ⟨e,a₁,w₁,hq,harr⟩:=h b (.inScope c :: k) cs hro hb hr
 cases e with
 | normal=>exact ⟨.normal,a₁,w₁,hq,.head h0 bV (StepsIn.trans harr (.one (fenced_calm hb hr rfl) iK))⟩
 | exit id' =>
  have hx:exitTo id' (.inScope c :: k)=exitTo id' k:=by simp [exitTo]
  exact ⟨.exit id',a₁,w₁,hq,fun k' hk=>.head h0 bV (harr.1 k' (by rw [hx]; exact hk)),
   fun hr' hk=>let ⟨k₁,h1,h2⟩:=harr.2 hr' (by rw [hx]; exact hk); ⟨k₁,h1,.head h0 bV h2⟩⟩
 | goto l=>exact hq.elim
 | ret=>exact ⟨_,a₁,w₁,hq,.of_steps (.one h0 bV) harr⟩
 | panic ch=>exact ⟨_,a₁,w₁,hq,.of_steps (.one h0 bV) harr⟩
 | outgrown=>exact ⟨_,a₁,w₁,hq,.of_steps (.one h0 bV) harr⟩
theorem kC {cal:iH} {m:Nat} {rd:Bool} {T:Tm} {H:Heap}:aw cal m rd rp T H=none:=by
 unfold rp
 simp only [aw]
 split <;> rfl
def zr (l:Nat) (J:Act->World->Prop) (Q:Exit->Act->World->Prop):Exit->Act->World->Prop
 | .goto l',a,w=>l'=l/\J a w
 | e,a,w=>Q e a w
def ra (F:Fence) (n:Nat) (P:Program) (c rest:Code) (Q:Exit->Act->World->Prop) (a:Act) (w:World):Prop :=
 ∀ (b:Frame) (k:List Item) (cs:List Frame),b.roundOf=F.round->F.fn b.fn->F.room (cs.length+1+n) ->
  ∃ e a' w',Q e a' w'/\ArrivesIn (Machine.fenced P F) P (lone (b.atR a (.code rest :: .inScope c :: k)) cs w) b k cs e a' w'
theorem wl {P:Program} {F:Fence} {n:Nat} {a:Act} {w:World} {Q:Exit->Act->World->Prop} {c rest:Code} {l:Nat} (hf:findLabel c l=some rest) (h:rest.wpIn F n P (zr l (ra F n P c rest Q) Q) a w):ra F n P c rest Q a w:=by
 intro b k cs hro hb hr
 have hg:gotoIn l (.inScope c :: k)=some (.code rest :: .inScope c :: k):=by simp [gotoIn,hf]
 obtain ⟨e,a₁,w₁,hq,harr⟩:=h b (.inScope c :: k) cs hro hb hr
 cases e with
 | normal=>exact ⟨.normal,a₁,w₁,hq,StepsIn.trans harr (.one (fenced_calm hb hr rfl) iK)⟩
 | exit id' =>
  have hx:exitTo id' (.inScope c :: k)=exitTo id' k:=by simp [exitTo]
  exact ⟨.exit id',a₁,w₁,hq,fun k' hk=>harr.1 k' (by rw [hx]; exact hk),fun hr' hk=>harr.2 hr' (by rw [hx]; exact hk)⟩
 | goto l' =>
  obtain ⟨rfl,hJ⟩:=hq
  obtain ⟨e₂,a₂,w₂,hq₂,harr₂⟩:=hJ b k cs hro hb hr
  exact ⟨e₂,a₂,w₂,hq₂,.of_steps (harr.1 _ hg) harr₂⟩
 | ret=>exact ⟨_,a₁,w₁,hq,harr⟩
 | panic ch=>exact ⟨_,a₁,w₁,hq,harr⟩
 | outgrown=>exact ⟨_,a₁,w₁,hq,harr⟩
theorem rg {P:Program} {F:Fence} {n:Nat} {a:Act} {w:World} {Q:Exit->Act->World->Prop} {c rest:Code} {l:Nat} (hf:findLabel c l=some rest) (h:c.wpIn F n P (zr l (ra F n P c rest Q) Q) a w):(Code.scope c).wpIn F n P Q a w:=by
 intro b k cs hro hb hr
 have hg:gotoIn l (.inScope c :: k)=some (.code rest :: .inScope c :: k):=by simp [gotoIn,hf]
 have h0:(lone (b.atR a (.code (.scope c) :: k)) cs w).fenced P F:=fenced_calm hb hr rfl
 obtain ⟨e,a₁,w₁,hq,harr⟩:=h b (.inScope c :: k) cs hro hb hr
 cases e with
 | normal=>exact ⟨.normal,a₁,w₁,hq,.head h0 bV (StepsIn.trans harr (.one (fenced_calm hb hr rfl) iK))⟩
 | exit id' =>
  have hx:exitTo id' (.inScope c :: k)=exitTo id' k:=by simp [exitTo]
  exact ⟨.exit id',a₁,w₁,hq,fun k' hk=>.head h0 bV (harr.1 k' (by rw [hx]; exact hk)),
   fun hr' hk=>let ⟨k₁,h1,h2⟩:=harr.2 hr' (by rw [hx]; exact hk); ⟨k₁,h1,.head h0 bV h2⟩⟩
 | goto l' =>
  obtain ⟨rfl,hJ⟩:=hq
  obtain ⟨e₂,a₂,w₂,hq₂,harr₂⟩:=hJ b k cs hro hb hr
  exact ⟨e₂,a₂,w₂,hq₂,.of_steps (.head h0 bV (harr.1 _ hg)) harr₂⟩
 | ret=>exact ⟨_,a₁,w₁,hq,.of_steps (.one h0 bV) harr⟩
 | panic ch=>exact ⟨_,a₁,w₁,hq,.of_steps (.one h0 bV) harr⟩
 | outgrown=>exact ⟨_,a₁,w₁,hq,.of_steps (.one h0 bV) harr⟩
theorem mK {cal:iH} {m:Nat} {rd:Bool} {c rest:Code} {ar:ACode} {l:Nat} (hf:findLabel c l=some rest) (hc:∀ T H x T' H',aw cal m rd ar T H=some (x,T',H')->fz P rd rest T H x T' H') :
  ∀ (k:Nat) (T:Tm) (H:Heap) (x:Ex) (T':Tm) (H':Heap),uW l (aw cal m rd ar) k T H=some (x,T',H') ->
  ∀ (fence:Fence) (n:Nat) (B:Nat × List Deferred) (μ:Mu) (F:Nat->Prop) (w:World) (a:Act) (Q:Exit->Act->World->Prop),FenceOK fence rd->B.1<=w.heap.size->xO P B μ F H w T a ->
  (∀ a' w' μ',xO P B μ' F H' w' T' a'->Stp kA P μ F H w μ' F H' w'->Q (qM x) a' w')->ra fence n P c rest Q a w
 | 0,T,H,x,T',H',h=>by cases h
 | k+1,T,H,x,T',H',h=>by
  intro fence n B μ F w a Q hF hB hS hQ
  simp only [uW] at h
  refine wl hf ?_
  split at h
  ·rename_i l' T1 H1 h1
   split at h
   ·rename_i e
    subst e
    refine hc T H _ _ _ h1 fence n B μ F w a _ hF hB hS fun a' w' μ' hS' hst=>⟨rfl,?_⟩
    exact mK hf hc k T1 H1 x T' H' h fence n B μ' F w' a' Q hF (Nat.le_trans hB hst.size) hS' fun a2 w2 μ2 hS2 hst2=>hQ a2 w2 μ2 hS2 (hst.trans hst2)
   ·cases h
  ·rename_i hne
   refine hc T H _ _ _ h fence n B μ F w a _ hF hB hS fun a' w' μ' hS' hst=>?_
   have:=hQ a' w' μ' hS' hst
   cases x with
   | goto l'=>exact absurd h (hne _ _ _)
   | _=>exact this
theorem vX {cal:iH} {m:Nat} {rd:Bool} {c1 c2:Code} {a1 a2:ACode} (h1:∀ T H x T' H',aw cal m rd a1 T H=some (x,T',H')->fz P rd c1 T H x T' H') (h2:∀ T H x T' H',aw cal m rd a2 T H=some (x,T',H')->fz P rd c2 T H x T' H')
  (T:Tm) (H:Heap) (x:Ex) (T':Tm) (H':Heap) (h:aw cal m rd (.seq a1 a2) T H=some (x,T',H')):fz P rd (.seq c1 c2) T H x T' H':=by
 intro fence n B μ F w a Q hF hB hS hQ
 simp only [aw] at h
 refine wpIn_seq ?_
 split at h
 ·rename_i T1 H1 hrun
  refine h1 T H _ _ _ hrun fence n B μ F w a _ hF hB hS fun a' w' μ' hS' hst=>?_
  exact h2 T1 H1 _ _ _ h fence n B μ' F w' a' Q hF (Nat.le_trans hB hst.size) hS' fun a2 w2 μ2 hS2 hst2=>hQ a2 w2 μ2 hS2 (hst.trans hst2)
 ·rename_i hne
  refine h1 T H _ _ _ h fence n B μ F w a _ hF hB hS fun a' w' μ' hS' hst=>?_
  have:=hQ a' w' μ' hS' hst
  cases x <;> first | exact this | exact absurd h (hne _ _)
theorem wN {c:Code} {ac:ACode} (h:aY P c=some ac):(∃ c1 c2,c=.seq c1 c2)\/(∃ l,c=.label l)\/∀ l,bA ac l=none:=by
 cases c with
 | seq c1 c2=>exact .inl ⟨c1,c2,rfl⟩
 | label l=>exact .inr (.inl ⟨l,rfl⟩)
 | ret=>cases h; exact .inr (.inr fun l=>rfl)
 | exit id=>cases h; exact .inr (.inr fun l=>rfl)
 | goto l=>cases h; exact .inr (.inr fun l=>rfl)
 | skip=>cases h; exact .inr (.inr fun l=>rfl)
 | refuse w=>cases h; exact .inr (.inr fun l=>rfl)
 | region i ops d =>
  right; right
  simp only [aY] at h
  split at h
  ·split at h
   ·cases h; exact fun l=>rfl
   ·cases h; exact fun l=>rfl
  ·simp only [Option.map_eq_some_iff] at h
   obtain ⟨_,_,h⟩:=h
   subst h; exact fun l=>rfl
 | cond c a b =>
  simp only [aY,Option.bind_eq_bind,Option.bind_eq_some_iff] at h
  obtain ⟨_,_,_,_,_,_,h⟩:=h
  cases h; exact .inr (.inr fun l=>rfl)
 | block i a =>
  simp only [aY,Option.bind_eq_bind,Option.bind_eq_some_iff] at h
  obtain ⟨_,_,h⟩:=h
  cases h; exact .inr (.inr fun l=>rfl)
 | loop a =>
  simp only [aY,Option.bind_eq_bind,Option.bind_eq_some_iff] at h
  obtain ⟨_,_,h⟩:=h
  cases h; exact .inr (.inr fun l=>rfl)
 | rangeFunc f ps a b =>
  simp only [aY,Option.bind_eq_bind,Option.bind_eq_some_iff] at h
  obtain ⟨_,_,_,_,_,_,h⟩:=h
  cases h; exact .inr (.inr fun l=>rfl)
 | scope a =>
  right; right
  simp only [aY,Option.bind_eq_bind,Option.bind_eq_some_iff] at h
  obtain ⟨a',_,h⟩:=h
  cases h
  unfold p9
  split
  ·rename_i l0 hl0
   split
   ·intro l
    cases a' <;> first | rfl | (simp [qx] at hl0; done)
   ·exact fun l=>rfl
  ·exact fun l=>rfl
theorem rU {cal:iH} {m:Nat} {rd:Bool} {N:Nat} (ih:∀ c':Code,SizeOf.sizeOf c'<N->∀ (ac:ACode),aY P c'=some ac->∀ (T:Tm) (H:Heap) (x:Ex) (T':Tm) (H':Heap),aw cal m rd ac T H=some (x,T',H')->fz P rd c' T H x T' H') (l:Nat) :
  ∀ (b:Code),SizeOf.sizeOf b<N->∀ (ab:ACode),aY P b=some ab->(bA ab l=none->findLabel b l=none)/\∀ ar,bA ab l=some ar->∃ rest,findLabel b l=some rest/\∀ T H x T' H',aw cal m rd ar T H=some (x,T',H')->fz P rd rest T H x T' H':=by
 intro b
 have other:∀ ab:ACode,(∀ l,bA ab l=none)->findLabel b l=none->(bA ab l=none->findLabel b l=none)/\∀ ar,bA ab l=some ar->∃ rest,findLabel b l=some rest/\∀ T H x T' H',aw cal m rd ar T H=some (x,T',H')->fz P rd rest T H x T' H' :=
  fun ab h1 h2=>⟨fun _=>h2,fun ar h=>by rw [h1] at h; cases h⟩
 induction b with
 | label l' =>
  intro hN ab hc
  cases hc
  simp only [bA,findLabel]
  refine ⟨fun h=>?_,fun ar h=>?_⟩
  ·split at h
   ·cases h
   ·rename_i e; rw [if_neg e]
  ·split at h
   ·rename_i e
    cases h
    rw [if_pos e]
    exact ⟨_,rfl,fun T H x T' H' h fence n B μ F w a Q hF hB hS hQ=>by cases h; exact wpIn_skip (hQ a w μ hS (Stp.refl _ _ _ _ _ _))⟩
   ·cases h
 | seq c1 c2 ih1 ih2 =>
  intro hN ab hc
  have plain:∀ a1 a2,aY P c1=some a1->aY P c2=some a2->(bA (.seq a1 a2) l=none->findLabel (.seq c1 c2) l=none)/\∀ ar,bA (.seq a1 a2) l=some ar->∃ rest,findLabel (.seq c1 c2) l=some rest/\∀ T H x T' H',aw cal m rd ar T H=some (x,T',H')->fz P rd rest T H x T' H':=by
   intro a1 a2 h1 h2
   have i1:=ih1 (fun ab h1 h2=>⟨fun _=>h2,fun ar h=>by rw [h1] at h; cases h⟩) (by simp at hN; omega) a1 h1
   have i2:=ih2 (fun ab h1 h2=>⟨fun _=>h2,fun ar h=>by rw [h1] at h; cases h⟩) (by simp at hN; omega) a2 h2
   cases hf:bA a1 l with
   | none =>
    have e1:bA (.seq a1 a2) l=bA a2 l:=by simp only [bA,hf]
    have e2:findLabel (.seq c1 c2) l=findLabel c2 l:=by simp only [findLabel,i1.1 hf]
    rw [e1,e2]
    exact i2
   | some r =>
    obtain ⟨rest,hr,hok⟩:=i1.2 r hf
    have e1:bA (.seq a1 a2) l=some (.seq r a2):=by simp only [bA,hf]
    have e2:findLabel (.seq c1 c2) l=some (.seq rest c2):=by simp only [findLabel,hr]
    rw [e1,e2]
    refine ⟨fun h=>(by cases h),fun ar h=>?_⟩
    cases h
    exact ⟨_,rfl,vX hok (ih c2 (by simp at hN; omega) a2 h2)⟩
  rcases mw (P:=P) c1 c2 with ⟨i0,ops0,bid,i1,ops1,ex,bid',bid2,i2,ops2,rest,rfl,rfl⟩ | he
  ·simp only [aY] at hc
   split at hc
   ·split at hc
    ·simp only [Option.bind_eq_bind,Option.bind_eq_some_iff] at hc
     obtain ⟨_,_,_,_,_,_,_,_,hc⟩:=hc
     cases hc
     exact other _ (fun l=>rfl) rfl
    ·cases hc
     exact other _ (fun l=>rfl) rfl
   ·simp only [Option.bind_eq_bind,Option.bind_eq_some_iff] at hc
    obtain ⟨a1,h1,a2,h2,hc⟩:=hc
    cases hc
    exact plain a1 a2 (by simp only [aY]; exact h1) (by simp only [aY,Option.bind_eq_bind,Option.bind_eq_some_iff]; exact h2)
  ·rw [he] at hc
   simp only [Option.bind_eq_bind,Option.bind_eq_some_iff] at hc
   obtain ⟨a1,h1,a2,h2,hc⟩:=hc
   cases hc
   exact plain a1 a2 h1 h2
 | _ =>
  intro hN ab hc
  rcases wN hc with ⟨_,_,h⟩ | ⟨_,h⟩ | h
  ·cases h
  ·cases h
  ·exact other ab h rfl
theorem jG {cal:iH} (hcal:gL P cal) (hmix:P.follows .mixedOrders=true) {m:Nat} {rd:Bool}:∀ (c:Code) (ac:ACode),aY P c=some ac->∀ (T:Tm) (H:Heap) (x:Ex) (T':Tm) (H':Heap),aw cal m rd ac T H=some (x,T',H')->fz P rd c T H x T' H':=by
 intro c
 induction hk:SizeOf.sizeOf c using Nat.strongRecOn generalizing c with
 | _ k ih =>
 have ih:∀ c':Code,SizeOf.sizeOf c'<SizeOf.sizeOf c->∀ (ac:ACode),aY P c'=some ac->∀ (T:Tm) (H:Heap) (x:Ex) (T':Tm) (H':Heap),aw cal m rd ac T H=some (x,T',H')->fz P rd c' T H x T' H':=fun c' h=>ih (SizeOf.sizeOf c') (hk ▸ h) c' rfl
 cases c with
 | skip =>
  intro ac hc T H x T' H' h fence n B μ F w a Q hF hB hS hQ
  cases hc; cases h
  exact wpIn_skip (hQ a w μ hS (Stp.refl _ _ _ _ _ _))
 | label l =>
  intro ac hc T H x T' H' h fence n B μ F w a Q hF hB hS hQ
  cases hc
  simp only [aw] at h
  cases h
  exact wpIn_label (hQ a w μ hS (Stp.refl _ _ _ _ _ _))
 | exit id =>
  intro ac hc T H x T' H' h fence n B μ F w a Q hF hB hS hQ
  cases hc; cases h
  exact wpIn_exit (hQ a w μ hS (Stp.refl _ _ _ _ _ _))
 | goto l =>
  intro ac hc T H x T' H' h fence n B μ F w a Q hF hB hS hQ
  cases hc; cases h
  exact wpIn_goto (hQ a w μ hS (Stp.refl _ _ _ _ _ _))
 | ret =>
  intro ac hc T H x T' H' h fence n B μ F w a Q hF hB hS hQ
  cases hc; cases h
  exact wpIn_ret (hQ a w μ hS (Stp.refl _ _ _ _ _ _))
 | refuse why =>
  intro ac hc T H x T' H' h
  cases hc
  rw [kC] at h; cases h
 | scope b =>
  have ihN:=ih
  have ih:=ih b (by simp)
  intro ac hc T H x T' H' h fence n B μ F w a Q hF hB hS hQ
  simp only [aY,Option.bind_eq_bind,Option.bind_eq_some_iff] at hc
  obtain ⟨ab,hb,hc⟩:=hc
  have straight:aw cal m rd (.scope ab) T H=some (x,T',H')->(Code.scope b).wpIn fence n P Q a w:=by
   intro h
   simp only [aw] at h
   refine sT ?_
   split at h
   ·cases h
   ·rename_i hne
    refine ih ab hb T H _ _ _ h fence n B μ F w a _ hF hB hS fun a' w' μ' hS' hst=>?_
    have:=hQ a' w' μ' hS' hst
    cases x with
    | goto l=>exact absurd h (hne _ _ _)
    | _=>exact this
  cases hc
  unfold p9 at h
  split at h
  ·rename_i l hl
   split at h
   ·rename_i ar har
    obtain ⟨rest,hf,hok⟩:=(rU ihN l b (by simp) ab hb).2 ar har
    simp only [aw] at h
    refine rg hf ?_
    split at h
    ·rename_i l' T1 H1 h1
     split at h
     ·rename_i e
      subst e
      refine ih ab hb T H _ _ _ h1 fence n B μ F w a _ hF hB hS fun a' w' μ' hS' hst=>⟨rfl,?_⟩
      exact mK hf hok m T1 H1 x T' H' h fence n B μ' F w' a' Q hF (Nat.le_trans hB hst.size) hS' fun a2 w2 μ2 hS2 hst2=>hQ a2 w2 μ2 hS2 (hst.trans hst2)
     ·cases h
    ·rename_i hne
     refine ih ab hb T H _ _ _ h fence n B μ F w a _ hF hB hS fun a' w' μ' hS' hst=>?_
     have:=hQ a' w' μ' hS' hst
     cases x with
     | goto l=>exact absurd h (hne _ _ _)
     | _=>exact this
   ·exact straight h
  ·exact straight h
 | region id ops draw =>
  intro ac hc T H x T' H' h fence n B μ F w a Q hF hB hS hQ
  simp only [aY] at hc
  cases draw with
  | true =>
   simp only [if_true] at hc
   split at hc
   ·rename_i p hrs
    obtain ⟨ds,late⟩:=p
    cases hc
    simp only [aw] at h
    split at h
    ·rename_i T1 H1 hrun
     cases h
     refine tT hcal hmix hF hrs hrun hS.hT hS.hH fun a' w' μ' hd hT' hH' hst=>?_
     exact hQ a' w' μ' ⟨hT',hH',hd ▸ hS.hD.stp hst⟩ hst
    ·cases h
   ·cases hc
    rw [kC] at h; cases h
  | false =>
   simp only [Bool.false_eq_true,if_false,Option.map_eq_some_iff] at hc
   obtain ⟨rs,hrs,rfl⟩:=hc
   simp only [aw] at h
   split at h
   ·rename_i T1 H1 hrun
    cases h
    refine qk hcal hF hrs hrun hS.hT hS.hH fun a' w' μ' hd hT' hH' hst=>?_
    exact hQ a' w' μ' ⟨hT',hH',hd ▸ hS.hD.stp hst⟩ hst
   ·cases h
 | seq c1 c2 =>
  have ih1:=ih c1 (by simp; omega)
  have ih2:=ih c2 (by simp; omega)
  intro ac hc T H x T' H' h
  have plain:∀ a1 a2,aY P c1=some a1->aY P c2=some a2->aw cal m rd (.seq a1 a2) T H=some (x,T',H')->fz P rd (.seq c1 c2) T H x T' H':=by
   intro a1 a2 h1 h2 h fence n B μ F w a Q hF hB hS hQ
   simp only [aw] at h
   refine wpIn_seq ?_
   split at h
   ·rename_i T1 H1 hrun
    refine ih1 a1 h1 T H _ _ _ hrun fence n B μ F w a _ hF hB hS fun a' w' μ' hS' hst=>?_
    exact ih2 a2 h2 T1 H1 _ _ _ h fence n B μ' F w' a' Q hF (Nat.le_trans hB hst.size) hS' fun a2 w2 μ2 hS2 hst2=>hQ a2 w2 μ2 hS2 (hst.trans hst2)
   ·rename_i hne
    refine ih1 a1 h1 T H _ _ _ h fence n B μ F w a _ hF hB hS fun a' w' μ' hS' hst=>?_
    have:=hQ a' w' μ' hS' hst
    cases x <;> first | exact this | exact absurd h (hne _ _)
  rcases mw (P:=P) c1 c2 with ⟨i0,ops0,bid,i1,ops1,ex,bid',bid2,i2,ops2,rest,rfl,rfl⟩ | he
  ·simp only [aY] at hc
   split at hc
   ·rename_i pre xo it it1 nx ex1 it2 en os g0 g1 g2
    split at hc
    ·rename_i hcond
     obtain ⟨rfl,rfl,rfl,rfl,k1,k2,k3,k4⟩:=hcond
     simp only [Option.bind_eq_bind,Option.bind_eq_some_iff] at hc
     obtain ⟨rpre,hrpre,ros,hros,arest,harest,sx,hsx,hc⟩:=hc
     cases hc
     exact qo hcal g0 g1 g2 ⟨k1,k2,k3,k4⟩ hrpre hros hsx (fun T H x T' H' hr=>ih rest (by simp; omega) arest harest T H x T' H' hr) h
    ·cases hc
     rw [kC] at h; cases h
   ·simp only [Option.bind_eq_bind,Option.bind_eq_some_iff] at hc
    obtain ⟨a1,h1,a2,h2,hc⟩:=hc
    cases hc
    exact plain a1 a2 (by simp only [aY]; exact h1) (by simp only [aY,Option.bind_eq_bind,Option.bind_eq_some_iff]; exact h2) h
  ·rw [he] at hc
   simp only [Option.bind_eq_bind,Option.bind_eq_some_iff] at hc
   obtain ⟨a1,h1,a2,h2,hc⟩:=hc
   cases hc
   exact plain a1 a2 h1 h2 h
 | cond c c1 c2 =>
  have ih1:=ih c1 (by simp; omega)
  have ih2:=ih c2 (by simp; omega)
  intro ac hc T H x T' H' h fence n B μ F w a Q hF hB hS hQ
  simp only [aY,Option.bind_eq_bind,Option.bind_eq_some_iff] at hc
  obtain ⟨s,hs,a1,h1,a2,h2,hc⟩:=hc
  cases hc
  simp only [aw] at h
  have hv:=aK hS.hT hs
  split at h
  ·rename_i e
   rw [e] at hv
   generalize hcv:a.eval c=cv at hv
   cases hv
   exact wpIn_cond_true hcv (ih1 a1 h1 T H _ _ _ h fence n B μ F w a Q hF hB hS hQ)
  ·rename_i e
   rw [e] at hv
   generalize hcv:a.eval c=cv at hv
   cases hv
   exact wpIn_cond_false hcv (ih2 a2 h2 T H _ _ _ h fence n B μ F w a Q hF hB hS hQ)
  ·cases h
 | block id b =>
  have ih:=ih b (by simp; omega)
  intro ac hc T H x T' H' h fence n B μ F w a Q hF hB hS hQ
  simp only [aY,Option.bind_eq_bind,Option.bind_eq_some_iff] at hc
  obtain ⟨ab,hb,hc⟩:=hc
  cases hc
  simp only [aw] at h
  refine wpIn_block ?_
  split at h
  ·rename_i id' T1 H1 hrun
   split at h
   ·rename_i e
    cases h
    refine ih ab hb T H _ _ _ hrun fence n B μ F w a _ hF hB hS fun a' w' μ' hS' hst=>?_
    have:=hQ a' w' μ' hS' hst
    simp only [qM,Exit.inBlock,e,if_true]
    exact this
   ·rename_i e
    cases h
    refine ih ab hb T H _ _ _ hrun fence n B μ F w a _ hF hB hS fun a' w' μ' hS' hst=>?_
    have:=hQ a' w' μ' hS' hst
    simp only [qM,Exit.inBlock,e,if_false]
    exact this
  ·rename_i hne
   refine ih ab hb T H _ _ _ h fence n B μ F w a _ hF hB hS fun a' w' μ' hS' hst=>?_
   have:=hQ a' w' μ' hS' hst
   cases x <;> first | exact this | exact absurd h (hne _ _ _)
 | loop b =>
  have ih:=ih b (by simp)
  intro ac hc T H x T' H' h fence n B μ F w a Q hF hB hS hQ
  simp only [aY,Option.bind_eq_bind,Option.bind_eq_some_iff] at hc
  obtain ⟨ab,hb,hc⟩:=hc
  cases hc
  simp only [aw] at h
  exact wpIn_loop_rounds m (oe (ih ab hb) m T H x T' H' h fence n B μ F w a Q hF hB hS hQ).2
 | rangeFunc g ps asg body =>
  intro ac hc T H x T' H' h fence n B μ F w a Q hF hB hS hQ
  simp only [aY,Option.bind_eq_bind,Option.bind_eq_some_iff] at hc
  obtain ⟨s,hs,a1,h1,a2,h2,hc⟩:=hc
  cases hc
  simp only [aw] at h
  split at h
  ·cases h
  rename_i hrd
  have hrd:rd=false:=by simpa using hrd
  subst hrd
  split at h
  ·rename_i fi args ht
   split at h
   ·rename_i v H2 hrun
    split at h
    ·rename_i T0 ps0 b1 b2 hget
     cases h
     refine jf hcal hF hs h1 h2 ht hrun hB hS (fun T' ps' c1 c2 st pe hg=>?_) ⟨_,_,_,_,_,_,hget⟩
     rw [hget] at hg; cases hg
     refine ⟨by simp,fun r hr a' w' μ' hS' hst=>?_⟩
     cases r with
     | none=>exact hQ a' w' μ' hS' hst
     | some c=>exact hr.elim
    ·rename_i T0 ps0 b1 b2 pc hget
     have fin:∀ (x':Ex) (cc:Code),x'=x->T'=T->H'=H2.kill H.next->(∀ c',aY P c'=some pc->c'=cc)->(∀ (a':Act) (w':World),Q (qM x') a' w'->cc.wpIn fence n P Q a' w')->(Code.rangeFunc g ps asg body).wpIn fence n P Q a w:=by
      intro x' cc e1 e2 e3 hinv hwp
      subst e1; subst e2; subst e3
      refine jf hcal hF hs h1 h2 ht hrun hB hS (fun T' ps' c1 c2 st pe hg=>?_) ⟨_,_,_,_,_,_,hget⟩
      rw [hget] at hg; cases hg
      refine ⟨by simp,fun r hr a' w' μ' hS' hst=>?_⟩
      cases r with
      | none=>exact hr.elim
      | some c =>
       have:=hinv c hr
       subst this
       exact hwp _ _ (hQ a' w' μ' hS' hst)
     split at h
     ·cases h; exact fin .ret .ret rfl rfl rfl (fun c' hc'=>Bh hc') (fun a' w' q=>wpIn_ret q)
     ·cases h; exact fin (.exit _) (.exit _) rfl rfl rfl (fun c' hc'=>zB hc') (fun a' w' q=>wpIn_exit q)
     ·cases h; exact fin (.goto _) (.goto _) rfl rfl rfl (fun c' hc'=>zx hc') (fun a' w' q=>wpIn_goto q)
     ·cases h
    ·cases h
   ·cases h
  ·cases h
end
def ut (_:Program) (_:xJ):Prop:=True
end Go.Proofs.Ytekmejlgocineaa.Ev
namespace Go.Proofs.Ytekmejlgocineaa.Ev
open Go
open Go.Sort
set_option linter.all false
def E8 {α:Type} (enc:α->Value):Prop:=∀ x,(enc x).oneCell'=true
def BI {α:Type} (cf:α->α->Int) (x y:α):Bool:=decide (cf x y<0)
def hY {α:Type} [Inhabited α] (enc:α->Value) (w:World) (blk off m:Nat) (dk:Array α) (os:Array Obj):World:=grow (putRow enc (Sort.ahead w m) blk off dk) os
def CI {α:Type} [Inhabited α] (P:Program) (g:Nat) (cb:Array Value) (enc:α->Value) (cf:α->α->Int) (blk off size:Nat) (w:World):Prop :=
 ∀ (m:Nat) (os:Array Obj) (dk:Array α),dk.size=size->∀ x y:α,
  Calls P g (#[enc x,enc y]++cb) (hY enc w blk off m dk os) fun e w'=>e=.returned (.int .i64 (cf x y))/\∃ q os',w'=grow ((hY enc w blk off m dk os).drewN q) os'
def Ab (P:Program) (S:Nat) (gs:List Nat):Prop :=
 (∃ fn,P.funcs[S]? = some fn ∧ fn.body.isSome=true ∧ fn.name ≠ "runtime.NumGoroutine") ∧ Ad ∧
 (∀ g∈gs,∀ args w,(callFunc g args).run P w=.ok (.enter g args) w) /\
 (∀ (p:Option Addr) (cap:Nat) (fv:Value) (w:World),Calls P S #[.slice p 0 cap,fv] w fun e w'=>e=.returned (.tuple #[])/\w'=w) /\
 ∀ (k:Nat) (enc:Fin (k+1)->Value) (cf:Fin (k+1)->Fin (k+1)->Int) (g:Nat) (cb:Array Value) (blk cap:Nat) (w:World),g∈gs->E8 enc->SWO (BI cf)->(∀ x y,BI cf x y=false->BI cf y x=false->x=y) ->
  CI P g cb enc cf blk 0 (k+1) w->Holds enc w blk 0 (List.finRange (k+1)).toArray->blk<w.heap.size->k+1<4611686018427387904 ->
  Calls P S #[.slice (some ⟨blk,0,none⟩) (k+1:Nat) cap,.func (.func g) #[] cb] w fun e w'=>e=.returned (.tuple #[])/\∃ m os,w'=hY enc w blk 0 m ((List.finRange (k+1)).mergeSort fun x y=>!(BI cf) y x).toArray os
theorem sU {W w':World} (hs:W.heap.size<=w'.heap.size) (hk:∀ c,c<W.heap.size->w'.heap[c]? = W.heap[c]?) (ht:w'.tape=W.tape) (hd:W.drawn<=w'.drawn) (ho:w'.os=W.os) (hp:w'.output=W.output) :
  w'=grow (W.drewN (w'.drawn-W.drawn)) (w'.heap.extract W.heap.size w'.heap.size):=by
 obtain ⟨h1,t1,d1,o1,p1⟩:=w'
 obtain ⟨h,t,d,o,p⟩:=W
 simp only at *
 subst ht; subst ho; subst hp
 unfold grow World.drewN
 have e1:h1=h++h1.extract h.size h1.size:=by
  apply Array.ext_getElem?
  intro i
  by_cases hi:i<h.size
  ·rw [Array.getElem?_append_left hi]; exact hk i hi
  ·rw [Array.getElem?_append_right (by omega),Array.getElem?_extract]
   by_cases hj:i<h1.size
   ·rw [if_pos (by omega)]; congr 1; omega
   ·rw [if_neg (by omega)]
    exact Array.getElem?_eq_none (by omega)
 have e2:d1=d+(d1-d):=by omega
 show (⟨h1,t1,d1,o1,p1⟩:World)=⟨h++h1.extract h.size h1.size,t1,d+(d1-d),o1,p1⟩
 rw [<- e1,<- e2]
section
variable {P:Program} {μ:Mu} {F:Nat->Prop} {H:Heap} {w:World}
theorem tM (hH:HR P μ F H w) (os:Array Obj):HR P μ F H (grow w os)/\Stp kA P μ F H w μ F H (grow w os):=by
 have hw:∀ c,c<w.heap.size->(grow w os).heap[c]? = w.heap[c]?:=fun c hc=>by
  show (w.heap++os)[c]? = _
  rw [Array.getElem?_append_left hc]
 have hsz:w.heap.size<=(grow w os).heap.size:=by
  show _<=(w.heap++os).size
  simp
 refine ⟨⟨fun b L hb=>?_,fun c hc=>?_,fun b e hb=>?_,hH.inj,fun g cs hg=>(hH.gl g cs hg).mono (fun _ _ h=>h) (fun _ h=>h) fun c hc=>hw c (hH.fb c hc)⟩,⟨fun _ _ h=>h,fun _ h=>h,hsz,fun c hc _=>hw c hc,fun b L hb hL=>.inr ⟨b,L,hb,hL,rfl⟩,Nat.le_refl _,fun _ _ _ h=>h,fun b L h=>.inl ⟨b,L,h,rfl⟩,fun b e h _ _=>⟨e,h⟩,fun b e L h hL=>.inr ⟨b,e,L,h,hL,rfl⟩,Tp.same rfl rfl,rfl,rfl⟩⟩
 ·have:=hH.dom b L hb; exact ⟨this.1,by omega⟩
 ·have:=hH.fb c hc; omega
 ·obtain ⟨L,hL,hE⟩:=hH.ent b e hb
  exact ⟨L,hL,hE.mono (fun _ _ h=>h) (fun _ h=>h) (fun c hc=>hw c (hH.fb c hc)) (hw _ (hH.dom b L hL).2) (fun hr=>hE.notF hr)⟩
theorem jJ {f:Nat} {fn:Func} {vs:Array Value} {Fe:Fence} {rd:Bool} {n:Nat} {R:Value → World → Prop} (hf:P.funcs[f]? = some fn) (hb:fn.body.isSome=true) (hn:fn.name ≠ "runtime.NumGoroutine") (hF:FenceOK Fe rd)
  (h:Calls P f vs w fun e w'=>∃ u,e=.returned u/\R u w'):Runs Fe n P ((callFunc f vs).run P w) R:=by
 have hr:(callFunc f vs).run P w=.ok (.enter f vs) w:=by
  obtain ⟨c,hc⟩:=Option.isSome_iff_exists.1 hb
  simp [callFunc,hf,hn,hc]
 rw [hr]
 unfold Runs
 simp only
 have key:CallsIn Fence.wide n P f vs w fun e w'=>∃ u,e=.returned u/\R u w':=callsIn_wide.2 h
 rcases hF with ⟨_,rfl⟩ | ⟨_,l,rfl⟩
 ·exact key
 ·exact key
theorem nK {α:Type} [Inhabited α] (enc:α->Value) (w:World) (blk off m:Nat) (dk:Array α) (os:Array Obj):(∀ c,c<w.heap.size->c≠blk->(hY enc w blk off m dk os).heap[c]? = w.heap[c]?)/\w.heap.size<=(hY enc w blk off m dk os).heap.size:=by
 have e:(hY enc w blk off m dk os).heap=w.heap.modify blk (onCells (putCells enc off dk))++os:=rfl
 rw [e]
 refine ⟨fun c hc hne=>?_,by simp⟩
 rw [Array.getElem?_append_left (by simpa using hc),Array.getElem?_modify,if_neg (Ne.symm hne)]
theorem pF {cal:iH} {g:Nat} {caps:List AV} {D:Heap} {x:AV}:∀ {l:List AV} {cs:List Int},mt cal g caps D x l=some cs->cs.length=l.length/\∀ (j:Nat) (y:AV),l[j]? = some y->∃ D',cal (.fn g ([x,y]++caps)) D=some (.int .i64 (cs.getD j 0),D')
 | [],cs,h=>by
  simp only [mt,Option.some.injEq] at h
  subst h
  exact ⟨rfl,fun j y h=>by simp at h⟩
 | y :: l,cs,h=>by
  simp only [mt] at h
  split at h
  ·rename_i c D' cs' h1 h2
   cases h
   obtain ⟨k1,k2⟩:=pF h2
   refine ⟨by simp [k1],fun j z hz=>?_⟩
   cases j with
   | zero=>simp at hz; subst hz; exact ⟨D',h1⟩
   | succ j=>exact k2 j z (by simpa using hz)
  ·cases h
theorem oq {cal:iH} {g:Nat} {caps:List AV} {D:Heap} {all:List AV}:∀ {l:List AV} {M:List (List Int)},nr cal g caps D all l=some M->∀ (i:Nat) (x:AV),l[i]? = some x->mt cal g caps D x all=some (M.getD i [])
 | [],M,h,i,x,hx=>by simp at hx
 | x :: l,M,h,i,z,hz=>by
  simp only [nr] at h
  split at h
  ·rename_i r rs h1 h2
   cases h
   cases i with
   | zero=>simp at hz; subst hz; exact h1
   | succ i=>exact oq h2 i z (by simpa using hz)
  ·cases h
theorem rr {cal:iH} (hcal:gL P cal) {S ty:Nat} {gs:List Nat} (hS:Ab P S gs) {args:List AV} {v:AV} {H':Heap} (h:yK cal ty gs H args=some (v,H')) {vs:List Value} {fence:Fence} {rd:Bool} (hF:FenceOK fence rd) (hH:HR P μ F H w) (hl:LR μ F w args vs) (n:Nat) :
  Runs fence n P ((callFunc S vs.toArray).run P w) fun u w'=>∃ μ',fL kA P μ F H w v H' u w' μ':=by
 obtain ⟨⟨fn,hf,hb,hn⟩,hnk,hgs,hnone,hsort⟩:=hS
 have htwo:∀ {a b:AV},LR μ F w [a,b] vs->∃ x y,vs=[x,y]/\VR μ F w a x/\VR μ F w b y:=fun {a b} h=>by
  have h1:=h.1
  match vs,h1 with
  | [x,y],_=>exact ⟨x,y,rfl,h.head,h.tail.head⟩
 unfold yK at h
 split at h
 ·cases h
  obtain ⟨x,y,rfl,hx,hy⟩:=htwo hl
  cases hx
  refine jJ hf hb hn hF ((hnone none 0 y w).mono ?_)
  rintro e w' ⟨rfl,rfl⟩
  exact ⟨_,rfl,μ,.tup [] #[] rfl (fun i c v h=>by simp at h),hH,Stp.refl _ _ _ _ _ _⟩
 ·rename_i b off len c sz ex g caps
  split at h
  ·rename_i hz
   cases h
   subst hz
   obtain ⟨x,y,rfl,hx,hy⟩:=htwo hl
   cases hx with
   | own _ _ _ _ _ _ L cap o1 o2 o3 o4 o5 o6 =>
   refine jJ hf hb hn hF ((hnone _ cap y w).mono ?_)
   rintro e w' ⟨rfl,rfl⟩
   exact ⟨_,rfl,μ,.tup [] #[] rfl (fun i c v h=>by simp at h),hH,Stp.refl _ _ _ _ _ _⟩
  split at h
  ·rename_i cs ty' hgb
   split at h
   ·rename_i hc
    obtain ⟨rfl,rfl,rfl,hlen,h0,hbig,hg,hones⟩:=hc
    split at h
    ·rename_i M hM
     split at h
     ·rename_i hord
      cases h
      obtain ⟨x,y,rfl,hx,hy⟩:=htwo hl
      obtain ⟨L,hL,hE⟩:=hH.ent b _ hgb
      cases hx with
      | own _ _ _ _ _ _ L' cap o1 o2 o3 o4 o5 o6 =>
      rw [hL] at o1; cases o1
      cases hy with
      | fn _ _ _ us ub q1 q2 q3 q4 =>
      obtain rfl:us = #[]:=Array.eq_empty_of_size_eq_zero (by simpa using q1.symm)
      obtain ⟨arr,fr,a1,a2,a3,a4,a5,a6,-⟩:=hE
      obtain ⟨hnF,rfl⟩:=a6 rfl
      have hblk:=(hH.dom b L hL).2
      obtain ⟨k,rfl⟩:∃ k,len=k+1:=⟨len-1,by omega⟩
      obtain ⟨enc,henc⟩:∃ enc:Fin (k+1)->Value,enc=fun i=>arr[i.val]!:=⟨_,rfl⟩
      have hea:∀ i:Fin (k+1),arr[i.val]? = some (enc i):=fun i=>by
       have hi:i.val<arr.size:=by have:=i.isLt; omega
       rw [henc,Array.getElem?_eq_getElem hi]
       simp [hi]
      have hca:∀ i:Fin (k+1),cs[i.val]? = some (cs.getD i.val .undef):=fun i=>by
       have hi:i.val<cs.length:=by have:=i.isLt; omega
       rw [List.getElem?_eq_getElem hi]
       simp [hi]
      have hva:∀ i:Fin (k+1),VR μ F w (cs.getD i.val .undef) (enc i):=fun i=>a5 _ _ _ (hca i) (hea i)
      obtain ⟨cf,hcf⟩:∃ cf:Fin (k+1)->Fin (k+1)->Int,cf=fun i j=>(M.getD i.val []).getD j.val 0:=⟨_,rfl⟩
      have hlt:∀ i j,BI cf i j=Ak M i.val j.val:=fun i j=>by rw [hcf]; rfl
      obtain ⟨w1,w2,w3⟩:=hord
      have hT:∀ x y,BI cf x y=false->BI cf y x=false->x=y:=fun x y e1 e2=>by
       rw [hlt] at e1 e2
       rcases w2 _ x.isLt _ y.isLt with e | e
       ·exact Fin.ext e
       ·rw [e1,e2] at e; cases e
      have hswo:SWO (BI cf):=by
       refine ⟨fun x=>by rw [hlt]; exact w1 _ x.isLt,fun x y z e1 e2=>?_,fun x y z e1 e2=>?_⟩
       ·rw [hlt] at *; exact w3 _ x.isLt _ y.isLt _ z.isLt e1 e2
       ·rw [hlt] at *
        cases hxz:Ak M x.val z.val with
        | false=>rfl
        | true =>
         rcases w2 _ x.isLt _ y.isLt with e | e
         ·rw [<- e,hxz] at e2; cases e2
         ·rw [e1] at e
          have e3:Ak M y.val x.val=true:=by simpa using e.symm
          rw [w3 _ y.isLt _ x.isLt _ z.isLt e3 hxz] at e2; cases e2
      have hone:E8 enc:=fun i=>by
       refine (hva i).oneCell ?_
       rw [List.all_eq_true] at hones
       exact hones _ (List.mem_of_getElem? (hca i))
      have hcmp:CI P g ub enc cf L.blk 0 (k+1) w:=by
       intro m os dk hdk x y
       obtain ⟨W,hW⟩:∃ W,W=hY enc w L.blk 0 m dk os:=⟨_,rfl⟩
       rw [<- hW]
       obtain ⟨hWo,hWs⟩:=nK enc w L.blk 0 m dk os
       rw [<- hW] at hWo hWs
       have hFw:∀ c,F c->W.heap[c]? = w.heap[c]?:=fun c hc=>hWo c (hH.fb c hc) fun e=>hnF (e ▸ hc)
       have hK:HR P μ F (H.kill b) W:=by
        have hg':∀ b' e',(H.kill b).get b'=some e'->b'≠b/\H.get b'=some e':=fun b' e' h=>by
         rw [Heap.get_kill] at h
         split at h
         ·cases h
         ·exact ⟨by assumption,h⟩
        refine ⟨fun b' L' h'=>⟨(hH.dom b' L' h').1,Nat.lt_of_lt_of_le (hH.dom b' L' h').2 hWs⟩,fun c hc=>Nat.lt_of_lt_of_le (hH.fb c hc) hWs,fun b' e' h'=>?_,fun b1 b2 e1 e2 L1 L2 h1 h2=>hH.inj b1 b2 e1 e2 L1 L2 (hg' _ _ h1).2 (hg' _ _ h2).2,fun g cs hg=>(hH.gl g cs hg).mono (fun _ _ h=>h) (fun _ h=>h) hFw⟩
        obtain ⟨hne,h'⟩:=hg' b' e' h'
        obtain ⟨L',hL',hE'⟩:=hH.ent b' e' h'
        exact ⟨L',hL',hE'.mono (fun _ _ h=>h) (fun _ h=>h) hFw (hWo _ (hH.dom b' L' hL').2 fun e=>hne (hH.inj b' b e' _ L' L h' hgb hL' hL e)) (fun hr=>hE'.notF hr)⟩
       have hD:=Cw hK
       have hrow:=oq hM x.val _ (hca x)
       obtain ⟨D',hrun⟩:=(pF hrow).2 y.val _ (hca y)
       have hargs:LR μ F W ([cs.getD x.val .undef,cs.getD y.val .undef]++caps) ([enc x,enc y]++ub.toList):=by
        refine LR.cons ((hva x).mono (fun _ _ h=>h) (fun _ h=>h) hFw) (LR.cons ((hva y).mono (fun _ _ h=>h) (fun _ h=>h) hFw) ⟨by simpa using q3,fun i c v hc hv=>?_⟩)
        exact (q4 i c v hc (by simpa using hv)).mono (fun _ _ h=>h) (fun _ h=>h) hFw
       have run:=(hcal _ _ _ _ hrun μ F W _ Fence.wide false 0 (.inl ⟨rfl,rfl⟩) hD hargs (fun b args h=>by cases h)).2
       have harr:([enc x,enc y]++ub.toList).toArray = #[enc x,enc y]++ub:=by
        apply Array.ext'
        simp
       simp only [iq,harr,hgs g hg,Runs] at run
       refine (callsIn_wide.1 run).mono ?_
       rintro e w'' ⟨u,rfl,μ',hd⟩
       obtain ⟨dv,dh,ds⟩:=hd
       cases dv
       refine ⟨by rw [hcf],w''.drawn-W.drawn,w''.heap.extract W.heap.size w''.heap.size,?_⟩
       exact sU ds.size (qe hK (fun b=>rfl) ds) ds.tape.1 (ds.tape.2 hnk) ds.os ds.out
      have hholds:Holds enc w L.blk 0 (List.finRange (k+1)).toArray:=by
       intro j hj
       have hj:j<k+1:=by simpa using hj
       have e1:(List.finRange (k+1)).toArray[j]! = ⟨j,hj⟩:=by
        simp [hj]
       rw [e1,Nat.zero_add,nt a1]
       exact ⟨hea ⟨j,hj⟩,by simp [World.frozen?,a1]⟩
      have hcon:=hsort k enc cf g ub L.blk cap w hg hone hswo hT hcmp hholds hblk hbig
      refine jJ hf hb hn hF (hcon.mono ?_)
      rintro e w' ⟨rfl,m,os,rfl⟩
      have hix:((List.finRange (k+1)).mergeSort fun x y=>!(BI cf) y x)=nE M (k+1):=by
       unfold nE
       congr 1
       funext x y
       rw [hlt]
      rw [hix]
      obtain ⟨ord,hord⟩:∃ ord,ord=nE M (k+1):=⟨_,rfl⟩
      have hol:ord.length=k+1:=by rw [hord]; unfold nE; rw [List.length_mergeSort,List.length_finRange]
      rw [<- hord]
      obtain ⟨p1,p2⟩:=gg (I:=kA) (e:=.cells (ord.map fun i=>cs.getD i.val .undef) ty' true) hH hgb rfl hL (putRow enc (Sort.ahead w m) L.blk 0 ord.toArray) (fun c hc=>by
        show (w.heap.modify L.blk _)[c]? = _
        rw [Array.getElem?_modify,if_neg (Ne.symm hc)]) (by show (w.heap.modify L.blk _).size=_; simp) ⟨rfl,fun _=>Nat.le_add_right _ _⟩ rfl rfl
       (fun hFw=>by
        refine ⟨putCells enc 0 ord.toArray arr,(0,0),?_,by simp [putCells,a2],a3,by simp [putCells,hol]; omega,fun i c v hc hv=>?_,fun _=>⟨hnF,rfl⟩,fun h=>by cases h⟩
        ·show (w.heap.modify L.blk _)[L.blk]? = _
         rw [Array.getElem?_modify,if_pos rfl,a1]; rfl
        ·rw [List.getElem?_map,Option.map_eq_some_iff] at hc
         obtain ⟨p,hp,rfl⟩:=hc
         obtain ⟨hi,hpe⟩:=List.getElem?_eq_some_iff.1 hp
         have hv':v=enc p:=by
          simp only [putCells,Array.getElem?_mapIdx,Option.map_eq_some_iff] at hv
          obtain ⟨z,hz,rfl⟩:=hv
          rw [if_pos ⟨Nat.zero_le _,by simpa using hi⟩]
          congr 1
          simp [hi,hpe]
         rw [hv']
         exact (hva p).mono (fun _ _ h=>h) (fun _ h=>h) hFw) rfl
      obtain ⟨r1,r2⟩:=tM p1 os
      exact ⟨_,rfl,μ,.tup [] #[] rfl (fun i c v h=>by simp at h),r1,p2.trans r2⟩
     ·cases h
    ·cases h
   ·cases h
  ·cases h
 ·cases h
end
section
variable {P:Program} {μ:Mu} {F:Nat->Prop} {H:Heap} {w:World} {T:Tm} {a:Act} {B:Nat}
theorem tn {tmps:Array Value} {r:ResultVar} {ar:Nat × Option (Option Nat)} {v:AV} (hT:LR μ F w T tmps.toList) (hH:HR P μ F H w) (hr:sC P r=some ar) (h:kE T H ar=some v) :
  ∃ u,((match r with | .tmp t=>pure (tmps.getD t undef) | .cell a t=>do loadVar t (<- asAddr (tmps.getD a undef)):Sem Value)).run P w=.ok u w/\VR μ F w v u:=by
 have hg:=fun t=>np (a:=⟨tmps,[]⟩) hT t
 cases r with
 | tmp t=>cases hr; cases h; exact ⟨_,rfl,hg t⟩
 | cell a t =>
  simp only [sC,Option.bind_eq_bind,Option.bind_eq_some_iff] at hr
  obtain ⟨k,hk,hr⟩:=hr
  cases hr
  simp only [kE] at h
  have hx:=hg a
  split at h
  ·rename_i b o e
   rw [e] at hx
   obtain ⟨L,hL,hp⟩:=lx hx
   split at h
   ·rename_i cs ty rw hb
    obtain ⟨arr,fr,h1,h2,h3,h4,h5,h6,h7⟩:=gj hH hb hL
    obtain ⟨u,hu,hr⟩:=qv (o:=o) (off:=0) h1 (by omega) (by simpa using h5) hk h
    rw [Nat.zero_add] at hu
    simp only at hp
    refine ⟨u,?_,hr⟩
    simp only [Sem.run_bind,hp,asAddr,Sem.run_pure,Result.andThen_ok,hu]
   ·cases h
  ·cases h
theorem kr {tmps:Array Value} (hT:LR μ F w T tmps.toList) (hH:HR P μ F H w):∀ (rs:List ResultVar) (ars:List (Nat × Option (Option Nat))) (vs:List AV),rs.mapM (sC P)=some ars->ars.mapM (kE T H)=some vs ->
  ∃ us:List Value,(rs.mapM fun | .tmp t=>pure (tmps.getD t undef) | .cell a t=>do loadVar t (<- asAddr (tmps.getD a undef)):Sem (List Value)).run P w=.ok us w/\LR μ F w vs us
 | [],ars,vs,h,h'=>by simp at h; subst h; simp at h'; subst h'; exact ⟨[],by simp,LR.nil⟩
 | r :: rs,ars,vs,h,h'=>by
  simp only [List.mapM_cons,Option.pure_def,Option.bind_eq_bind,Option.bind_eq_some_iff] at h
  obtain ⟨x,hx,xs,hxs,h⟩:=h
  cases h
  simp only [List.mapM_cons,Option.pure_def,Option.bind_eq_bind,Option.bind_eq_some_iff] at h'
  obtain ⟨y,hy,ys,hys,h'⟩:=h'
  cases h'
  obtain ⟨u,hu,hr⟩:=tn hT hH hx hy
  obtain ⟨us,hus,hrs⟩:=kr hT hH rs xs ys hxs hys
  refine ⟨u :: us,?_,LR.cons hr hrs⟩
  simp only [List.mapM_cons,Sem.run_bind,hu,Result.andThen_ok,hus,Sem.run_pure]
theorem oM {fn:Func} {tmps:Array Value} {ars:List (Nat × Option (Option Nat))} {v:AV} (hT:LR μ F w T tmps.toList) (hH:HR P μ F H w) (hars:fn.results.toList.mapM (sC P)=some ars) (h:co T H ars=some v) :
  ∃ u,(results fn tmps).run P w=.ok u w/\VR μ F w v u:=by
 simp only [co,Option.bind_eq_bind,Option.bind_eq_some_iff] at h
 obtain ⟨vs,hvs,h⟩:=h
 obtain ⟨us,hus,hr⟩:=kr hT hH _ _ _ hars hvs
 have hm:(fn.results.mapM fun | .tmp t=>pure (tmps.getD t undef) | .cell a t=>do loadVar t (<- asAddr (tmps.getD a undef)):Sem (Array Value)).run P w=.ok us.toArray w:=by
  rw [Array.mapM_eq_mapM_toList]
  simp only [Sem.run_map,hus,Result.andThen_ok]
 have hres:(results fn tmps).run P w=.ok (if h:us.toArray.size=1 then us.toArray[0] else .tuple us.toArray) w:=by
  unfold results
  simp only [Sem.run_bind]
  exact (congrArg (fun r:Result (Array Value)=>r.andThen fun a w'=>Sem.run P (pure (if h:a.size=1 then a[0] else Value.tuple a)) w') hm)
 refine ⟨_,hres,?_⟩
 split at h
 ·cases h
  match us,hr with
  | [u],hr=>exact hr.head
  | [],hr=>have:=hr.1; simp at this
  | _ :: _ :: _,hr=>have:=hr.1; simp at this
 ·rename_i hne
  cases h
  have hl:=hr.1
  have h1:us.toArray.size≠1:=by
   intro e
   simp at e
   match vs,hl with
   | [v],_=>exact hne v rfl
   | [],hl=>simp at hl; omega
   | _ :: _ :: _,hl=>simp at hl; omega
  rw [dif_neg h1]
  exact .tup _ _ (by simpa using hl) fun i c u hc hu=>hr.2 i c u hc (by simpa using hu)
theorem ww (hH:HR P μ F H w) {D:Nat} {o:Obj} (hF:¬ F D) (hn:∀ b L,μ b=some L->L.blk≠D):HR P μ F H (w.putObj D o):=by
 have hw:∀ c,c≠D->(w.putObj D o).heap[c]? = w.heap[c]?:=fun c hc=>World.putObj_heap_other hc
 have hsz:(w.putObj D o).heap.size=w.heap.size:=by simp [World.putObj]
 refine ⟨fun b L hb=>?_,fun c hc=>?_,fun b e hb=>?_,hH.inj,fun g cs hg=>(hH.gl g cs hg).mono (fun _ _ h=>h) (fun _ h=>h) fun c hc=>hw c fun e=>hF (e ▸ hc)⟩
 ·rw [hsz]; exact hH.dom b L hb
 ·rw [hsz]; exact hH.fb c hc
 ·obtain ⟨L,hL,hE⟩:=hH.ent b e hb
  exact ⟨L,hL,hE.mono (fun _ _ h=>h) (fun _ h=>h) (fun c hc=>hw c fun e=>hF (e ▸ hc)) (hw _ (hn b L hL)) (fun hr=>hE.notF hr)⟩
theorem lG {fn:Func} {tmps:Array Value} {ars:List (Nat × Option (Option Nat))} {v:AV} {μ0:Mu} {H0:Heap} {w0:World} (n:Nat) (hars:fn.results.toList.mapM (sC P)=some ars) (hv:co T H ars=some v) :
  ∀ (Ds:List Nat) (w:World),Ds.Nodup->(∀ D∈Ds,w0.heap.size<=D/\D<w.heap.size/\w.heap[D]? = some (.deferred (some []))/\¬ F D/\∀ b L,μ b=some L->L.blk≠D) ->
   LR μ F w T tmps.toList->HR P μ F H w->Stp kA P μ0 F H0 w0 μ F H w ->
   LeavesInM Fence.wide n P fn tmps (fun e w'=>∃ u,e=.returned u/\∃ μ',fL kA P μ0 F H0 w0 v H u w' μ') (Ds.map fun D=>{ target:=.collected D,args:=#[] }) .returning w
 | [],w,_,_,hT,hH,hS=>by
  obtain ⟨u,hu,hr⟩:=oM hT hH hars hv
  exact ⟨u,hu,u,rfl,μ,hr,hH,hS⟩
 | D :: Ds,w,hnd,hD,hT,hH,hS=>by
  obtain ⟨g1,g2,g3,g4,g5⟩:=hD D (List.mem_cons_self ..)
  have hnd:=List.nodup_cons.1 hnd
  have hw:∀ c,c≠D->(w.putObj D (.deferred none)).heap[c]? = w.heap[c]?:=fun c hc=>World.putObj_heap_other hc
  have hsz:(w.putObj D (.deferred none)).heap.size=w.heap.size:=by simp [World.putObj]
  refine ⟨fun e=>(by cases e),.inl ⟨D,_,rfl,run_takeDeferred g3,?_⟩⟩
  refine lG n hars hv Ds _ hnd.2 (fun D' hD'=>?_) (hT.mono (fun _ _ h=>h) (fun _ h=>h) fun c hc=>hw c fun e=>g4 (e ▸ hc)) (ww hH g4 g5) ?_
  ·obtain ⟨k1,k2,k3,k4,k5⟩:=hD D' (List.mem_cons_of_mem _ hD')
   exact ⟨k1,by rw [hsz]; exact k2,by rw [hw D' fun e=>hnd.1 (e ▸ hD')]; exact k3,k4,k5⟩
  ·exact ⟨hS.mu,hS.fr,by rw [hsz]; exact hS.size,fun c hc hn=>by rw [hw c (by omega)]; exact hS.keep c hc hn,hS.rw,hS.next,hS.new,hS.rng,hS.old,hS.alv,hS.tape.trans (Tp.same rfl rfl),hS.os,hS.out⟩
theorem qi {μ:Mu} {F:Nat->Prop} {w:World} (n:Nat):LR μ F w (List.replicate n .undef) (List.replicate n undef):=by
 induction n with
 | zero=>exact LR.nil
 | succ n ih=>exact LR.cons (.undef _) ih
theorem ju {cal:iH} (hcal:gL P cal) (hmix:P.follows .mixedOrders=true) {m:Nat} {f:Nat} {fn:Func} {afn:aN} {args:List AV} {v:AV} {H':Heap} (hf:P.funcs[f]? = some fn) (hb:fn.body.isSome=true) (hb2:∀ c,fn.body=some c->aY P c=some afn.body)
  (hars:fn.results.toList.mapM (sC P)=some afn.results) (hnt:afn.ntmps=fn.ntmps)
  (h:pm cal m afn args H=some (v,H')) {vs:List Value} (hvs:LR μ F w args vs) (hH:HR P μ F H w) (n:Nat) {fence:Fence} {rd:Bool} (hF:FenceOK fence rd) :
  CallsIn fence n P f vs.toArray w fun e w'=>∃ u,e=.returned u/\∃ μ',fL kA P μ F H w v H' u w' μ':=by
 have key:CallsIn Fence.wide n P f vs.toArray w fun e w'=>∃ u,e=.returned u/\∃ μ',fL kA P μ F H w v H' u w' μ':=by
  obtain ⟨c,hc⟩:=Option.isSome_iff_exists.1 hb
  unfold pm at h
  split at h
  ·have hstart:xO P (w.heap.size,[]) μ F H w (args++List.replicate (afn.ntmps-args.length) .undef) { tmps:=vs.toArray++Array.replicate (fn.ntmps-vs.toArray.size) undef,defers:=[] }:=by
    refine ⟨?_,hH,DM.nil⟩
    have hl:=hvs.1
    simp only [Array.toList_append,Array.toList_replicate,List.size_toArray]
    rw [<- hl,hnt]
    exact hvs.append (qi _)
   refine callsIn_of_wp_marks hf hc trivial ?_
   have fin:∀ (x:Ex) (T1:Tm) (H1:Heap),(x=.nrm\/x=.ret)->aw cal m false afn.body (args++List.replicate (afn.ntmps-args.length) .undef) H=some (x,T1,H1)->(co T1 H1 afn.results).map (fun v=>(v,H1))=some (v,H') ->
     c.wpIn Fence.wide n P (bodyPostM Fence.wide n P fn fun e w'=>∃ u,e=.returned u/\∃ μ',fL kA P μ F H w v H' u w' μ') { tmps:=vs.toArray++Array.replicate (fn.ntmps-vs.toArray.size) undef,defers:=[] } w:=by
    intro x T1 H1 hx hrun hres
    simp only [Option.map_eq_some_iff] at hres
    obtain ⟨v',hv',hres⟩:=hres
    cases hres
    refine jG hcal hmix c afn.body (hb2 c hc) _ _ _ _ _ hrun Fence.wide n (w.heap.size,[]) μ F w _ _ (.inl ⟨rfl,rfl⟩) (Nat.le_refl _) hstart fun a' w' μ' hS' hst=>?_
    obtain ⟨Ds,e1,e2,e3⟩:=hS'.hD
    have e1:a'.defers=Ds.map (fun D=>({ target:=.collected D,args:=#[] }:Deferred)):=e1.trans (List.append_nil _)
    have:=lG (tmps:=a'.tmps) (fn:=fn) n hars hv' Ds w' e2 e3 hS'.hT hS'.hH hst
    rw [<- e1] at this
    rcases hx with rfl | rfl <;> exact this
   split at h
   ·rename_i T1 H1 hrun; exact fin .nrm T1 H1 (.inl rfl) hrun h
   ·rename_i T1 H1 hrun; exact fin .ret T1 H1 (.inr rfl) hrun h
   ·cases h
  ·cases h
 rcases hF with ⟨_,rfl⟩ | ⟨_,l,rfl⟩
 ·exact key
 ·exact key
def Ah (P:Program) (f:Nat) (e:Ext):Prop:=∀ H args v H',EQ H e args=some (v,H')->∀ (μ:Mu) (F:Nat->Prop) (w:World) (vs:List Value) (fence:Fence) (rd:Bool) (n:Nat),FenceOK fence rd->HR P μ F H w->LR μ F w args vs ->
 Runs fence n P ((callFunc f vs.toArray).run P w) fun u w'=>∃ μ',fL kA P μ F H w v H' u w' μ'
def ExtOK (P:Program) (f:Nat):Ext->Prop
 | .sortF _ gs=>Ab P f gs
 | e=>Ah P f e
theorem ExtOK.old {P:Program} {f:Nat} {e:Ext} (h:ExtOK P f e) (hn:∀ ty gs,e ≠ .sortF ty gs):Ah P f e:=by
 cases e <;> first | exact h | exact absurd rfl (hn _ _)
def vz (P:Program) (tab:Nat->Option aN):Prop:=∀ f afn,tab f=some afn->(∀ e,afn.ext=some e->ExtOK P f e)/\((∀ e,afn.ext=some e->e.code=true)->∃ fn,P.funcs[f]? = some fn/\Ej P fn=some afn)
theorem qR {fn:Func} {afn:aN} (h:Ej P fn=some afn) (he:afn.ext=none):fn.body.isSome=true ∧ (∀ c,fn.body=some c → aY P c=some afn.body) ∧ fn.results.toList.mapM (sC P)=some afn.results ∧ afn.ntmps=fn.ntmps ∧ fn.name ≠ "runtime.NumGoroutine":=by
 unfold Ej at h
 split at h
 ·cases h; cases he
 split at h
 ·cases h; cases he
 split at h
 ·simp only [Option.bind_eq_bind,Option.bind_eq_some_iff] at h
  obtain ⟨t,ht,d,hd,h⟩:=h
  split at h
  ·simp only [Option.bind_eq_some_iff] at h
   obtain ⟨n,hn,b,hb,h⟩:=h
   cases h; cases he
  ·cases h
 ·simp only [Option.bind_eq_bind,Option.bind_eq_some_iff] at h
  obtain ⟨b,hb,h⟩:=h
  split at h
  ·cases h
  ·rename_i hnm
   simp only [Option.bind_eq_some_iff] at h
   obtain ⟨rs,hrs,c,hc,h⟩:=h
   cases h
   exact ⟨by simp [hb],fun c' hc'=>by rw [hb] at hc'; cases hc'; exact hc,hrs,rfl,hnm⟩
theorem rC {μ:Mu} {F:Nat->Prop} {w:World}:∀ (ps:List Nat) (args:List AV) (vs:List Value) (T:Tm) (tm:Array Value),LR μ F w args vs->LR μ F w T tm.toList ->
  LR μ F w (ku T (ps.zip args)) ((ps.zip vs).foldl (fun (t:Array Value) (p:Nat × Value)=>t.setIfInBounds p.1 p.2) tm).toList
 | [],args,vs,T,tm,_,h=>by simpa [ku] using h
 | p :: ps,[],[],T,tm,_,h=>by simpa [ku] using h
 | p :: ps,[],_ :: _,T,tm,h,_=>by have:=h.1; simp at this
 | p :: ps,_ :: _,[],T,tm,h,_=>by have:=h.1; simp at this
 | p :: ps,a :: args,v :: vs,T,tm,hl,h=>by
  simp only [List.zip_cons_cons,ku,List.foldl_cons]
  exact rC ps args vs _ _ hl.tail (by rw [Array.toList_setIfInBounds]; exact h.set p hl.head)
theorem mq {f:Nat} {fn:Func} (hf:P.funcs[f]? = some fn) (hb:fn.body.isSome=true) (hn:fn.name ≠ "runtime.NumGoroutine") (args:Array Value) (w:World):(callFunc f args).run P w=.ok (.enter f args) w:=by
 obtain ⟨c,hc⟩:=Option.isSome_iff_exists.1 hb
 simp [callFunc,hf,hn,hc]
structure Shut (Ds:List Nat) (w w':World):Prop where
 other:∀ c,c ∉ Ds->w'.heap[c]? = w.heap[c]?
 size:w'.heap.size=w.heap.size
 tape:Tp w w'
 os:w'.os=w.os
 out:w'.output=w.output
theorem Shut.nil (w:World):Shut [] w w:=⟨fun _ _=>rfl,rfl,Tp.same rfl rfl,rfl,rfl⟩
theorem Shut.cons {D:Nat} {Ds:List Nat} {w w':World} (h:Shut Ds (w.putObj D (.deferred none)) w'):Shut (D :: Ds) w w' :=
 ⟨fun c hc=>(h.other c fun hm=>hc (List.mem_cons_of_mem _ hm)).trans (World.putObj_heap_other fun e=>hc (e ▸ List.mem_cons_self ..)),h.size.trans (by simp [World.putObj]),(Tp.same rfl rfl).trans h.tape,h.os,h.out⟩
theorem Shut.hr {Ds:List Nat} {w w':World} (h:Shut Ds w w') (hH:HR P μ F H w) (hD:∀ D∈Ds,¬ F D/\∀ b L,μ b=some L->L.blk≠D):HR P μ F H w':=by
 have hF:∀ c,F c->w'.heap[c]? = w.heap[c]?:=fun c hc=>h.other c fun hm=>(hD c hm).1 hc
 refine ⟨fun b L hb=>?_,fun c hc=>?_,fun b e hb=>?_,hH.inj,fun g cs hg=>(hH.gl g cs hg).mono (fun _ _ h=>h) (fun _ h=>h) hF⟩
 ·rw [h.size]; exact hH.dom b L hb
 ·rw [h.size]; exact hH.fb c hc
 ·obtain ⟨L,hL,hE⟩:=hH.ent b e hb
  exact ⟨L,hL,hE.mono (fun _ _ h=>h) (fun _ h=>h) hF (h.other _ fun hm=>(hD _ hm).2 b L hL rfl) (fun hr=>hE.notF hr)⟩
theorem Shut.lr {Ds:List Nat} {w w':World} {as:List AV} {vs:List Value} (h:Shut Ds w w') (hl:LR μ F w as vs) (hD:∀ D∈Ds,¬ F D):LR μ F w' as vs :=
 hl.mono (fun _ _ h=>h) (fun _ h=>h) fun c hc=>h.other c fun hm=>hD c hm hc
theorem Shut.stp {Ds:List Nat} {w0 w w':World} {μ0:Mu} {H0:Heap} (h:Shut Ds w w') (hS:Stp kA P μ0 F H0 w0 μ F H w) (hD:∀ D∈Ds,w0.heap.size<=D):Stp kA P μ0 F H0 w0 μ F H w' :=
 ⟨hS.mu,hS.fr,by rw [h.size]; exact hS.size,fun c hc hn=>(h.other c fun hm=>by have:=hD c hm; omega).trans (hS.keep c hc hn),hS.rw,hS.next,hS.new,hS.rng,hS.old,hS.alv,hS.tape.trans h.tape,h.os.trans hS.os,h.out.trans hS.out⟩
theorem ru {tab:Nat->Option aN} {m:Nat} (hmix:P.follows .mixedOrders=true) (htab:vz P tab) {cal:iH} {pc:xJ} (hpc:ut P pc) (ih:gL P cal):gL P (kp tab pc cal m):=by
 intro t H v H' h μ F w vs fence rd k hF hH hl hround
 cases t with
 | fn f args =>
  simp only [kp] at h
  split at h
  ·cases h
  ·rename_i afn hafn
   obtain ⟨t1,t2⟩:=htab f afn hafn
   refine ⟨fun f args e=>(by cases e),?_⟩
   split at h
   ·rename_i ty gs he
    exact rr ih (t1 _ he) h hF hH hl k
   ·rename_i e hn he
    exact (t1 e he).old hn H args v H' h μ F w vs fence rd k hF hH hl
   ·rename_i he
    obtain ⟨fn,hfn,hcf⟩:=t2 fun e h=>by rw [he] at h; cases h
    obtain ⟨k1,k2,k3,k4,k5⟩:=qR hcf he
    simp only [iq,mq hfn k1 k5,Runs]
    exact ju ih hmix hfn k1 k2 k3 k4 h hl hH k hF
 | ent f args =>
  simp only [kp] at h
  split at h
  ·cases h
  ·rename_i afn hafn
   obtain ⟨t1,t2⟩:=htab f afn hafn
   split at h
   ·cases h
   ·rename_i he
    obtain ⟨fn,hfn,hcf⟩:=t2 fun e h=>by rw [he] at h; cases h
    obtain ⟨k1,k2,k3,k4,k5⟩:=qR hcf he
    refine ⟨fun f' args' e=>by cases e; exact mq hfn k1 k5 _ _,?_⟩
    simp only [iq,mq hfn k1 k5,Runs]
    exact ju ih hmix hfn k1 k2 k3 k4 h hl hH k hF
 | round b args =>
  refine ⟨fun f args e=>(by cases e),?_⟩
  obtain ⟨L,hL⟩:=hround b args rfl
  simp only [kp] at h
  split at h
  ·rename_i T0 ps asg body hb
   split at h
   ·rename_i hlen
    obtain ⟨L',hL',hE⟩:=hH.ent b _ hb
    rw [hL] at hL'; cases hL'
    obtain ⟨hnF,r,g1,g2,g3,g4,g5,g6,g7⟩:=hE
    have hpend:r.pending=none:=by
     cases hp:r.pending with
     | none=>rfl
     | some c=>rw [hp] at g7; exact g7.elim
    have hargs:vs.toArray.size=r.params.size:=by
     have h1:=hl.1
     simp only [Task.args] at h1
     have h2:r.params.size=ps.length:=by rw [<- g4]; simp
     simp; omega
    simp only [iq,hL,run_yield g1 hargs,Runs]
    split at h
    ·rename_i T1 H1 hasg
     split at h
     ·rename_i T00 ps00 asg00 body00 hb1
      split at h
      ·rename_i x T2 H2 hbody
       split at h
       ·rename_i T3 ps3 asg3 body3 hb2
        have key:RoundIn Fence.wide k P L.blk r.fn ((r.params.zip vs.toArray).foldl (fun tmps (t,a)=>tmps.setIfInBounds t a) r.tmps) r.assign r.body w fun e w'=>∃ u,e=.returned u/\∃ μ',fL kA P μ F H w v H' u w' μ':=by
         have hfold:((r.params.zip vs.toArray).foldl (fun tmps (t,a)=>tmps.setIfInBounds t a) r.tmps)=(ps.zip vs).foldl (fun (t:Array Value) (p:Nat × Value)=>t.setIfInBounds p.1 p.2) r.tmps:=by
          rw [<- Array.foldl_toList,Array.toList_zip,g4]
         rw [hfold]
         refine roundIn_of_wpIn trivial ?_
         have hst0:xO P (w.heap.size,[]) μ F H w (ku T0 (ps.zip args)) { tmps:=(ps.zip vs).foldl (fun (t:Array Value) (p:Nat × Value)=>t.setIfInBounds p.1 p.2) r.tmps,defers:=[] } :=
          ⟨rC ps args vs T0 r.tmps hl g3,hH,DM.nil⟩
         refine jG ih hmix r.assign asg g5 _ _ _ _ _ hasg (Fence.wide.inRound L.blk) k (w.heap.size,[]) μ F w _ _ (.inr ⟨rfl,_,rfl⟩) (Nat.le_refl _) hst0 fun a1 w1 μ1 hS1 hst1=>?_
         obtain ⟨L1,hL1,hE1⟩:=hS1.hH.ent b _ hb1
         rw [hst1.mu _ _ hL] at hL1; cases hL1
         obtain ⟨hnF1,r1,q1,q2,q3,q4,q5,q6,q7⟩:=hE1
         have hlt1:=(Array.getElem?_eq_some_iff.1 q1).1
         refine ⟨_,run_beginRound q1 q2,?_⟩
         obtain ⟨hP1,hP2⟩:=gg (I:=kA) (e:=.loop T00 ps00 asg00 body00 .busy none) hS1.hH hb1 rfl (hst1.mu _ _ hL) (w1.putObj L.blk (.loop { r1 with state:=.busy })) (fun c hc=>World.putObj_heap_other hc) (by simp [World.putObj]) (Tp.same rfl rfl) rfl rfl
          (fun hw=>⟨hnF1,_,World.putObj_heap_same hlt1,rfl,q3.mono (fun _ _ h=>h) (fun _ h=>h) hw,q4,q5,q6,q7⟩) rfl
         have hS1':xO P (w.heap.size,[]) μ1 F (H1.put b (.loop T00 ps00 asg00 body00 .busy none)) (w1.putObj L.blk (.loop { r1 with state:=.busy })) T1 a1:=⟨hP2.lr hS1.hH hS1.hT,hP1,hS1.hD.stp hP2⟩
         refine jG ih hmix r.body body g6 _ _ _ _ _ hbody (Fence.wide.inRound L.blk) k (w.heap.size,[]) μ1 F _ _ _ (.inr ⟨rfl,_,rfl⟩) (Nat.le_trans hst1.size hP2.size) hS1' fun a2 w2 μ2 hS2 hst2=>?_
         obtain ⟨L2,hL2,hE2⟩:=hS2.hH.ent b _ hb2
         rw [hst2.mu _ _ (hst1.mu _ _ hL)] at hL2; cases hL2
         obtain ⟨hnF2,r2,s1,s2,s3,s4,s5,s6,s7⟩:=hE2
         have hlt2:=(Array.getElem?_eq_some_iff.1 s1).1
         have fin:∀ (jump:Option Code) (st:LoopState) (pe:Option ACode) (bv:Bool),(if jump.isNone then LoopState.ready else .done)=st->jump.isNone=bv->(match pe,jump with | none,none=>True | some c,some c'=>aY P c'=some c | _,_=>False) ->
           some (AV.bool bv,H2.put b (.loop T3 ps3 asg3 body3 st pe))=some (v,H') ->
           ∃ u w',(Instr.endRound L.blk jump).run P w2=.ok u w'/\∃ u',Ending.returned u=.returned u'/\∃ μ',fL kA P μ F H w v H' u' w' μ':=by
          intro jump st pe bv e1 e2 e3 e4
          cases e4
          subst e2
          refine ⟨_,_,run_endRound jump s1,_,rfl,μ2,?_⟩
          obtain ⟨z1,z2⟩:=gg (I:=kA) (e:=.loop T3 ps3 asg3 body3 st pe) hS2.hH hb2 rfl (hst2.mu _ _ (hst1.mu _ _ hL)) (w2.putObj L.blk (.loop { r2 with state:=if jump.isNone then .ready else .done,pending:=jump })) (fun c hc=>World.putObj_heap_other hc) (by simp [World.putObj]) (Tp.same rfl rfl) rfl rfl
           (fun hw=>⟨hnF2,_,World.putObj_heap_same hlt2,e1,s3.mono (fun _ _ h=>h) (fun _ h=>h) hw,s4,s5,s6,e3⟩) rfl
          exact ⟨.bool _,z1,((hst1.trans hP2).trans hst2).trans z2⟩
         cases x with
         | nrm=>exact fin none .ready none true rfl rfl trivial h
         | ret=>exact fin (some .ret) .done (some .ret) false rfl rfl rfl h
         | exit id=>exact fin (some (.exit id)) .done (some (.exit id)) false rfl rfl rfl h
         | goto g=>exact fin (some (.goto g)) .done (some (.goto g)) false rfl rfl rfl h
        rcases hF with ⟨_,rfl⟩ | ⟨_,l,rfl⟩
        ·exact key
        ·exact key
       ·cases h
      ·cases h
     ·cases h
    ·cases h
   ·cases h
  ·cases h
theorem nJ {tab:Nat->Option aN} {m:Nat} {pc:xJ} (hpc:ut P pc) (hmix:P.follows .mixedOrders=true) (htab:vz P tab):∀ n,gL P (gy tab pc m n)
 | 0=>fun t H v H' h=>by cases h
 | n+1=>ru hmix htab hpc (nJ hpc hmix htab n)
end
section
variable {α:Type} (Good:Nat->α->Prop)
def G0 (f:Nat):Option α->Prop
 | none=>True
 | some a=>Good f a
def G1 (f:Nat) (q:Q (Option α)):Prop:=G0 Good (8*f) q.a/\G0 Good (8*f+1) q.b/\G0 Good (8*f+2) q.c/\G0 Good (8*f+3) q.d/\G0 Good (8*f+4) q.e/\G0 Good (8*f+5) q.f/\G0 Good (8*f+6) q.g/\G0 Good (8*f+7) q.h
def G2 (f:Nat) (q:Q (Q (Option α))):Prop:=G1 Good (8*f) q.a/\G1 Good (8*f+1) q.b/\G1 Good (8*f+2) q.c/\G1 Good (8*f+3) q.d/\G1 Good (8*f+4) q.e/\G1 Good (8*f+5) q.f/\G1 Good (8*f+6) q.g/\G1 Good (8*f+7) q.h
def G3 (f:Nat) (q:Q (Q (Q (Option α)))):Prop:=G2 Good (8*f) q.a/\G2 Good (8*f+1) q.b/\G2 Good (8*f+2) q.c/\G2 Good (8*f+3) q.d/\G2 Good (8*f+4) q.e/\G2 Good (8*f+5) q.f/\G2 Good (8*f+6) q.g/\G2 Good (8*f+7) q.h
def G4 (f:Nat) (q:Q (Q (Q (Q (Option α))))):Prop:=G3 Good (8*f) q.a/\G3 Good (8*f+1) q.b/\G3 Good (8*f+2) q.c/\G3 Good (8*f+3) q.d/\G3 Good (8*f+4) q.e/\G3 Good (8*f+5) q.f/\G3 Good (8*f+6) q.g/\G3 Good (8*f+7) q.h
variable {Good}
end
theorem Tr.nil_get0 (b:Nat):Tr.nil.get b=none:=by
 have:∀ {α:Type} (d:D8) (x:α),Q.at d (Q.all x)=x:=fun d x=>by cases d <;> rfl
 unfold Tr.get Tr.nil
 cases Nat.ble b 16777215 with
 | false=>rfl
 | true=>simp only [this]
theorem Tr.nil_get (n b:Nat):Heap.get (Heap.nil n) b=none:=by
 have h:Nat.ble (Nat.succ b) 0=false:=rfl
 unfold Heap.nil Heap.get
 simp only [h]
 exact Tr.nil_get0 b
def vA (P:Program) (f:Nat) (afn:aN):Prop:=(∀ e,afn.ext=some e->ExtOK P f e)/\((∀ e,afn.ext=some e->e.code=true)->∃ fn,P.funcs[f]? = some fn/\Ej P fn=some afn)
theorem yG {P:Program} {f:Nat} {fn:Func} {afn:aN} (hf:P.funcs[f]? = some fn) (hc:Ej P fn=some afn) (he:afn.ext.isNone=true):vA P f afn:=by
 refine ⟨fun e h=>?_,fun _=>⟨fn,hf,hc⟩⟩
 rw [h] at he; cases he
def GlobW (w:World):Prop:=∀ g cs,xK g=some cs->VR (fun _=>none) (fun c=>(xK c).isSome=true) w (.dp cs 0) (.pointer (some ⟨g,0,none⟩))
theorem yI {P:Program} {w:World} (hG:GlobW w):HR P (fun _=>none) (fun c=>(xK c).isSome=true) (Heap.nil 0) w:=by
 refine ⟨fun b L h=>(by cases h),fun c h=>?_,fun b e h=>?_,fun b b' e e' L L' h=>?_,hG⟩
 ·cases hc:xK c with
  | none=>rw [hc] at h; cases h
  | some cs =>
   have:=hG c cs hc
   cases this with
   | dp _ _ _ _ _ _ _ _ hb _ _=>exact (Array.getElem?_eq_some_iff.1 hb).1
 ·rw [Tr.nil_get] at h; cases h
 ·rw [Tr.nil_get] at h; cases h
def dP:xJ:=fun _ _=>none
def FS (tab:Nat->Option aN) (t:Task) (H:Heap) (v:AV) (H':Heap):Prop:=∃ N,∀ m n,N<=m->N<=n->gy tab dP m n t H=some (v,H')
def Ans (tab:Nat->Option aN) (t:Task) (H:Heap) (Q:AV->Heap->Prop):Prop:=∃ v H',FS tab t H v H'/\Q v H'
def Eg (tab:Nat->Option aN) (rd:Bool) (c:ACode) (T:Tm) (H:Heap) (x:Ex) (T':Tm) (H':Heap):Prop:=∃ N,∀ m n,N<=m->N<=n->aw (gy tab dP m n) m rd c T H=some (x,T',H')
theorem Ans.mono {tab:Nat->Option aN} {t:Task} {H:Heap} {Q Q':AV->Heap->Prop} (h:Ans tab t H Q) (hq:∀ v H',Q v H'->Q' v H'):Ans tab t H Q':=by
 obtain ⟨v,H',hb,h⟩:=h
 exact ⟨v,H',hb,hq v H' h⟩
section
variable (tab:Nat->Option aN)
def fq (ev:Src->AV) (H:Heap) (id:Nat) (o:AOp) (Q:AV->Heap->Prop):Prop :=
 match o with
 | .call f args=>∃ t,gE (ev f) (args.map ev)=some t/\Ans tab t H Q
 | o=>match aF ev o with
  | some v=>Q v H
  | none=>match aX ev H id o with
   | some (v,H')=>Q v H'
   | none=>False
def mD:Nat->List oF->Tm->Heap->(Tm->Heap->Prop)->Prop
 | _,[],T,H,Q=>Q T H
 | id,o :: os,T,H,Q =>
  match bG T o.guard with
  | some true=>fq tab (Src.ev T) H id o.op fun v H'=>mD (id+1) os (gN T o.dst v) H' Q
  | some false=>mD (id+1) os (gN T o.dst (.tup [])) H Q
  | none=>False
def nc (rd:Bool):ACode->Tm->Heap->(Ex->Tm->Heap->Prop)->Prop
 | .skip,T,H,Q=>Q .nrm T H
 | .region ops,T,H,Q=>mD tab H.next ops T { H with next:=H.next+ops.length } (Q .nrm)
 | .seq a b,T,H,Q=>nc rd a T H fun x T' H'=>match x with
  | .nrm=>nc rd b T' H' Q
  | x=>Q x T' H'
 | .cond c a b,T,H,Q=>match c.ev T with
  | .bool true=>nc rd a T H Q
  | .bool false=>nc rd b T H Q
  | _=>False
 | .block id body,T,H,Q=>nc rd body T H fun x T' H'=>match x with
  | .exit id'=>if id'=id then Q .nrm T' H' else Q (.exit id') T' H'
  | x=>Q x T' H'
 | .exit id,T,H,Q=>Q (.exit id) T H
 | .goto l,T,H,Q=>Q (.goto l) T H
 | .ret,T,H,Q=>Q .ret T H
 | .scope a,T,H,Q=>nc rd a T H fun x T' H'=>match x with
  | .goto _=>False
  | x=>Q x T' H'
 | c,T,H,Q=>∃ x T' H',Eg tab rd c T H x T' H'/\Q x T' H'
end
section
variable {tab:Nat->Option aN}
theorem gY {T:Tm} {H:Heap} {id:Nat} {o:AOp} {Q:AV->Heap->Prop} (h:fq tab (Src.ev T) H id o Q):∃ v H',Q v H'/\∃ N,∀ m n,N<=m->N<=n->nh (gy tab dP m n) (Src.ev T) H id o=some (v,H'):=by
 have other:∀ (hc:∀ f args,o ≠ .call f args) (h:match aF (Src.ev T) o with | some v=>Q v H | none=>match aX (Src.ev T) H id o with | some (v,H')=>Q v H' | none=>False),
   (∀ cal,nh cal (Src.ev T) H id o=match aF (Src.ev T) o with | some v=>some (v,H) | none=>aX (Src.ev T) H id o)->∃ v H',Q v H'/\∃ N,∀ m n,N<=m->N<=n->nh (gy tab dP m n) (Src.ev T) H id o=some (v,H'):=by
  intro hc h e
  split at h
  ·rename_i v hv
   refine ⟨v,H,h,0,fun m n _ _=>?_⟩
   rw [e,hv]
  ·rename_i hv
   split at h
   ·rename_i v H' hh
    refine ⟨v,H',h,0,fun m n _ _=>?_⟩
    rw [e,hv]; exact hh
   ·exact h.elim
 cases o
 case call f args =>
  obtain ⟨t,ht,v,H',⟨N,hN⟩,hq⟩:=h
  refine ⟨v,H',hq,N,fun m n hm hn=>?_⟩
  simp only [nh,ht,Option.bind_eq_bind,Option.bind_some]
  exact hN m n hm hn
 all_goals exact other (fun f args e=>by cases e) h (fun cal=>rfl)
theorem jr:∀ (ops:List oF) (id:Nat) (T:Tm) (H:Heap) (Q:Tm->Heap->Prop),mD tab id ops T H Q->∃ T' H',Q T' H'/\∃ N,∀ m n,N<=m->N<=n->io (gy tab dP m n) id ops T H=some (T',H')
 | [],id,T,H,Q,h=>⟨T,H,h,0,fun _ _ _ _=>rfl⟩
 | o :: os,id,T,H,Q,h=>by
  unfold mD at h
  split at h
  ·rename_i hw
   obtain ⟨v,H1,h1,N1,g1⟩:=gY h
   obtain ⟨T',H',hq,N2,g2⟩:=jr os _ _ _ _ h1
   refine ⟨T',H',hq,N1+N2,fun m n hm hn=>?_⟩
   unfold io
   rw [hw]
   simp only
   rw [g1 m n (by omega) (by omega)]
   exact g2 m n (by omega) (by omega)
  ·rename_i hw
   obtain ⟨T',H',hq,N2,g2⟩:=jr os _ _ _ _ h
   refine ⟨T',H',hq,N2,fun m n hm hn=>?_⟩
   unfold io
   rw [hw]
   exact g2 m n hm hn
  ·exact h.elim
theorem fC {rd:Bool}:∀ (c:ACode) (T:Tm) (H:Heap) (Q:Ex->Tm->Heap->Prop),nc tab rd c T H Q->∃ x T' H',Eg tab rd c T H x T' H'/\Q x T' H'
 | .skip,T,H,Q,h=>⟨.nrm,T,H,⟨0,fun _ _ _ _=>rfl⟩,h⟩
 | .exit id,T,H,Q,h=>⟨.exit id,T,H,⟨0,fun _ _ _ _=>rfl⟩,h⟩
 | .goto l,T,H,Q,h=>⟨.goto l,T,H,⟨0,fun _ _ _ _=>rfl⟩,h⟩
 | .ret,T,H,Q,h=>⟨.ret,T,H,⟨0,fun _ _ _ _=>rfl⟩,h⟩
 | .region ops,T,H,Q,h=>by
  obtain ⟨T',H',hq,N,g⟩:=jr ops _ _ _ _ h
  refine ⟨.nrm,T',H',⟨N,fun m n hm hn=>?_⟩,hq⟩
  simp only [aw,g m n hm hn]
 | .seq a b,T,H,Q,h=>by
  obtain ⟨x,T1,H1,⟨N1,g1⟩,h1⟩:=fC a _ _ _ h
  by_cases hx:x=.nrm
  ·subst hx
   obtain ⟨y,T2,H2,⟨N2,g2⟩,h2⟩:=fC b _ _ _ h1
   refine ⟨y,T2,H2,⟨N1+N2,fun m n hm hn=>?_⟩,h2⟩
   simp only [aw,g1 m n (by omega) (by omega)]
   exact g2 m n (by omega) (by omega)
  ·refine ⟨x,T1,H1,⟨N1,fun m n hm hn=>?_⟩,?_⟩
   ·simp only [aw,g1 m n hm hn]
    all_goals (cases x <;> first | rfl | exact absurd rfl hx)
   ·cases x <;> first | exact h1 | exact absurd rfl hx
 | .cond c a b,T,H,Q,h=>by
  unfold nc at h
  split at h
  ·rename_i hc
   obtain ⟨x,T1,H1,⟨N1,g1⟩,h1⟩:=fC a _ _ _ h
   exact ⟨x,T1,H1,⟨N1,fun m n hm hn=>by simp only [aw,hc]; exact g1 m n hm hn⟩,h1⟩
  ·rename_i hc
   obtain ⟨x,T1,H1,⟨N1,g1⟩,h1⟩:=fC b _ _ _ h
   exact ⟨x,T1,H1,⟨N1,fun m n hm hn=>by simp only [aw,hc]; exact g1 m n hm hn⟩,h1⟩
  ·exact h.elim
 | .block id body,T,H,Q,h=>by
  obtain ⟨x,T1,H1,⟨N1,g1⟩,h1⟩:=fC body _ _ _ h
  cases x with
  | exit id' =>
   simp only at h1
   by_cases hi:id'=id
   ·rw [if_pos hi] at h1
    exact ⟨.nrm,T1,H1,⟨N1,fun m n hm hn=>by simp only [aw,g1 m n hm hn,if_pos hi]⟩,h1⟩
   ·rw [if_neg hi] at h1
    exact ⟨.exit id',T1,H1,⟨N1,fun m n hm hn=>by simp only [aw,g1 m n hm hn,if_neg hi]⟩,h1⟩
  | nrm=>exact ⟨_,T1,H1,⟨N1,fun m n hm hn=>by simp only [aw,g1 m n hm hn]⟩,h1⟩
  | goto l=>exact ⟨_,T1,H1,⟨N1,fun m n hm hn=>by simp only [aw,g1 m n hm hn]⟩,h1⟩
  | ret=>exact ⟨_,T1,H1,⟨N1,fun m n hm hn=>by simp only [aw,g1 m n hm hn]⟩,h1⟩
 | .scope a,T,H,Q,h=>by
  obtain ⟨x,T1,H1,⟨N1,g1⟩,h1⟩:=fC a _ _ _ h
  cases x with
  | goto l=>exact h1.elim
  | nrm=>exact ⟨_,T1,H1,⟨N1,fun m n hm hn=>by simp only [aw,g1 m n hm hn]⟩,h1⟩
  | exit l=>exact ⟨_,T1,H1,⟨N1,fun m n hm hn=>by simp only [aw,g1 m n hm hn]⟩,h1⟩
  | ret=>exact ⟨_,T1,H1,⟨N1,fun m n hm hn=>by simp only [aw,g1 m n hm hn]⟩,h1⟩
 | .loop body,T,H,Q,h=>h
 | .rangeFunc ..,T,H,Q,h=>h
 | .draw ..,T,H,Q,h=>h
 | .drawF ..,T,H,Q,h=>h
 | .rangeM ..,T,H,Q,h=>h
 | .scopeL ..,T,H,Q,h=>h
theorem D9 {f:Nat} {fn:aN} {args:List AV} {H:Heap} {Q:AV->Heap->Prop} (hf:tab f=some fn) (he:fn.ext=none) (hl:args.length=fn.nparams)
  (h:nc tab false fn.body (args++List.replicate (fn.ntmps-args.length) .undef) H fun x T' H'=>(x=.nrm\/x=.ret)/\∃ v,co T' H' fn.results=some v/\Q v H'):Ans tab (.fn f args) H Q:=by
 obtain ⟨x,T',H',⟨N,g⟩,hx,v,hv,hq⟩:=fC _ _ _ _ h
 refine ⟨v,H',⟨N+1,fun m n hm hn=>?_⟩,hq⟩
 obtain ⟨n',rfl⟩:∃ n',n=n'+1:=⟨n-1,by omega⟩
 show kp tab dP (gy tab dP m n') m (.fn f args) H=_
 simp only [kp,hf,he,pm,if_pos hl]
 rw [g m n' (by omega) (by omega)]
 rcases hx with rfl | rfl <;> simp [hv]
end
structure Sub (H H':Heap):Prop where
 next:H.next<=H'.next
 get:∀ b e,H.get b=some e->H'.get b=some e
def Wf (H:Heap):Prop:=∀ b e,H.get b=some e->b<H.next
theorem Sub.refl (H:Heap):Sub H H:=⟨Nat.le_refl _,fun _ _ h=>h⟩
theorem Sub.trans {H H' H'':Heap} (h:Sub H H') (h':Sub H' H''):Sub H H'':=⟨Nat.le_trans h.next h'.next,fun b e hb=>h'.get b e (h.get b e hb)⟩
theorem Sub.bump (H:Heap) (k:Nat):Sub H { H with next:=H.next+k }:=⟨Nat.le_add_right _ _,fun _ _ h=>h⟩
theorem Sub.bump_r {H H':Heap} (h:Sub H H') (k:Nat):Sub H { H' with next:=H'.next+k }:=h.trans (Sub.bump H' k)
theorem Wf.bump {H:Heap} (h:Wf H) (k:Nat):Wf { H with next:=H.next+k }:=fun b e hb=>Nat.lt_of_lt_of_le (h b e hb) (Nat.le_add_right _ _)
theorem Wf.put {H:Heap} (h:Wf H) {b:Nat} (hb:b<H.next) (e:Ent):Wf (H.put b e):=fun c e' hc=>by
 rw [Heap.get_put] at hc
 split at hc
 ·rename_i h1; subst h1; exact hb
 ·exact h c e' hc
theorem Wf.kill {H:Heap} (h:Wf H) (b:Nat):Wf (H.kill b):=fun c e' hc=>by
 rw [Heap.get_kill] at hc
 split at hc
 ·cases hc
 ·exact h c e' hc
theorem Sub.put {H H':Heap} (h:Sub H H') {b:Nat} (hb:H.get b=none) (e:Ent):Sub H (H'.put b e):=⟨h.next,fun c e' hc=>by
 rw [Heap.get_put]
 split
 ·rename_i h1; subst h1; rw [hb] at hc; cases hc
 ·exact h.get c e' hc⟩
theorem Sub.kill {H H':Heap} (h:Sub H H') {b:Nat} (hb:H.get b=none):Sub H (H'.kill b):=⟨h.next,fun c e' hc=>by
 rw [Heap.get_kill]
 split
 ·rename_i h1; subst h1; rw [hb] at hc; cases hc
 ·exact h.get c e' hc⟩
theorem Wf.fresh {H:Heap} (h:Wf H) {b:Nat} (hb:H.next<=b):H.get b=none:=by
 cases hg:H.get b with
 | none=>rfl
 | some e=>have:=h b e hg; omega
def EX:AV->Prop
 | .own _ _ n c _ _=>n<=c
 | _=>True
def Rd (H:Heap) (sz:Nat) (v:AV) (cells:List AV):Prop:=EX v/\(∀ s,v ≠ .str s)/\∃ n,gG v=some n/\bE H sz n v=some cells
theorem mM {H H':Heap} (h:Sub H H') {sz n:Nat} {v:AV} {cells:List AV} (hf:bE H sz n v=some cells):bE H' sz n v=some cells:=by
 unfold bE at hf ⊢
 split at hf
 ·split at hf
  ·rename_i cs ty rw hb
   rw [h.get _ _ hb]; exact hf
  ·cases hf
 ·exact hf
 ·exact hf
 ·exact hf
 ·cases hf
theorem Rd.mono {H H':Heap} (h:Sub H H') {sz:Nat} {v:AV} {cells:List AV} (hr:Rd H sz v cells):Rd H' sz v cells:=by
 obtain ⟨h0,h1,n,h2,h3⟩:=hr
 exact ⟨h0,h1,n,h2,mM h h3⟩
theorem Rd.nil (H:Heap) (sz:Nat):Rd H sz .nilSl []:=⟨trivial,fun s h=>(by cases h),0,rfl,rfl⟩
theorem Rd.own {H:Heap} {sz b n c:Nat} {ex:Bool} {cs:List AV} {ty:Nat} {rw:Bool} (hb:H.get b=some (.cells cs ty rw)) (hn:cs.length=n*sz) (hc:n<=c):Rd H sz (.own b 0 n c sz ex) cs:=by
 refine ⟨hc,fun s h=>(by cases h),n,rfl,?_⟩
 simp only [bE,hb]
 rw [if_pos (by simp; omega)]
 simp [<- hn]
theorem Rd.length {H:Heap} {sz:Nat} {v:AV} {cells:List AV} (h:Rd H sz v cells):∃ n,gG v=some n/\cells.length=n*sz:=by
 obtain ⟨-,h1,n,h2,h3⟩:=h
 refine ⟨n,h2,?_⟩
 unfold bE at h3
 split at h3
 ·split at h3
  ·split at h3
   ·rename_i hc; cases h3; simp; omega
   ·cases h3
  ·cases h3
 ·split at h3
  ·rename_i hc; cases h3; simp; omega
  ·cases h3
 ·split at h3
  ·rename_i hc; cases h3; simp [hc]
  ·cases h3
 ·exact absurd rfl (h1 _)
 ·cases h3
def br (v:AV) (o:Nat):AV:=match v with
 | .own b off _ _ _ _=>.ptr b (off+o)
 | .sl cs _=>.dp cs o
 | _=>.undef
theorem Rd.index {H:Heap} {sz:Nat} {v:AV} {cells:List AV} (h:Rd H sz v cells) {ev:Src->AV} {x i:Src} {k:IntKind} {j:Nat} (hx:ev x=v) (hi:ev i=.int k (j:Int)) (hj:j*sz+sz<=cells.length) (hsz:0<sz):aF ev (.indexAddr sz x i)=some (br v (j*sz)):=by
 obtain ⟨n,hn,hl⟩:=h.length
 obtain ⟨-,h1,m,h2,h3⟩:=h
 rw [hn] at h2; cases h2
 have hjn:j<n:=by
  apply Nat.lt_of_not_le
  intro hle
  have:=Nat.mul_le_mul_right sz hle
  omega
 have ha:iU (.int k (j:Int))=some j:=rfl
 simp only [aF,hx,hi,ha,Option.bind_eq_bind,Option.bind_some]
 unfold bE at h3
 split at h3
 ·split at h3
  ·split at h3
   ·rename_i hc
    simp only [gG,Option.some.injEq] at hn
    subst hn
    show (if j<_/\_=sz then some _ else none)=_
    rw [if_pos ⟨hjn,hc.1⟩]
    rfl
   ·cases h3
  ·cases h3
 ·split at h3
  ·simp only [gG,Option.some.injEq] at hn
   subst hn
   show (if j<_ then some _ else none)=_
   rw [if_pos hjn]
   rfl
  ·cases h3
 ·simp only [gG,Option.some.injEq] at hn
  omega
 ·exact absurd rfl (h1 _)
 ·cases h3
theorem nD {cs:List AV} {off n o:Nat} {k:Option Nat} {w:AV} (ho:off<=cs.length) (h:aB ((cs.drop off).take n) o k=some w):aB cs (off+o) k=some w:=by
 unfold aB at h ⊢
 cases k with
 | none =>
  simp only at h ⊢
  rw [List.getElem?_take] at h
  split at h
  ·rw [List.getElem?_drop] at h; exact h
  ·cases h
 | some m =>
  simp only at h ⊢
  split at h
  ·rename_i hle
   cases h
   simp only [List.length_take,List.length_drop] at hle
   rw [if_pos (by omega)]
   congr 2
   apply List.ext_getElem?
   intro i
   simp only [List.getElem?_take,List.getElem?_drop]
   split
   ·rw [if_pos (by omega)]; congr 1; omega
   ·rfl
  ·cases h
theorem Rd.load {H:Heap} {sz:Nat} {v:AV} {cells:List AV} (h:Rd H sz v cells) {o:Nat} {k:Option Nat} {w:AV} (hk:k≠some 0) (hw:aB cells o k=some w):bC H k (br v o)=some w:=by
 obtain ⟨-,h1,n,h2,h3⟩:=h
 unfold bE at h3
 split at h3
 ·split at h3
  ·rename_i hb
   split at h3
   ·rename_i hc
    cases h3
    simp only [br,bC,hb]
    exact nD (by omega) hw
   ·cases h3
  ·cases h3
 ·split at h3
  ·cases h3
   simp only [br,bC]
   have:=nD (off:=0) (Nat.zero_le _) (by simpa using hw)
   simpa using this
  ·cases h3
 ·split at h3
  ·cases h3
   unfold aB at hw
   cases k <;> simp at hw
   rename_i m
   exact absurd (by rw [hw.1.2]) hk
  ·cases h3
 ·exact absurd rfl (h1 _)
 ·cases h3
theorem Rd.len {H:Heap} {sz:Nat} {v:AV} {cells:List AV} (h:Rd H sz v cells) {ev:Src->AV} {x:Src} (hx:ev x=v) {n:Nat} (hn:cells.length=n*sz) (hsz:0<sz):aF ev (.len x)=some (.int .i64 (n:Int)):=by
 obtain ⟨m,hm,hl⟩:=h.length
 have:m=n:=Nat.eq_of_mul_eq_mul_right hsz (by omega)
 subst this
 obtain ⟨-,h1,-⟩:=h
 simp only [aF,hx]
 cases v <;> simp only [gG,Option.some.injEq] at hm <;> first | (subst hm; rfl) | (cases hm; done) | skip
 exact absurd rfl (h1 _)
theorem Rd.slice {H:Heap} {sz:Nat} {v:AV} {cells:List AV} (h:Rd H sz v cells) {lo hi:Nat} {L U:Option AV} (hL:(L.map iU).getD (some 0)=some lo) (hU:∀ n,gG v=some n->(U.map iU).getD (some n)=some hi) (hlh:lo<=hi) (hh:hi*sz<=cells.length) (hsz:0<sz) :
  ∃ v',fd sz v L U none=some v'/\Rd H sz v' ((cells.take (hi*sz)).drop (lo*sz)):=by
 obtain ⟨n,hn,hl⟩:=h.length
 have hU:=hU n hn
 have hin:hi<=n:=Nat.le_of_mul_le_mul_right (by omega) hsz
 have hls:lo*sz<=hi*sz:=Nat.mul_le_mul_right sz hlh
 obtain ⟨h0,h1,m,h2,h3⟩:=h
 rw [hn] at h2; cases h2
 cases v with
 | own b off n' c sz' ex =>
  simp only [gG,Option.some.injEq] at hn
  subst hn
  simp only [bE] at h3
  split at h3
  ·rename_i cs ty rw hb
   split at h3
   ·rename_i hc
    obtain ⟨rfl,-,hc3⟩:=hc
    cases h3
    have hnc:n'<=c:=h0
    have e:(hi-lo)*sz'=hi*sz'-lo*sz':=Nat.sub_mul ..
    have hns:=Nat.mul_le_mul_right sz' hin
    have eq1:fd sz' (.own b off n' c sz' ex) L U none=(if lo<c\/lo=0 then some (.own b (off+lo*sz') (hi-lo) (c-lo) sz' ex) else if ex=true then some (.own b off (hi-lo) (c-lo) sz' true) else some (.sl [] 0)):=by
     simp only [fd,hU,hL,Option.bind_eq_bind,Option.bind_some,ne_eq,not_true_eq_false,if_false]
     rw [if_pos ⟨by omega,hlh⟩]
    have key:((cs.drop off).take (n'*sz')).take (hi*sz')=(cs.drop off).take (hi*sz'):=by
     rw [List.take_take,Nat.min_eq_left hns]
    rw [key]
    by_cases hlc:lo<c\/lo=0
    ·refine ⟨_,eq1.trans (if_pos hlc),?_,fun s h=>(by cases h),hi-lo,rfl,?_⟩
     ·show hi-lo<=c-lo; omega
     ·simp only [bE,hb]
      rw [if_pos ⟨trivial,Nat.le_refl _,by omega⟩]
      congr 1
      apply List.ext_getElem?
      intro i
      simp only [List.getElem?_take,List.getElem?_drop]
      by_cases hi1:i<(hi-lo)*sz'
      ·rw [if_pos hi1,if_pos (by omega)]; congr 1; omega
      ·rw [if_neg hi1,if_neg (by omega)]
    ·have hlo:lo=hi:=by omega
     subst hlo
     have e0:((cs.drop off).take (lo*sz')).drop (lo*sz')=[]:=by
      apply List.eq_nil_of_length_eq_zero; simp
     rw [e0]
     cases ex with
     | true =>
      refine ⟨_,eq1.trans (by rw [if_neg hlc,if_pos rfl]),?_,fun s h=>(by cases h),lo-lo,rfl,?_⟩
      ·show lo-lo<=c-lo; omega
      ·simp only [bE,hb]
       rw [if_pos ⟨trivial,Nat.le_refl _,by simp; omega⟩]
       simp
     | false =>
      refine ⟨.sl [] 0,eq1.trans (by rw [if_neg hlc,if_neg (by simp)]),trivial,fun s h=>(by cases h),0,rfl,?_⟩
      simp [bE]
   ·cases h3
  ·cases h3
 | sl cs n' =>
  simp only [gG,Option.some.injEq] at hn
  subst hn
  simp only [bE] at h3
  split at h3
  ·rename_i hc
   cases h3
   have hle:hi*sz<=cs.length:=by have:=Nat.mul_le_mul_right sz hin; omega
   refine ⟨.sl ((cs.drop (lo*sz)).take ((hi-lo)*sz)) (hi-lo),?_,trivial,fun s h=>(by cases h),hi-lo,rfl,?_⟩
   ·simp only [fd,hU,hL,Option.bind_eq_bind,Option.bind_some]
    rw [if_pos ⟨hin,hlh,hle⟩]
   ·simp only [bE]
    have e:(hi-lo)*sz=hi*sz-lo*sz:=Nat.sub_mul ..
    rw [if_pos ⟨Nat.le_refl _,by simp only [List.length_take,List.length_drop]; omega⟩]
    congr 1
    apply List.ext_getElem?
    intro i
    have:=Nat.mul_le_mul_right sz hin
    simp only [List.getElem?_take,List.getElem?_drop]
    split
    ·rw [if_pos (by omega),if_pos (by omega)]
    ·rw [if_neg (by omega)]
  ·cases h3
 | nilSl =>
  simp only [gG,Option.some.injEq] at hn
  subst hn
  have:hi=0:=by omega
  subst this
  have:lo=0:=by omega
  subst this
  refine ⟨.nilSl,?_,trivial,fun s h=>(by cases h),0,rfl,?_⟩
  ·simp only [fd,hU,hL]; simp
  ·simp only [bE] at h3 ⊢; simp
 | str s=>exact absurd rfl (h1 s)
 | _=>simp [gG] at hn
end Go.Proofs.Ytekmejlgocineaa.Ev
