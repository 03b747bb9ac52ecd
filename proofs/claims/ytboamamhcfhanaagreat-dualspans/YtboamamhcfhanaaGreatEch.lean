/- A part. -/
import Derived.Test.YtboamamhcfhanaaGreatN20
namespace Go.Proofs.YtboamamhcfhanaaGreat.Lin
set_option linter.all false
theorem jh {x:V} {g:Int} (h:∀ a∈x,g ∣ a):g ∣ (content x:Int):=by
 have key:∀ (x:V) (n:Nat),g ∣ (n:Int)->(∀ a∈x,g ∣ a)->g ∣ ((x.foldl (fun g a=>Nat.gcd g a.natAbs) n:Nat):Int):=by
  intro x
  induction x with
  | nil=>intro n hn _; exact hn
  | cons b x ih =>
   intro n hn hx
   simp only [List.foldl_cons]
   refine ih _ ?_ fun a ha=>hx a (List.mem_cons_of_mem _ ha)
   have h1:g.natAbs ∣ n:=by have:=Int.natAbs_dvd_natAbs.2 hn; simpa using this
   have h2:g.natAbs ∣ b.natAbs:=Int.natAbs_dvd_natAbs.2 (hx b (List.mem_cons_self ..))
   exact Int.natAbs_dvd.1 (Int.ofNat_dvd.2 (Nat.dvd_gcd h1 h2))
 exact key x 0 (Int.dvd_zero g) h
theorem content_eq_zero {x:V}:content x=0 ↔ ∀ a∈x,a=0:=by
 constructor
 ·intro h a ha
  have:=content_dvd ha
  rw [h] at this
  exact Int.zero_dvd.1 this
 ·intro h
  have:(0:Int) ∣ (content x:Int):=jh fun a ha=>by rw [h a ha]; exact Int.dvd_zero 0
  have:=Int.zero_dvd.1 this
  omega
theorem Cj {x:V} {a:Int} (h:a∈x):∃ i,at_ x i=a:=by
 obtain ⟨i,hi⟩:=List.getElem?_of_mem h
 exact ⟨i,by simp [at_,hi]⟩
theorem Iy {x:V} {i:Nat} (h:at_ x i≠0):at_ x i∈x:=by
 unfold at_ at h ⊢
 rw [List.getD_eq_getElem?_getD] at h ⊢
 cases hx:x[i]? with
 | none=>rw [hx] at h; exact absurd rfl h
 | some y=>exact List.mem_of_getElem? hx
theorem zero_iff {x:V}:(∀ a∈x,a=0) ↔ ∀ i,at_ x i=0:=by
 constructor
 ·intro h i
  by_cases h0:at_ x i=0
  ·exact h0
  ·exact h _ (Iy h0)
 ·intro h a ha
  obtain ⟨i,rfl⟩:=Cj ha
  exact h i
theorem CE {d:Nat} {x:V} (hx:x.length=d):x=jJ d ↔ ∀ i,at_ x i=0:=by
 constructor
 ·rintro rfl i; exact Pm
 ·intro h; exact aP (by rw [hx,bY]) fun i=>by rw [h i,Pm]
theorem kM {c:Int} (hc:0<c) (x:V):(content (scl c x):Int)=c*content x:=by
 refine Int.dvd_antisymm ?_ ?_ ?_ ?_
 ·omega
 ·have:=Int.mul_nonneg (Int.le_of_lt hc) (Int.natCast_nonneg (content x)); exact this
 ·
  by_cases h0:content x=0
  ·rw [h0]; simp
  ·have h1:∀ a∈x,(content (scl c x):Int) ∣ c*a:=fun a ha=>content_dvd (List.mem_map_of_mem ha)
   have h2:c ∣ (content (scl c x):Int):=jh fun a ha=>by
    obtain ⟨b,-,rfl⟩:=List.mem_map.1 ha
    exact Int.dvd_mul_right _ _
   obtain ⟨g,hg⟩:=h2
   rw [hg]
   refine Int.mul_dvd_mul_left c (jh fun a ha=>?_)
   have:=h1 a ha
   rw [hg] at this
   exact Int.dvd_of_mul_dvd_mul_left (by omega) this
 ·refine jh fun a ha=>?_
  obtain ⟨b,hb,rfl⟩:=List.mem_map.1 ha
  exact Int.mul_dvd_mul_left c (content_dvd hb)
theorem gu {x:V} (h:∃ i,at_ x i≠0):content (prime x)=1:=by
 have h0:content x≠0:=fun e=>by
  obtain ⟨i,hi⟩:=h
  exact hi (zero_iff.1 (content_eq_zero.1 e) i)
 have e:scl (content x:Int) (prime x)=x:=by
  unfold prime scl
  rw [if_neg h0,List.map_map]
  conv=>rhs; rw [<- List.map_id x]
  exact List.map_congr_left fun a ha=>Int.mul_ediv_cancel' (content_dvd ha)
 have:=kM (show (0:Int)<content x by omega) (prime x)
 rw [e] at this
 have h2:(content x:Int)*1=content x*content (prime x):=by omega
 have:=Int.eq_of_mul_eq_mul_left (by omega) h2
 omega
theorem yQ {x y:V} (hx:content x=1) (hy:content y=1) {m n:Int} (hm:0<m) (hn:0<n) (h:scl m x=scl n y):x=y:=by
 have h1:=kM hm x
 have h2:=kM hn y
 rw [hx] at h1
 rw [hy] at h2
 rw [h] at h1
 have e:m=n:=by omega
 subst e
 have hl:x.length=y.length:=by have:=congrArg List.length h; simpa [scl] using this
 refine aP hl fun i=>?_
 have:=congrArg (fun z=>at_ z i) h
 simp only [aw] at this
 exact Int.eq_of_mul_eq_mul_left (by omega) this
theorem jd {x:V} (i:Nat):(at_ (prime x) i=0 ↔ at_ x i=0)/\(0<at_ (prime x) i ↔ 0<at_ x i):=by
 obtain ⟨c,hc,e⟩:=iO x
 have:at_ x i=c*at_ (prime x) i:=by rw [<- aw,e]
 rw [this]
 refine ⟨⟨fun h=>by rw [h]; simp,fun h=>?_⟩,⟨fun h=>Int.mul_pos hc h,fun h=>?_⟩⟩
 ·rcases Int.mul_eq_zero.1 h with h1 | h1
  ·omega
  ·exact h1
 ·exact Int.pos_of_mul_pos_right h hc
def before (a b:Nat):Bool:=a != b && (a != 0 && (b == 0 || decide (a<b)))
def rank (i d:Nat):Nat:=if i=0 then d else i
theorem before_iff {a b d:Nat} (ha:a<d) (hb:b<d):before a b=true ↔ rank a d<rank b d:=by
 unfold before rank
 simp only [Bool.and_eq_true,bne_iff_ne,Bool.or_eq_true,beq_iff_eq,decide_eq_true_eq]
 split <;> split <;> omega
def places (d:Nat):List Nat:=(List.range' 1 (d-1))++(if d=0 then [] else [0])
def pivot (a:V):Option Nat:=(places a.length).find? fun i=>!decide (at_ a i=0)
def pv (a:V):Nat:=(pivot a).getD 0
theorem mem_places {d i:Nat}:i∈places d ↔ i<d:=by
 unfold places
 rw [List.mem_append,List.mem_range'_1]
 by_cases hd:d=0
 ·simp [hd]; omega
 ·simp [hd]; omega
theorem pG (d:Nat):(places d).Pairwise fun a b=>before a b=true:=by
 unfold places
 refine List.pairwise_append.2 ⟨?_,by split <;> simp,fun a ha b hb=>?_⟩
 ·refine List.Pairwise.imp_of_mem (fun {a b} ha hb h=>?_) (List.pairwise_lt_range' (s:=1) (n:=d-1))
  rw [List.mem_range'_1] at ha hb
  unfold before
  simp only [Bool.and_eq_true,bne_iff_ne,Bool.or_eq_true,beq_iff_eq,decide_eq_true_eq]
  omega
 ·rw [List.mem_range'_1] at ha
  split at hb
  ·cases hb
  ·simp only [List.mem_singleton] at hb
   subst hb
   unfold before
   simp
   omega
theorem pivot_some {a:V} {p:Nat}:pivot a=some p ↔ p<a.length/\at_ a p≠0/\∀ q,q<a.length->before q p=true->at_ a q=0:=by
 unfold pivot
 rw [List.find?_eq_some_iff_append]
 constructor
 ·rintro ⟨h1,l1,l2,e,h2⟩
  have hp:p∈places a.length:=by rw [e]; simp
  refine ⟨mem_places.1 hp,by simpa using h1,fun q hq hb=>?_⟩
  have hqm:q∈places a.length:=mem_places.2 hq
  rw [e] at hqm
  rcases List.mem_append.1 hqm with h | h
  ·have:=h2 q h; simpa using this
  ·exfalso
   have hs:=pG a.length
   rw [e] at hs
   have hs:=(List.pairwise_append.1 hs).2.1
   rcases List.mem_cons.1 h with rfl | h
   ·simp [before] at hb
   ·have:=(List.pairwise_cons.1 hs).1 q h
    unfold before at this hb
    simp only [Bool.and_eq_true,bne_iff_ne,Bool.or_eq_true,beq_iff_eq,decide_eq_true_eq] at this hb
    omega
 ·rintro ⟨h1,h2,h3⟩
  obtain ⟨l1,l2,e⟩:=List.append_of_mem (mem_places.2 h1)
  refine ⟨by simpa using h2,l1,l2,e,fun q hq=>?_⟩
  have hs:=pG a.length
  rw [e] at hs
  have hb:=(List.pairwise_append.1 hs).2.2 q hq p (List.mem_cons_self ..)
  have hql:q<a.length:=mem_places.1 (by rw [e]; exact List.mem_append_left _ hq)
  simpa using h3 q hql hb
theorem pivot_none {a:V}:pivot a=none ↔ ∀ i,at_ a i=0:=by
 unfold pivot
 rw [List.find?_eq_none]
 constructor
 ·intro h i
  by_cases hi:i<a.length
  ·have:=h i (mem_places.2 hi); simpa using this
  ·simp [at_,List.getD_eq_getElem?_getD,List.getElem?_eq_none (Nat.le_of_not_lt hi)]
 ·intro h i _
  simp [h i]
theorem Hj {a:V} {p:Nat} (h:pivot a=some p):pv a=p:=by simp [pv,h]
def wo (a u:V) (p:Nat):V:=if at_ a p=0 then a else prime (mix (at_ u p) a (-(at_ a p)) u)
def restF (F:List V) (a:V):V:=F.foldl (fun a r=>wo a r (pv r)) (prime a)
def signed (a:V) (p:Nat):V:=if at_ a p<0 then scl (-1) a else a
def insP (x:V) (p:Nat):List V->List V
 | []=>[x]
 | r :: F=>if before (pv r) p=true then r :: insP x p F else x :: r :: F
def putF (F:List V) (a:V):List V :=
 match pivot (restF F a) with
 | none=>F
 | some p=>insP (signed (restF F a) p) p (F.map fun r=>wo r (signed (restF F a) p) p)
def formF (l:List V):List V:=l.foldl putF []
structure Ech (d:Nat) (F:List V):Prop where
 len:∀ r∈F,r.length=d
 piv:∀ r∈F,∃ p,pivot r=some p/\0<at_ r p
 cont:∀ r∈F,content r=1
 clear:F.Pairwise fun r s=>at_ r (pv s)=0/\at_ s (pv r)=0
 sorted:F.Pairwise fun r s=>before (pv r) (pv s)=true
theorem Ech.nil (d:Nat):Ech d []:=⟨by simp,by simp,by simp,by simp,by simp⟩
section
variable {d:Nat} {F:List V}
theorem Ech.pos (h:Ech d F) {r:V} (hr:r∈F):pivot r=some (pv r)/\0<at_ r (pv r)/\pv r<d:=by
 obtain ⟨p,hp,h0⟩:=h.piv r hr
 rw [Hj hp]
 exact ⟨hp,h0,h.len r hr ▸ (pivot_some.1 hp).1⟩
theorem Ech.clear_of (h:Ech d F) {r s:V} (hr:r∈F) (hs:s∈F) (hne:r≠s):at_ r (pv s)=0:=by
 obtain ⟨i,hi⟩:=List.getElem?_of_mem hr
 obtain ⟨j,hj⟩:=List.getElem?_of_mem hs
 obtain ⟨hi',rfl⟩:=List.getElem?_eq_some_iff.1 hi
 obtain ⟨hj',rfl⟩:=List.getElem?_eq_some_iff.1 hj
 rcases Nat.lt_trichotomy i j with hlt | heq | hlt
 ·exact (List.pairwise_iff_getElem.1 h.clear i j hi' hj' hlt).1
 ·subst heq; exact absurd rfl hne
 ·exact (List.pairwise_iff_getElem.1 h.clear j i hj' hi' hlt).2
theorem xu (a:Nat):before a a=false:=by simp [before]
theorem Ech.pv_inj (h:Ech d F) {r s:V} (hr:r∈F) (hs:s∈F) (he:pv r=pv s):r=s:=by
 by_cases hne:r=s
 ·exact hne
 ·exfalso
  have:=h.clear_of hr hs hne
  rw [<- he] at this
  have:=(h.pos hr).2.1
  omega
theorem Ix {a u:V} {p:Nat} (ha:a.length=d) (hu:u.length=d) (h:0<at_ u p):∃ k:Int,0<k/\∃ c:Int,0<c/\∃ s:Int,scl k (wo a u p)=mix c a s u/\((s=0) ↔ (at_ a p=0)):=by
 unfold wo
 split
 ·rename_i h0
  refine ⟨1,by omega,1,by omega,0,aP (by rw [ah ha,mix_length ha hu]) fun i=>?_,by simp [h0]⟩
  rw [aw,aj (ha.trans hu.symm)]; grind
 ·rename_i h0
  obtain ⟨k,hk,e⟩:=iO (mix (at_ u p) a (-(at_ a p)) u)
  exact ⟨k,hk,at_ u p,h,-(at_ a p),e,by simp [h0]⟩
theorem wo_length {a u:V} {p:Nat} (ha:a.length=d) (hu:u.length=d):(wo a u p).length=d:=by
 unfold wo
 split
 ·exact ha
 ·rw [prime_length]; exact mix_length ha hu
theorem yx {a u:V} {p:Nat} (ha:a.length=d) (hu:u.length=d) (h:0<at_ u p):at_ (wo a u p) p=0:=by
 unfold wo
 split
 ·rename_i h0; exact h0
 ·rw [(jd p).1,aj (ha.trans hu.symm)]; grind
theorem ul {a u:V} {p q:Nat} (ha:a.length=d) (hu:u.length=d) (h0:at_ u q=0):at_ a q=0->at_ (wo a u p) q=0:=by
 intro haq
 unfold wo
 split
 ·exact haq
 ·rw [(jd q).1,aj (ha.trans hu.symm),haq,h0]; simp
theorem K5 {a u:V} {p q:Nat} (ha:a.length=d) (hu:u.length=d) (h:0<at_ u p) (h0:at_ u q=0) (haq:0<at_ a q):0<at_ (wo a u p) q:=by
 unfold wo
 split
 ·exact haq
 ·rw [(jd q).2,aj (ha.trans hu.symm),h0]
  have:=Int.mul_pos h haq
  simpa using this
theorem C2 {a u:V} {p q:Nat} (ha:a.length=d) (hu:u.length=d) (hc:content a=1) (hq:at_ (wo a u p) q≠0):content (wo a u p)=1:=by
 unfold wo at hq ⊢
 split at hq
 ·rename_i h0; rw [if_pos h0]; exact hc
 ·rename_i h0
  rw [if_neg h0]
  exact gu ⟨q,fun e=>hq ((jd q).1.2 e)⟩
theorem lW {A B:V->Prop} (hA:∀ x,A x->x.length=d) (hB:∀ x,B x->x.length=d) (h:∀ x,A x->Spn d B x) {x:V} (hx:Spn d A x):Spn d B x :=
 Con.trans hB (fun r h=>h.elim) (fun l hl c=>Spn.smul hB (h l hl) c) (fun r h=>h.elim) hA (fun r h=>h.elim) hx
theorem dw {B:V->Prop} {x:V} (hx:x.length=d) (h:B x):Spn d B x:=by
 have:=Con.of_line (d:=d) (L:=B) (R:=fun _=>False) hx h 1
 rw [qU] at this; exact this
theorem mA {B:V->Prop} (hB:∀ x,B x->x.length=d) {x:V} (hx:x.length=d) {k:Int} (hk:k≠0) (h:Spn d B (scl k x)):Spn d B x:=by
 rcases Int.lt_or_gt_of_ne hk with h0 | h0
 ·have:=Spn.smul hB h (-1)
  have e:scl (-1) (scl k x)=scl (-k) x:=aP (by simp [scl]) fun i=>by rw [aw,aw,aw]; grind
  rw [e] at this
  exact .div (-k) (by omega) hx this
 ·exact .div k h0 hx h
theorem Db (h:Ech d F):∀ (G:List V) (done:List V),done++G=F->∀ a:V,a.length=d->(∀ r∈done,at_ a (pv r)=0) ->
  (G.foldl (fun a r=>wo a r (pv r)) a).length=d/\(∀ r∈F,at_ (G.foldl (fun a r=>wo a r (pv r)) a) (pv r)=0) /\
  (∃ m k:Int,0<m/\0<k/\Spn d (· ∈ F) (mix m (G.foldl (fun a r=>wo a r (pv r)) a) (-k) a)) /\
  ((content a=1\/∀ i,at_ a i=0)->(content (G.foldl (fun a r=>wo a r (pv r)) a)=1\/∀ i,at_ (G.foldl (fun a r=>wo a r (pv r)) a) i=0))
 | [],done,e,a,ha,hd=>by
  rw [List.append_nil] at e
  subst e
  refine ⟨ha,hd,⟨1,1,by omega,by omega,?_⟩,fun h=>h⟩
  have:mix 1 a (-1) a=jJ d:=aP (by rw [mix_length ha ha,bY]) fun i=>by rw [aj rfl,Pm]; grind
  show Spn d _ (mix 1 a (-1) a)
  rw [this]; exact .zero
 | r :: G,done,e,a,ha,hd=>by
  have hr:r∈F:=by rw [<- e]; simp
  have hrl:=h.len r hr
  obtain ⟨hp1,hp2,hp3⟩:=h.pos hr
  have hstep:∀ s∈done++[r],at_ (wo a r (pv r)) (pv s)=0:=fun s hs=>by
   rcases List.mem_append.1 hs with hs | hs
   ·have hsF:s∈F:=by rw [<- e]; exact List.mem_append_left _ hs
    by_cases hne:r=s
    ·subst hne; exact yx ha hrl hp2
    ·exact ul ha hrl (h.clear_of hr hsF hne) (hd s hs)
   ·simp only [List.mem_singleton] at hs
    subst hs
    exact yx ha hrl hp2
  obtain ⟨g1,g2,⟨m,k,hm,hk,g3⟩,g4⟩:=Db h G (done++[r]) (by rw [List.append_assoc]; exact e) (wo a r (pv r)) (wo_length ha hrl) hstep
  simp only [List.foldl_cons]
  refine ⟨g1,g2,?_,fun hc=>g4 ?_⟩
  ·obtain ⟨k1,hk1,c,hc,s,e1,_⟩:=Ix ha hrl hp2
   refine ⟨m*k1,k*c,Int.mul_pos hm hk1,Int.mul_pos hk hc,?_⟩
   have t1:=Spn.smul (fun x hx=>h.len x hx) g3 k1
   have t2:=Spn.sum2 (fun x hx=>h.len x hx) t1 (dw (d:=d) (B:=(· ∈ F)) hrl hr) 1 (k*s)
   have e2:mix 1 (scl k1 (mix m (G.foldl (fun a r=>wo a r (pv r)) (wo a r (pv r))) (-k) (wo a r (pv r)))) (k*s) r=mix (m*k1) (G.foldl (fun a r=>wo a r (pv r)) (wo a r (pv r))) (-(k*c)) a :=
    aP (by rw [mix_length (ah (mix_length g1 (wo_length ha hrl))) hrl,mix_length g1 ha]) fun i=>by
     have e3:k1*at_ (wo a r (pv r)) i=c*at_ a i+s*at_ r i:=by rw [<- aw,e1,aj (ha.trans hrl.symm)]
     rw [aj ((ah (mix_length g1 (wo_length ha hrl))).trans hrl.symm),aw,aj (g1.trans (wo_length ha hrl).symm),aj (g1.trans ha.symm)]
     grind
   rw [e2] at t2
   exact t2
  ·by_cases hz:∀ i,at_ (wo a r (pv r)) i=0
   ·exact .inr hz
   ·refine .inl ?_
    have ⟨q,hq⟩:∃ q,at_ (wo a r (pv r)) q≠0:=Classical.not_forall.1 hz
    rcases hc with hc | hc
    ·exact C2 ha hrl hc hq
    ·exfalso
     have:wo a r (pv r)=a:=by unfold wo; rw [if_pos (hc _)]
     rw [this] at hq
     exact hq (hc q)
theorem Ak (h:Ech d F) {a:V} (ha:a.length=d) :
  (restF F a).length=d/\(∀ r∈F,at_ (restF F a) (pv r)=0)/\(∃ m k:Int,0<m/\0<k/\Spn d (· ∈ F) (mix m (restF F a) (-k) a))/\(content (restF F a)=1\/∀ i,at_ (restF F a) i=0):=by
 have hl:(prime a).length=d:=by rw [prime_length]; exact ha
 obtain ⟨g1,g2,⟨m,k,hm,hk,g3⟩,g4⟩:=Db h F [] rfl (prime a) hl (by simp)
 obtain ⟨c,hc,e⟩:=iO a
 refine ⟨g1,g2,⟨m*c,k,Int.mul_pos hm hc,hk,?_⟩,g4 ?_⟩
 ·have t:=Spn.smul (fun x hx=>h.len x hx) g3 c
  have e2:scl c (mix m (F.foldl (fun a r=>wo a r (pv r)) (prime a)) (-k) (prime a))=mix (m*c) (restF F a) (-k) a:=aP (by rw [ah (mix_length g1 hl),mix_length (show (restF F a).length=d from g1) ha]) fun i=>by
   have e3:at_ a i=c*at_ (prime a) i:=by rw [<- aw,e]
   rw [aw,aj (g1.trans hl.symm)]
   unfold restF
   rw [aj (g1.trans ha.symm),e3]; grind
  rw [e2] at t; exact t
 ·by_cases hz:∀ i,at_ a i=0
  ·exact .inr fun i=>(jd i).1.2 (hz i)
  ·exact .inl (gu (Classical.not_forall.1 hz))
theorem signed_length {a:V} {p:Nat} (ha:a.length=d):(signed a p).length=d:=by unfold signed; split <;> simp [scl,ha]
theorem ED {a:V} {p:Nat} (q:Nat):at_ (signed a p) q=0 ↔ at_ a q=0:=by
 unfold signed
 split
 ·rw [aw]; omega
 ·exact Iff.rfl
theorem BQ {a:V} {p:Nat} (h:at_ a p≠0):0<at_ (signed a p) p:=by
 unfold signed
 split
 ·rw [aw]; omega
 ·omega
theorem uO {B:V->Prop} (hB:∀ x,B x->x.length=d) {a:V} {p:Nat} (ha:a.length=d):Spn d B (signed a p) ↔ Spn d B a:=by
 unfold signed
 split
 ·exact ⟨fun h=>mA hB ha (by omega) h,fun h=>Spn.smul hB h (-1)⟩
 ·exact Iff.rfl
theorem tp (a:V):content (scl (-1) a)=content a:=by
 have key:∀ (x:V) (g:Nat),(scl (-1) x).foldl (fun g a=>Nat.gcd g a.natAbs) g=x.foldl (fun g a=>Nat.gcd g a.natAbs) g:=by
  intro x
  induction x with
  | nil=>intro g; rfl
  | cons b x ih =>
   intro g
   simp only [scl,List.map_cons,List.foldl_cons] at ih ⊢
   rw [show (-1*b).natAbs=b.natAbs by rw [Int.neg_one_mul,Int.natAbs_neg]]
   exact ih _
 exact key a 0
theorem Ae {a:V} {p:Nat} (h:content a=1):content (signed a p)=1:=by
 unfold signed
 split
 ·rw [tp]; exact h
 ·exact h
theorem mem_insP {x y:V} {p:Nat}:∀ {G:List V},y∈insP x p G ↔ y=x\/y∈G
 | []=>by simp [insP]
 | r :: G=>by
  unfold insP
  split
  ·rw [List.mem_cons,mem_insP,List.mem_cons]
   constructor
   ·rintro (h | h | h)
    ·exact .inr (.inl h)
    ·exact .inl h
    ·exact .inr (.inr h)
   ·rintro (h | h | h)
    ·exact .inr (.inl h)
    ·exact .inl h
    ·exact .inr (.inr h)
  ·simp
theorem pI {rel:V->V->Prop} {x:V} {p:Nat}:∀ {G:List V},G.Pairwise rel->(∀ r∈G,rel r x/\rel x r)->(insP x p G).Pairwise rel
 | [],_,_=>by simp [insP]
 | r :: G,h,hx=>by
  obtain ⟨h1,h2⟩:=List.pairwise_cons.1 h
  unfold insP
  split
  ·refine List.pairwise_cons.2 ⟨fun y hy=>?_,pI h2 fun s hs=>hx s (List.mem_cons_of_mem _ hs)⟩
   rcases mem_insP.1 hy with rfl | hy
   ·exact (hx r (List.mem_cons_self ..)).1
   ·exact h1 y hy
  ·refine List.pairwise_cons.2 ⟨fun y hy=>(hx y hy).2,h⟩
theorem jI {a b c d:Nat} (ha:a<d) (hb:b<d) (hc:c<d) (h1:before a b=true) (h2:before b c=true):before a c=true:=by
 rw [before_iff ha hb] at h1
 rw [before_iff hb hc] at h2
 rw [before_iff ha hc]
 omega
theorem nh {a b d:Nat} (ha:a<d) (hb:b<d) (hne:a≠b):before a b=true\/before b a=true:=by
 rw [before_iff ha hb,before_iff hb ha]
 unfold rank
 split <;> split <;> omega
theorem dX {x:V} {p:Nat} (hp:pv x=p) (hpd:p<d):∀ {G:List V},(∀ r∈G,pv r<d/\pv r≠p)->G.Pairwise (fun r s=>before (pv r) (pv s)=true)->(insP x p G).Pairwise (fun r s=>before (pv r) (pv s)=true)
 | [],_,_=>by simp [insP]
 | r :: G,hG,h=>by
  obtain ⟨h1,h2⟩:=List.pairwise_cons.1 h
  obtain ⟨hr1,hr2⟩:=hG r (List.mem_cons_self ..)
  unfold insP
  split
  ·rename_i hb
   refine List.pairwise_cons.2 ⟨fun y hy=>?_,dX hp hpd (fun s hs=>hG s (List.mem_cons_of_mem _ hs)) h2⟩
   rcases mem_insP.1 hy with rfl | hy
   ·rw [hp]; exact hb
   ·exact h1 y hy
  ·rename_i hb
   have hb':before p (pv r)=true:=(nh hr1 hpd hr2).resolve_left hb
   refine List.pairwise_cons.2 ⟨fun y hy=>?_,h⟩
   rw [hp]
   rcases List.mem_cons.1 hy with rfl | hy
   ·exact hb'
   ·exact jI hpd hr1 (hG y (List.mem_cons_of_mem _ hy)).1 hb' (h1 y hy)
theorem put_ech (h:Ech d F) {a:V} (ha:a.length=d):Ech d (putF F a)/\∀ x,Spn d (· ∈ putF F a) x ↔ Spn d (fun y=>y∈F\/y=a) x:=by
 obtain ⟨g1,g2,⟨m,k,hm,hk,g3⟩,g4⟩:=Ak h ha
 have lF:∀ y,(y∈F\/y=a)->y.length=d:=fun y hy=>by rcases hy with hy | rfl <;> first | exact h.len y hy | exact ha
 unfold putF
 split
 ·rename_i hn
  have hz:=pivot_none.1 hn
  refine ⟨h,fun x=>⟨fun hx=>hx.mono (fun y hy=>.inl hy) (fun r h=>h),fun hx=>lW lF (fun y hy=>h.len y hy) (fun y hy=>?_) hx⟩⟩
  rcases hy with hy | rfl
  ·exact dw (h.len y hy) hy
  ·have e:mix m (restF F y) (-k) y=scl (-k) y:=aP (by rw [mix_length g1 ha,ah ha]) fun i=>by rw [aj (g1.trans ha.symm),aw,hz i]; simp
   rw [e] at g3
   exact mA (fun x hx=>h.len x hx) ha (by omega) g3
 ·rename_i p hp
  obtain ⟨hp1,hp2,hp3⟩:=pivot_some.1 hp
  rw [g1] at hp1 hp3
  generalize hb:signed (restF F a) p=b at *
  have hbl:b.length=d:=by rw [<- hb]; exact signed_length g1
  have hb0:0<at_ b p:=by rw [<- hb]; exact BQ hp2
  have hbz:∀ q,at_ b q=0 ↔ at_ (restF F a) q=0:=fun q=>by rw [<- hb]; exact ED q
  have hbc:content b=1:=by
   rw [<- hb]
   exact Ae (g4.resolve_right fun hz=>hp2 (hz p))
  have hbp:pivot b=some p:=pivot_some.2 ⟨by rw [hbl]; exact hp1,by omega,fun q hq hbq=>by rw [hbl] at hq; exact (hbz q).2 (hp3 q hq hbq)⟩
  have hbF:∀ r∈F,at_ b (pv r)=0:=fun r hr=>(hbz _).2 (g2 r hr)
  have hpF:∀ r∈F,pv r≠p:=fun r hr e=>by have:=hbF r hr; rw [e] at this; omega
  have hw:∀ r∈F,(wo r b p).length=d/\pivot (wo r b p)=some (pv r)/\0<at_ (wo r b p) (pv r)/\content (wo r b p)=1/\at_ (wo r b p) p=0:=fun r hr=>by
   have hrl:=h.len r hr
   obtain ⟨q1,q2,q3⟩:=h.pos hr
   have w1:=K5 hrl hbl hb0 (hbF r hr) q2
   refine ⟨wo_length hrl hbl,pivot_some.2 ⟨by rw [wo_length hrl hbl]; exact q3,by omega,fun q hq hbq=>?_⟩,w1,C2 hrl hbl (h.cont r hr) (q:=pv r) (by omega),yx hrl hbl hb0⟩
   rw [wo_length hrl hbl] at hq
   have hrq:at_ r q=0:=(pivot_some.1 q1).2.2 q (by rw [hrl]; exact hq) hbq
   rcases nh q3 hp1 (hpF r hr) with hbf | hbf
   ·exact ul hrl hbl ((pivot_some.1 hbp).2.2 q (by rw [hbl]; exact hq) (jI hq q3 hp1 hbq hbf)) hrq
   ·have:at_ r p=0:=(pivot_some.1 q1).2.2 p (by rw [hrl]; exact hp1) hbf
    unfold wo
    rw [if_pos this]
    exact hrq
  have hpvw:∀ r∈F,pv (wo r b p)=pv r:=fun r hr=>Hj (hw r hr).2.1
  have hpvb:pv b=p:=Hj hbp
  have hmem:∀ y,y∈insP b p (F.map fun r=>wo r b p) ↔ y=b\/∃ r∈F,wo r b p=y:=fun y=>by rw [mem_insP,List.mem_map]
  refine ⟨⟨?_,?_,?_,?_,?_⟩,?_⟩
  ·intro y hy
   rcases (hmem y).1 hy with rfl | ⟨r,hr,rfl⟩
   ·exact hbl
   ·exact (hw r hr).1
  ·intro y hy
   rcases (hmem y).1 hy with rfl | ⟨r,hr,rfl⟩
   ·exact ⟨p,hbp,hb0⟩
   ·exact ⟨_,(hw r hr).2.1,(hw r hr).2.2.1⟩
  ·intro y hy
   rcases (hmem y).1 hy with rfl | ⟨r,hr,rfl⟩
   ·exact hbc
   ·exact (hw r hr).2.2.2.1
  ·refine pI (List.pairwise_map.2 (h.clear.imp_of_mem fun {r s} hr hs hc=>?_)) fun y hy=>?_
   ·rw [hpvw r hr,hpvw s hs]
    exact ⟨ul (h.len r hr) hbl (hbF s hs) hc.1,ul (h.len s hs) hbl (hbF r hr) hc.2⟩
   ·obtain ⟨r,hr,rfl⟩:=List.mem_map.1 hy
    rw [hpvw r hr,hpvb]
    exact ⟨⟨(hw r hr).2.2.2.2,hbF r hr⟩,⟨hbF r hr,(hw r hr).2.2.2.2⟩⟩
  ·refine dX hpvb hp1 (fun y hy=>?_) (List.pairwise_map.2 (h.sorted.imp_of_mem fun {r s} hr hs hc=>?_))
   ·obtain ⟨r,hr,rfl⟩:=List.mem_map.1 hy
    rw [hpvw r hr]
    exact ⟨(h.pos hr).2.2,hpF r hr⟩
   ·rw [hpvw r hr,hpvw s hs]; exact hc
  ·have lN:∀ y,y∈insP b p (F.map fun r=>wo r b p)->y.length=d:=fun y hy=>by
    rcases (hmem y).1 hy with rfl | ⟨r,hr,rfl⟩
    ·exact hbl
    ·exact (hw r hr).1
   have hbS:Spn d (fun y=>y∈F\/y=a) b:=by
    rw [<- hb,uO lF g1]
    have t:=Spn.sum2 lF (g3.mono (fun y hy=>.inl hy) (fun r h=>h)) (dw (B:=fun y=>y∈F\/y=a) ha (.inr rfl)) 1 k
    have e:mix 1 (mix m (restF F a) (-k) a) k a=scl m (restF F a):=aP (by rw [mix_length (mix_length g1 ha) ha,ah g1]) fun i=>by rw [aj ((mix_length g1 ha).trans ha.symm),aj (g1.trans ha.symm),aw]; grind
    rw [e] at t
    exact mA lF g1 (by omega) t
   have hbN:Spn d (· ∈ insP b p (F.map fun r=>wo r b p)) b:=dw hbl ((hmem b).2 (.inl rfl))
   have hrN:∀ r∈F,Spn d (· ∈ insP b p (F.map fun r=>wo r b p)) r:=fun r hr=>by
    obtain ⟨k1,hk1,c,hc,s,e1,_⟩:=Ix (h.len r hr) hbl hb0
    have t:=Spn.sum2 lN (dw (d:=d) (B:=(· ∈ insP b p (F.map fun r=>wo r b p))) (hw r hr).1 ((hmem _).2 (.inr ⟨r,hr,rfl⟩))) hbN k1 (-s)
    have e:mix k1 (wo r b p) (-s) b=scl c r:=aP (by rw [mix_length (hw r hr).1 hbl,ah (h.len r hr)]) fun i=>by
     have e3:k1*at_ (wo r b p) i=c*at_ r i+s*at_ b i:=by rw [<- aw,e1,aj ((h.len r hr).trans hbl.symm)]
     rw [aj ((hw r hr).1.trans hbl.symm),aw]; grind
    rw [e] at t
    exact mA lN (h.len r hr) (by omega) t
   refine fun x=>⟨fun hx=>lW lN lF (fun y hy=>?_) hx,fun hx=>lW lF lN (fun y hy=>?_) hx⟩
   ·rcases (hmem y).1 hy with rfl | ⟨r,hr,rfl⟩
    ·exact hbS
    ·obtain ⟨k1,hk1,c,hc,s,e1,_⟩:=Ix (h.len r hr) hbl hb0
     have t:=Spn.sum2 lF (dw (d:=d) (B:=fun y=>y∈F\/y=a) (h.len r hr) (.inl hr)) hbS c s
     rw [<- e1] at t
     exact mA lF (hw r hr).1 (by omega) t
   ·rcases hy with hy | rfl
    ·exact hrN y hy
    ·have t:=Spn.sum2 lN (lW (fun y hy=>h.len y hy) lN hrN g3) ((uO lN g1).1 (by rw [hb]; exact hbN)) (-1) m
     have e:mix (-1) (mix m (restF F y) (-k) y) m (restF F y)=scl k y:=aP (by rw [mix_length (mix_length g1 ha) g1,ah ha]) fun i=>by rw [aj ((mix_length g1 ha).trans g1.symm),aj (g1.trans ha.symm),aw]; grind
     rw [e] at t
     exact mA lN ha (by omega) t
theorem form_go:∀ (l:List V) (G:List V),Ech d G->(∀ a∈l,a.length=d)->Ech d (l.foldl putF G)/\∀ x,Spn d (· ∈ l.foldl putF G) x ↔ Spn d (fun y=>y∈G\/y∈l) x
 | [],G,h,_=>⟨h,fun x=>by simp⟩
 | a :: l,G,h,hl=>by
  obtain ⟨h1,h2⟩:=put_ech h (hl a (List.mem_cons_self ..))
  obtain ⟨h3,h4⟩:=form_go l (putF G a) h1 fun b hb=>hl b (List.mem_cons_of_mem _ hb)
  refine ⟨h3,fun x=>(h4 x).trans ?_⟩
  have l1:∀ y,(y∈putF G a\/y∈l)->y.length=d:=fun y hy=>by rcases hy with hy | hy <;> first | exact h1.len y hy | exact hl y (List.mem_cons_of_mem _ hy)
  have l2:∀ y,(y∈G\/y∈a :: l)->y.length=d:=fun y hy=>by rcases hy with hy | hy <;> first | exact h.len y hy | exact hl y hy
  constructor
  ·refine fun hx=>lW l1 l2 (fun y hy=>?_) hx
   rcases hy with hy | hy
   ·exact ((h2 y).1 (dw (h1.len y hy) hy)).mono (fun z hz=>by rcases hz with hz | rfl <;> first | exact .inl hz | exact .inr (List.mem_cons_self ..)) (fun r h=>h)
   ·exact dw (hl y (List.mem_cons_of_mem _ hy)) (.inr (List.mem_cons_of_mem _ hy))
  ·refine fun hx=>lW l2 l1 (fun y hy=>?_) hx
   rcases hy with hy | hy
   ·exact ((h2 y).2 (dw (h.len y hy) (.inl hy))).mono (fun z hz=>.inl hz) (fun r h=>h)
   ·rcases List.mem_cons.1 hy with rfl | hy
    ·exact ((h2 y).2 (dw (hl y (List.mem_cons_self ..)) (.inr rfl))).mono (fun z hz=>.inl hz) (fun r h=>h)
    ·exact dw (hl y (List.mem_cons_of_mem _ hy)) (.inr hy)
theorem form_ech {l:List V} (hl:∀ a∈l,a.length=d):Ech d (formF l)/\∀ x,Spn d (· ∈ formF l) x ↔ Spn d (· ∈ l) x:=by
 obtain ⟨h1,h2⟩:=form_go l [] (Ech.nil d) hl
 exact ⟨h1,fun x=>(h2 x).trans (by simp)⟩
theorem Ech.spn_zero (h:Ech d F) {x:V} (hx:Spn d (· ∈ F) x) (hz:∀ r∈F,at_ x (pv r)=0):∀ i,at_ x i=0:=by
 have key:∀ {x:V},Spn d (· ∈ F) x->∃ k:Int,0<k/\∃ c:V->Int,(∀ i,k*at_ x i=(F.map fun r=>c r*at_ r i).sum):=by
  intro x hx
  induction hx with
  | zero =>
   have zs:∀ G:List V,(G.map fun _=>(0:Int)).sum=0:=fun G=>by induction G with
    | nil=>rfl
    | cons g G ih=>simp [ih]
   exact ⟨1,by omega,fun _=>0,fun i=>by rw [Pm]; simp only [Int.zero_mul,Int.mul_zero]; exact (zs F).symm⟩
  | @line x l n hx hl ih =>
   obtain ⟨k,hk,c,hc⟩:=ih
   obtain ⟨j,hj⟩:=List.getElem?_of_mem hl
   refine ⟨k,hk,fun r=>c r+(if r=l then k*n else 0),fun i=>?_⟩
   rw [aj ((hx.length (fun x hx=>h.len x hx) (fun r h=>h.elim)).trans (h.len l hl).symm)]
   have hnd:F.Nodup:=(h.clear.imp_of_mem fun {r s} hr hs hc e=>by
    subst e
    have:=(h.pos hr).2.1
    omega)
   have e:∀ (G:List V),G.Nodup->(G.map fun r=>(c r+(if r=l then k*n else 0))*at_ r i).sum=(G.map fun r=>c r*at_ r i).sum+(if l∈G then k*n*at_ l i else 0):=by
    intro G
    induction G with
    | nil=>intro _; simp
    | cons g G ihG =>
     intro hg
     obtain ⟨hg1,hg2⟩:=List.nodup_cons.1 hg
     simp only [List.map_cons,List.sum_cons,ihG hg2]
     by_cases hgl:g=l
     ·subst hgl
      simp only [if_pos rfl,List.mem_cons,true_or,if_true,hg1,if_false]
      grind
     ·have:¬ l=g:=fun e=>hgl e.symm
      simp only [if_neg hgl,List.mem_cons,this,false_or]
      grind
   rw [e F hnd,if_pos hl,<- hc i]
   grind
  | ray c hc hx hr ih=>exact hr.elim
  | @div x j hj hl hx ih =>
   obtain ⟨k,hk,c,hc⟩:=ih
   exact ⟨k*j,Int.mul_pos hk hj,c,fun i=>by rw [<- hc i,aw]; grind⟩
 obtain ⟨k,hk,c,hc⟩:=key hx
 have hc0:∀ r∈F,c r=0:=fun r hr=>by
  have e1:=hc (pv r)
  rw [hz r hr] at e1
  have e2:∀ (G:List V),(∀ g∈G,g∈F)->G.Nodup->(G.map fun s=>c s*at_ s (pv r)).sum=if r∈G then c r*at_ r (pv r) else 0:=by
   intro G
   induction G with
   | nil=>intro _ _; simp
   | cons g G ihG =>
    intro hG hg
    obtain ⟨hg1,hg2⟩:=List.nodup_cons.1 hg
    simp only [List.map_cons,List.sum_cons,ihG (fun x hx=>hG x (List.mem_cons_of_mem _ hx)) hg2]
    by_cases hgr:g=r
    ·subst hgr
     simp [hg1]
    ·have hrg:¬ r=g:=fun e=>hgr e.symm
     rw [h.clear_of (hG g (List.mem_cons_self ..)) hr hgr]
     simp [hrg]
  have hnd:F.Nodup:=(h.clear.imp_of_mem fun {r s} hr hs hc e=>by
   subst e
   have:=(h.pos hr).2.1
   omega)
  rw [e2 F (fun g hg=>hg) hnd,if_pos hr] at e1
  rcases Int.mul_eq_zero.1 (show c r*at_ r (pv r)=0 by omega) with h1 | h1
  ·exact h1
  ·have:=(h.pos hr).2.1; omega
 intro i
 have e1:=hc i
 have e2:(F.map fun r=>c r*at_ r i).sum=0:=by
  have:(F.map fun r=>c r*at_ r i)=F.map fun _=>(0:Int):=List.map_congr_left fun r hr=>by rw [hc0 r hr]; simp
  rw [this]
  have:∀ G:List V,(G.map fun _=>(0:Int)).sum=0:=fun G=>by induction G with
   | nil=>rfl
   | cons g G ih=>simp [ih]
  exact this F
 rw [e2] at e1
 rcases Int.mul_eq_zero.1 e1 with h1 | h1
 ·omega
 ·exact h1
theorem Ech.pivot_spn (h:Ech d F) {x:V} (hxl:x.length=d) (hx:Spn d (· ∈ F) x) {p:Nat} (hp:pivot x=some p):∃ r∈F,pv r=p:=by
 obtain ⟨hp1,hp2,hp3⟩:=pivot_some.1 hp
 rw [hxl] at hp1 hp3
 by_cases hr:∃ r∈F,at_ x (pv r)≠0
 ·
  have ⟨r,hrF,hr0,hmin⟩:∃ r∈F,at_ x (pv r)≠0/\∀ s∈F,at_ x (pv s)≠0->s=r\/before (pv r) (pv s)=true:=by
   have:∀ (G:List V),G.Pairwise (fun r s=>before (pv r) (pv s)=true)->(∃ r∈G,at_ x (pv r)≠0)->∃ r∈G,at_ x (pv r)≠0/\∀ s∈G,at_ x (pv s)≠0->s=r\/before (pv r) (pv s)=true:=by
    intro G
    induction G with
    | nil=>intro _ h; obtain ⟨r,hr,_⟩:=h; cases hr
    | cons g G ih =>
     intro hs hex
     obtain ⟨h1,h2⟩:=List.pairwise_cons.1 hs
     by_cases hg:at_ x (pv g)=0
     ·obtain ⟨r,hr,hr0⟩:=hex
      have hrG:r∈G:=by
       rcases List.mem_cons.1 hr with rfl | hr
       ·exact absurd hg hr0
       ·exact hr
      obtain ⟨r',hr',hr0',hm⟩:=ih h2 ⟨r,hrG,hr0⟩
      refine ⟨r',List.mem_cons_of_mem _ hr',hr0',fun s hs hs0=>?_⟩
      rcases List.mem_cons.1 hs with rfl | hs
      ·exact absurd hg hs0
      ·exact hm s hs hs0
     ·refine ⟨g,List.mem_cons_self ..,hg,fun s hs hs0=>?_⟩
      rcases List.mem_cons.1 hs with rfl | hs
      ·exact .inl rfl
      ·exact .inr (h1 s hs)
   exact this F h.sorted hr
  refine ⟨r,hrF,?_⟩
  obtain ⟨q1,q2,q3⟩:=h.pos hrF
  by_cases he:pv r=p
  ·exact he
  ·exfalso
   rcases nh q3 hp1 he with hb | hb
   ·exact hr0 (hp3 _ q3 hb)
   ·
    have:∀ r∈F,at_ x (pv r)≠0->at_ r p=0:=fun s hs hs0=>by
     obtain ⟨t1,t2,t3⟩:=h.pos hs
     refine (pivot_some.1 t1).2.2 p (by rw [h.len s hs]; exact hp1) ?_
     rcases hmin s hs hs0 with rfl | hlt
     ·exact hb
     ·exact jI hp1 q3 t3 hb hlt
    have key:∀ (G:List V) (y:V),y.length=d->Spn d (· ∈ F) y->(∀ g∈G,g∈F)->(∀ s∈F,s ∉ G->at_ y (pv s)=0)->(∀ s∈F,at_ y (pv s)≠0->at_ s p=0)->G.Nodup->at_ y p=0:=by
     intro G
     induction G with
     | nil=>intro y hy hs _ hz _ _; exact h.spn_zero hs (fun s hs=>hz s hs (by simp)) p
     | cons g G ih =>
      intro y hy hs hG hz hsp hnd
      obtain ⟨hg1,hg2⟩:=List.nodup_cons.1 hnd
      have hgF:=hG g (List.mem_cons_self ..)
      obtain ⟨t1,t2,t3⟩:=h.pos hgF
      have hgl:=h.len g hgF
      have hyz:at_ (mix (at_ g (pv g)) y (-(at_ y (pv g))) g) p=0:=by
       refine ih _ (mix_length hy hgl) (Spn.sum2 (fun x hx=>h.len x hx) hs (dw hgl hgF) _ _) (fun x hx=>hG x (List.mem_cons_of_mem _ hx)) (fun s hsF hsG=>?_) (fun s hsF hs0=>?_) hg2
       ·rw [aj (hy.trans hgl.symm)]
        by_cases hsg:s=g
        ·subst hsg; grind
        ·rw [h.clear_of hgF hsF (fun e=>hsg e.symm),hz s hsF (fun hm=>by rcases List.mem_cons.1 hm with e | hm <;> first | exact hsg e | exact hsG hm)]; simp
       ·refine hsp s hsF fun e=>hs0 ?_
        rw [aj (hy.trans hgl.symm),e]
        by_cases hsg:s=g
        ·subst hsg; rw [e]; simp
        ·rw [h.clear_of hgF hsF (fun e=>hsg e.symm)]; simp
      rw [aj (hy.trans hgl.symm)] at hyz
      by_cases hy0:at_ y (pv g)=0
      ·rw [hy0] at hyz
       rcases Int.mul_eq_zero.1 (show at_ g (pv g)*at_ y p=0 by simpa using hyz) with h1 | h1
       ·omega
       ·exact h1
      ·rw [hsp g hgF hy0] at hyz
       rcases Int.mul_eq_zero.1 (show at_ g (pv g)*at_ y p=0 by simpa using hyz) with h1 | h1
       ·omega
       ·exact h1
    have hnd:F.Nodup:=(h.clear.imp_of_mem fun {r s} hr hs hc e=>by
     subst e
     have:=(h.pos hr).2.1
     omega)
    exact hp2 (key F x hxl hx (fun g hg=>hg) (fun s hs hn=>absurd hs hn) this hnd)
 ·exfalso
  exact hp2 (h.spn_zero hx (fun r hrF=>Classical.not_not.1 fun e=>hr ⟨r,hrF,e⟩) p)
theorem Ech.unique {G:List V} (hF:Ech d F) (hG:Ech d G) (hs:∀ x,Spn d (· ∈ F) x ↔ Spn d (· ∈ G) x):F=G:=by
 have sub:∀ {A B:List V},Ech d A->Ech d B->(∀ x,Spn d (· ∈ A) x ↔ Spn d (· ∈ B) x)->∀ r∈A,r∈B:=by
  intro A B hA hB hs r hr
  obtain ⟨p1,p2,p3⟩:=hA.pos hr
  have hrl:=hA.len r hr
  obtain ⟨s,hsB,hsp⟩:=hB.pivot_spn hrl ((hs r).1 (dw hrl hr)) p1
  obtain ⟨t1,t2,t3⟩:=hB.pos hsB
  have hsl:=hB.len s hsB
  have hsz:∀ r'∈A,r'≠r->at_ s (pv r')=0:=fun r' hr' hne=>by
   obtain ⟨s',hs',e'⟩:=hB.pivot_spn (hA.len r' hr') ((hs r').1 (dw (hA.len r' hr') hr')) (hA.pos hr').1
   rw [<- e']
   refine hB.clear_of hsB hs' fun e=>hne ?_
   subst e
   exact hA.pv_inj hr' hr (e'.symm.trans hsp)
  rw [hsp] at t2
  have hz:=hA.spn_zero (x:=mix (at_ s (pv r)) r (-(at_ r (pv r))) s) (Spn.sum2 (fun x hx=>hA.len x hx) (dw hrl hr) ((hs s).2 (dw hsl hsB)) _ _) (fun r' hr'=>by
   rw [aj (hrl.trans hsl.symm)]
   by_cases hne:r'=r
   ·subst hne; grind
   ·rw [hsz r' hr' hne,hA.clear_of hr hr' (fun e=>hne e.symm)]; simp)
  have:r=s:=yQ (hA.cont r hr) (hB.cont s hsB) t2 p2 (aP (by rw [ah hrl,ah hsl]) fun i=>by
   have:=hz i
   rw [aj (hrl.trans hsl.symm)] at this
   rw [aw,aw]; grind)
  rw [this]; exact hsB
 have hmem:∀ x,x∈F ↔ x∈G:=fun x=>⟨sub hF hG hs x,sub hG hF (fun x=>(hs x).symm) x⟩
 have nodup:∀ {A:List V},Ech d A->A.Nodup:=fun hA=>hA.clear.imp_of_mem fun {r s} hr hs hc e=>by
  subst e
  have:=(hA.pos hr).2.1
  omega
 have hperm:F.Perm G:=(List.perm_ext_iff_of_nodup (nodup hF) (nodup hG)).2 hmem
 refine List.Perm.eq_of_pairwise (le:=fun r s=>before (pv r) (pv s)=true) (fun r s hr hs h1 h2=>?_) hF.sorted hG.sorted hperm
 exfalso
 have q1:=(hF.pos hr).2.2
 have q2:=(hG.pos hs).2.2
 have:=jI q1 q2 q1 h1 h2
 rw [xu] at this
 cases this
theorem Ob (h:Ech d F) {x y:V} (hx:x.length=d) (hy:y.length=d) (hxz:∀ r∈F,at_ x (pv r)=0) (hyz:∀ r∈F,at_ y (pv r)=0) (hxc:content x=1) (hyc:content y=1) {m n:Int} (hm:0<m) (hn:0<n) (hs:Spn d (· ∈ F) (mix m x (-n) y)):x=y:=by
 have hz:=h.spn_zero hs fun r hr=>by rw [aj (hx.trans hy.symm),hxz r hr,hyz r hr]; simp
 exact yQ hxc hyc hm hn (aP (by rw [ah hx,ah hy]) fun i=>by
  have:=hz i
  rw [aj (hx.trans hy.symm)] at this
  rw [aw,aw]; grind)
end
structure Under where
 lines:List V
 rays:List V
 done:List V
def unitV (d i:Nat):V:=(jJ d).set i 1
def startU (d:Nat):Under:=⟨(List.range d).map (unitV d),[],[]⟩
def upV (a u:V):V:=if dot a u<0 then scl (-1) u else u
def addU (a:V) (eq:Bool) (u:Under):Under :=
 match u.lines.findIdx? fun l=>!decide (dot a l=0) with
 | none=>⟨u.lines,cutL u.done a eq u.rays,u.done++if eq then [] else [a]⟩
 | some i=>⟨(u.lines.eraseIdx i).map (foldV a (upV a (u.lines.getD i []))),u.rays.map (foldV a (upV a (u.lines.getD i [])))++(if eq then [] else [upV a (u.lines.getD i [])]),u.done++if eq then [] else [a]⟩
def gensU (d:Nat) (eqs ineqs:List V):Under:=ineqs.foldl (fun u a=>addU a false u) (eqs.foldl (fun u a=>addU a true u) (startU d))
def cmpV:V->V->Bool
 | [],_=>true
 | _ :: _,[]=>false
 | a :: x,b :: y=>if a<b then true else if a=b then cmpV x y else false
def gensL (d:Nat) (eqs ineqs:List V):List V:=formF (gensU d eqs ineqs).lines
def gensR (d:Nat) (eqs ineqs:List V):List V:=((gensU d eqs ineqs).rays.map (restF (gensL d eqs ineqs))).mergeSort cmpV
section
variable {d:Nat} {E:V->Prop}
theorem kS {i j:Nat} (hi:i<d):at_ (unitV d i) j=if j=i then 1 else 0:=by
 unfold at_ unitV jJ
 rw [List.getD_eq_getElem?_getD,List.getElem?_set]
 by_cases h:i=j
 ·subst h; simp [hi]
 ·have h':¬ j=i:=fun e=>h e.symm
  rw [if_neg h,if_neg h',List.getElem?_replicate]
  split <;> rfl
theorem lV:DD d (fun _=>False) (· ∈ ([]:List V)) (· ∈ (startU d).lines) (startU d).rays:=by
 refine ⟨fun l hl=>?_,fun l hl e he=>he.elim,fun l hl i hi=>(by cases hi),fun x hx _ _=>?_,fun r hr=>(by cases hr),fun x hx=>?_,fun r hr=>(by cases hr),fun r hr=>(by cases hr),List.Pairwise.nil⟩
 ·obtain ⟨i,-,rfl⟩:=List.mem_map.1 hl
  simp [unitV,jJ]
 all_goals
  first
  | (have hx:=hx.len)
  | skip
 all_goals
  have hl:∀ l,l∈(startU d).lines->l.length=d:=fun l hl=>by
   obtain ⟨i,-,rfl⟩:=List.mem_map.1 hl
   simp [unitV,jJ]
  have key:∀ n,n<=d->Spn d (· ∈ (startU d).lines) (x.take n++jJ (d-n)):=by
   intro n
   induction n with
   | zero=>intro _; simp; exact .zero
   | succ n ih =>
    intro hn
    have hlen:(x.take n++jJ (d-n)).length=d:=by simp [jJ,hx]; omega
    have hu:(unitV d n).length=d:=by simp [unitV,jJ]
    have e:x.take (n+1)++jJ (d-(n+1))=mix 1 (x.take n++jJ (d-n)) (at_ x n) (unitV d n):=aP (by rw [mix_length hlen hu]; simp [jJ,hx]; omega) fun i=>by
     rw [aj (hlen.trans hu.symm),kS (by omega)]
     have g:∀ m,m<=d->at_ (x.take m++jJ (d-m)) i=if i<m then at_ x i else 0:=fun m hm=>by
      unfold at_
      rw [List.getD_eq_getElem?_getD,List.getElem?_append]
      have:(x.take m).length=m:=by simp [hx]; omega
      rw [this]
      by_cases hi:i<m
      ·rw [if_pos hi,if_pos hi,List.getElem?_take,if_pos hi,List.getD_eq_getElem?_getD]
      ·rw [if_neg hi,if_neg hi]
       unfold jJ
       rw [List.getElem?_replicate]
       split <;> rfl
     rw [g (n+1) hn,g n (by omega)]
     by_cases h1:i<n
     ·rw [if_pos (by omega),if_pos h1,if_neg (by omega)]; grind
     ·by_cases h2:i=n
      ·subst h2; rw [if_pos (by omega),if_neg (by omega),if_pos rfl]; grind
      ·rw [if_neg (by omega),if_neg h1,if_neg h2]; grind
    rw [e]
    exact .line _ (ih (by omega)) (List.mem_map.2 ⟨n,List.mem_range.2 (by omega),rfl⟩)
  have hk:=key d (Nat.le_refl _)
  have e:x.take d++jJ (d-d)=x:=by rw [List.take_of_length_le (by omega)]; simp [jJ]
  rw [e] at hk
 ·exact hk
 ·exact hk.mono (fun _ h=>h) (fun r h=>h.elim)
theorem CV {u:Under} {a:V} (h:DD d E (· ∈ u.done) (· ∈ u.lines) u.rays) (ha:a.length=d) (eq:Bool) :
  DD d (fun e=>E e\/(eq=true/\e=a)) (· ∈ (addU a eq u).done) (· ∈ (addU a eq u).lines) (addU a eq u).rays:=by
 unfold addU
 split
 ·rename_i hn
  refine L6 h (fun x hx=>?_) eq
  have:=List.findIdx?_eq_none_iff.1 hn x hx
  simpa using this
 ·rename_i i hi
  obtain ⟨hi1,hi2,-⟩:=List.findIdx?_eq_some_iff_getElem.1 hi
  have hl:u.lines.getD i []=u.lines[i]:=by simp [List.getD_eq_getElem?_getD,hi1]
  rw [hl]
  have hm:u.lines[i]∈u.lines:=List.getElem_mem hi1
  have hne:dot a u.lines[i]≠0:=by simpa using hi2
  have hll:=h.lenL _ hm
  have hs:∃ s:Int,(s=1\/s = -1)/\upV a u.lines[i]=scl s u.lines[i]:=by
   unfold upV
   split
   ·exact ⟨-1,.inr rfl,rfl⟩
   ·exact ⟨1,.inl rfl,(qU _).symm⟩
  obtain ⟨s,hs1,hs2⟩:=hs
  have hpos:0<dot a (upV a u.lines[i]):=by
   unfold upV
   split
   ·rw [dot_scl]; omega
   ·omega
  refine J4 h ha (fun x hx=>?_) (fun x hx=>List.mem_of_mem_eraseIdx hx) (by rw [hs2]; exact ah hll) (fun e he=>?_) (fun j hj=>?_) hpos eq
  ·obtain ⟨j,hj⟩:=List.getElem?_of_mem hx
   by_cases hji:j=i
   ·right
    subst hji
    rw [List.getElem?_eq_getElem hi1] at hj
    cases hj
    refine ⟨s,?_⟩
    rw [hs2]
    rcases hs1 with rfl | rfl
    ·rw [qU,qU]
    ·exact aP (by simp [scl]) fun t=>by rw [aw,aw]; omega
   ·left
    exact List.mem_eraseIdx_iff_getElem?.2 ⟨j,hji,hj⟩
  ·rw [hs2,dot_scl,h.lineE _ hm e he]; simp
  ·rw [hs2,dot_scl,h.lineI _ hm j hj]; simp
theorem DD.congr {E E' I I' L L':V->Prop} {R:List V} (h:DD d E I L R) (hE:∀ x,E x ↔ E' x) (hI:∀ x,I x ↔ I' x) (hL:∀ x,L x ↔ L' x):DD d E' I' L' R:=by
 have e1:E=E':=funext fun x=>propext (hE x)
 have e2:I=I':=funext fun x=>propext (hI x)
 have e3:L=L':=funext fun x=>propext (hL x)
 subst e1; subst e2; subst e3; exact h
theorem ux:∀ (l:List V) (u:Under) (E:V->Prop),DD d E (· ∈ u.done) (· ∈ u.lines) u.rays->(∀ a∈l,a.length=d) ->
  DD d (fun e=>E e\/e∈l) (· ∈ (l.foldl (fun u a=>addU a true u) u).done) (· ∈ (l.foldl (fun u a=>addU a true u) u).lines) (l.foldl (fun u a=>addU a true u) u).rays/\(l.foldl (fun u a=>addU a true u) u).done=u.done
 | [],u,E,h,_=>⟨h.congr (fun x=>by simp) (fun x=>Iff.rfl) (fun x=>Iff.rfl),rfl⟩
 | a :: l,u,E,h,hl=>by
  obtain ⟨h1,h2⟩:=ux l (addU a true u) _ (CV h (hl a (List.mem_cons_self ..)) true) fun b hb=>hl b (List.mem_cons_of_mem _ hb)
  simp only [List.foldl_cons]
  refine ⟨h1.congr (fun x=>?_) (fun x=>Iff.rfl) (fun x=>Iff.rfl),h2.trans ?_⟩
  ·rw [List.mem_cons]; simp only [true_and]; exact or_assoc
  ·unfold addU; split <;> simp
theorem sN:∀ (l:List V) (u:Under),DD d E (· ∈ u.done) (· ∈ u.lines) u.rays->(∀ a∈l,a.length=d) ->
  DD d E (· ∈ (l.foldl (fun u a=>addU a false u) u).done) (· ∈ (l.foldl (fun u a=>addU a false u) u).lines) (l.foldl (fun u a=>addU a false u) u).rays/\(l.foldl (fun u a=>addU a false u) u).done=u.done++l
 | [],u,h,_=>⟨h,by simp⟩
 | a :: l,u,h,hl=>by
  obtain ⟨h1,h2⟩:=sN l (addU a false u) ((CV h (hl a (List.mem_cons_self ..)) false).congr (fun x=>by simp) (fun x=>Iff.rfl) (fun x=>Iff.rfl)) fun b hb=>hl b (List.mem_cons_of_mem _ hb)
  simp only [List.foldl_cons]
  refine ⟨h1,h2.trans ?_⟩
  unfold addU; split <;> simp
theorem gensU_dd {eqs ineqs:List V} (h1:∀ a∈eqs,a.length=d) (h2:∀ a∈ineqs,a.length=d):DD d (· ∈ eqs) (· ∈ ineqs) (· ∈ (gensU d eqs ineqs).lines) (gensU d eqs ineqs).rays:=by
 obtain ⟨g1,g2⟩:=ux eqs (startU d) _ lV h1
 obtain ⟨g3,g4⟩:=sN ineqs _ g1 h2
 refine g3.congr (fun x=>by simp) (fun x=>?_) (fun x=>Iff.rfl)
 rw [g4,g2]
 simp [startU]
theorem DD.rep {I L L':V->Prop} {R:List V} (h:DD d E I L R) (hL':∀ x,L' x->x.length=d) (hs:∀ x,Spn d L x ↔ Spn d L' x) (f:V->V) (hf:∀ r∈R,(f r).length=d/\∃ m k:Int,0<m/\0<k/\Spn d L (mix m (f r) (-k) r)):DD d E I L' (R.map f):=by
 have hdot:∀ r∈R,∃ m k:Int,0<m/\0<k/\∀ b,(∀ l,L l->dot b l=0)->m*dot b (f r)=k*dot b r:=fun r hr=>by
  obtain ⟨hl,m,k,hm,hk,hsp⟩:=hf r hr
  refine ⟨m,k,hm,hk,fun b hb=>?_⟩
  have:=Con.dot_zero (a:=b) h.lenL (fun r h=>h.elim) hb (fun r h=>h.elim) hsp
  rw [bj _ _ _ (hl.trans (h.lenR r hr).symm),Int.neg_mul] at this
  omega
 have hz:∀ r∈R,∀ b,(∀ l,L l->dot b l=0)->(dot b (f r)=0 ↔ dot b r=0):=fun r hr b hb=>by
  obtain ⟨m,k,hm,hk,e⟩:=hdot r hr
  have e:=e b hb
  constructor
  ·intro h0
   rw [h0] at e
   rcases Int.mul_eq_zero.1 (show k*dot b r=0 by omega) with h1 | h1
   ·omega
   ·exact h1
  ·intro h0
   rw [h0] at e
   rcases Int.mul_eq_zero.1 (show m*dot b (f r)=0 by omega) with h1 | h1
   ·omega
   ·exact h1
 have lI:∀ i,I i->∀ l,L l->dot i l=0:=fun i hi l hl=>h.lineI l hl i hi
 have lE:∀ e,E e->∀ l,L l->dot e l=0:=fun e he l hl=>h.lineE l hl e he
 have line0:∀ b,(∀ l,L l->dot b l=0)->∀ x,L' x->dot b x=0:=fun b hb x hx =>
  Con.dot_zero (a:=b) h.lenL (fun r h=>h.elim) hb (fun r h=>h.elim) ((hs x).2 (dw (hL' x hx) hx))
 have hfl:∀ x,x∈R.map f->x.length=d:=fun x hx=>by
  obtain ⟨r,hr,rfl⟩:=List.mem_map.1 hx
  exact (hf r hr).1
 refine ⟨hL',fun l hl e he=>line0 e (lE e he) l hl,fun l hl i hi=>line0 i (lI i hi) l hl,fun x hx hE hI=>(hs x).1 (h.lines x hx hE hI),?_,?_,?_,?_,?_⟩
 ·intro x hx
  obtain ⟨r,hr,rfl⟩:=List.mem_map.1 hx
  refine ⟨(hf r hr).1,fun e he=>(hz r hr e (lE e he)).2 ((h.keep r hr).eq e he),fun i hi=>?_⟩
  obtain ⟨m,k,hm,hk,e⟩:=hdot r hr
  have e:=e i (lI i hi)
  have:=Int.mul_nonneg (Int.le_of_lt hk) ((h.keep r hr).ge i hi)
  rw [<- e] at this
  exact Int.nonneg_of_mul_nonneg_right this hm
 ·intro x hx
  refine Con.trans hL' hfl (fun l hl c=>((hs _).1 (Spn.smul h.lenL (dw (h.lenL l hl) hl) c)).mono (fun _ h=>h) (fun r h=>h.elim)) (fun r hr=>?_) h.lenL h.lenR (h.all x hx)
  obtain ⟨hl,m,k,hm,hk,hsp⟩:=hf r hr
  refine .div k hk (h.lenR r hr) ?_
  have e:scl k r=mix 1 (scl m (f r)) 1 (scl (-1) (mix m (f r) (-k) r)):=aP (by rw [ah (h.lenR r hr),mix_length (ah hl) (ah (mix_length hl (h.lenR r hr)))]) fun i=>by
   rw [aw,aj ((ah hl).trans (ah (mix_length hl (h.lenR r hr))).symm),aw,aw,aj (hl.trans (h.lenR r hr).symm)]; grind
  rw [e]
  have t1:Con d L' (· ∈ R.map f) (scl m (f r)):=(Con.of_ray hl (List.mem_map_of_mem hr)).smul hL' hfl m (by omega)
  have t2:Con d L' (· ∈ R.map f) (scl (-1) (mix m (f r) (-k) r)):=((hs _).1 (Spn.smul h.lenL hsp (-1))).mono (fun _ h=>h) (fun r h=>h.elim)
  exact t2.add hL' hfl _ t1
 ·intro x hx
  obtain ⟨r,hr,rfl⟩:=List.mem_map.1 hx
  obtain ⟨i,hi,hn⟩:=h.off r hr
  exact ⟨i,hi,fun e=>hn ((hz r hr i (lI i hi)).1 e)⟩
 ·intro x hx y hy hsat
  obtain ⟨r,hr,rfl⟩:=List.mem_map.1 hx
  obtain ⟨k1,c1,hk1,hc1,hsp1⟩:=h.ext r hr y hy fun i hi e=>hsat i hi ((hz r hr i (lI i hi)).2 e)
  obtain ⟨hl,m,k,hm,hk,hsp⟩:=hf r hr
  refine ⟨k*k1,c1*m,Int.mul_pos hk hk1,Int.mul_nonneg hc1 (by omega),(hs _).1 ?_⟩
  have t:=Spn.sum2 h.lenL hsp1 hsp k (-c1)
  have e:mix k (mix k1 y (-c1) r) (-c1) (mix m (f r) (-k) r)=mix (k*k1) y (-(c1*m)) (f r):=aP (by rw [mix_length (mix_length hy.len (h.lenR r hr)) (mix_length hl (h.lenR r hr)),mix_length hy.len hl]) fun i=>by
   rw [aj ((mix_length hy.len (h.lenR r hr)).trans (mix_length hl (h.lenR r hr)).symm),aj (hy.len.trans (h.lenR r hr).symm),aj (hl.trans (h.lenR r hr).symm),aj (hy.len.trans hl.symm)]; grind
  rw [e] at t; exact t
 ·refine List.pairwise_map.2 (h.apart.imp_of_mem fun {r s} hr hs' hne h2=>hne fun i hi=>?_)
  have:=h2 i hi
  rw [hz r hr i (lI i hi),hz s hs' i (lI i hi)] at this
  exact this
theorem DD.perm {I L:V->Prop} {R R':List V} (h:DD d E I L R) (hp:R.Perm R'):DD d E I L R':=by
 have hm:∀ x,x∈R' ↔ x∈R:=fun x=>hp.mem_iff.symm
 refine ⟨h.lenL,h.lineE,h.lineI,h.lines,fun r hr=>h.keep r ((hm r).1 hr),fun x hx=>(h.all x hx).mono (fun _ h=>h) (fun r hr=>(hm r).2 hr),fun r hr=>h.off r ((hm r).1 hr),fun r hr=>h.ext r ((hm r).1 hr),?_⟩
 exact (hp.pairwise_iff (fun {r s} hne h2=>hne fun i hi=>(h2 i hi).symm)).1 h.apart
theorem cmpV_refl:∀ x:V,cmpV x x=true
 | []=>rfl
 | a :: x=>by simp [cmpV,cmpV_refl x]
theorem cmpV_trans:∀ a b c:V,cmpV a b=true->cmpV b c=true->cmpV a c=true
 | [],_,_,_,_=>rfl
 | _ :: _,[],_,h,_=>by simp [cmpV] at h
 | _ :: _,_ :: _,[],_,h=>by simp [cmpV] at h
 | a :: x,b :: y,c :: z,h1,h2=>by
  have ih:=cmpV_trans x y z
  simp only [cmpV] at h1 h2 ⊢
  split at h1
  ·split at h2
   ·rw [if_pos (by omega)]
   ·split at h2
    ·rw [if_pos (by omega)]
    ·cases h2
  ·split at h1
   ·split at h2
    ·rw [if_pos (by omega)]
    ·split at h2
     ·rw [if_neg (by omega),if_pos (by omega)]; exact ih h1 h2
     ·cases h2
   ·cases h1
theorem cmpV_total:∀ a b:V,(cmpV a b || cmpV b a)=true
 | [],_=>by simp [cmpV]
 | _ :: _,[]=>by simp [cmpV]
 | a :: x,b :: y=>by
  have ih:=cmpV_total x y
  simp only [cmpV]
  by_cases h1:a<b
  ·simp [h1]
  ·by_cases h2:a=b
   ·subst h2; simpa using ih
   ·have:b<a:=by omega
    simp [this]
theorem cmpV_antisymm:∀ a b:V,cmpV a b=true->cmpV b a=true->a=b
 | [],[],_,_=>rfl
 | [],_ :: _,_,h=>by simp [cmpV] at h
 | _ :: _,[],h,_=>by simp [cmpV] at h
 | a :: x,b :: y,h1,h2=>by
  have ih:=cmpV_antisymm x y
  simp only [cmpV] at h1 h2
  split at h1
  ·split at h2
   ·omega
   ·split at h2
    ·omega
    ·cases h2
  ·split at h1
   ·split at h2
    ·omega
    ·split at h2
     ·rename_i e _ _; rw [e,ih h1 h2]
     ·cases h2
   ·cases h1
structure Kn (d:Nat) (E I:V->Prop) (L R:List V):Prop where
 dd:DD d E I (· ∈ L) R
 form:Ech d L
 rest:∀ r∈R,∀ l∈L,at_ r (pv l)=0
 cont:∀ r∈R,content r=1
 sorted:R.Pairwise fun r s=>cmpV r s=true
theorem gens_told {eqs ineqs:List V} (h1:∀ a∈eqs,a.length=d) (h2:∀ a∈ineqs,a.length=d):Kn d (· ∈ eqs) (· ∈ ineqs) (gensL d eqs ineqs) (gensR d eqs ineqs):=by
 have h:=gensU_dd h1 h2
 obtain ⟨f1,f2⟩:=form_ech (d:=d) (l:=(gensU d eqs ineqs).lines) h.lenL
 have hr:∀ r∈(gensU d eqs ineqs).rays,(restF (gensL d eqs ineqs) r).length=d/\(∀ l∈gensL d eqs ineqs,at_ (restF (gensL d eqs ineqs) r) (pv l)=0)/\(∃ m k:Int,0<m/\0<k/\Spn d (· ∈ gensL d eqs ineqs) (mix m (restF (gensL d eqs ineqs) r) (-k) r))/\(content (restF (gensL d eqs ineqs) r)=1\/∀ i,at_ (restF (gensL d eqs ineqs) r) i=0):=fun r hr=>Ak f1 (h.lenR r hr)
 have hd:DD d (· ∈ eqs) (· ∈ ineqs) (· ∈ gensL d eqs ineqs) ((gensU d eqs ineqs).rays.map (restF (gensL d eqs ineqs))):=h.rep f1.len (fun x=>(f2 x).symm) _ fun r hr'=>by
  obtain ⟨g1,g2,⟨m,k,hm,hk,g3⟩,g4⟩:=hr r hr'
  exact ⟨g1,m,k,hm,hk,(f2 _).1 g3⟩
 have hp:((gensU d eqs ineqs).rays.map (restF (gensL d eqs ineqs))).Perm (gensR d eqs ineqs):=(List.mergeSort_perm _ _).symm
 refine ⟨hd.perm hp,f1,fun r hr' l hl=>?_,fun r hr'=>?_,List.pairwise_mergeSort cmpV_trans cmpV_total _⟩
 ·obtain ⟨s,hs,rfl⟩:=List.mem_map.1 (hp.mem_iff.2 hr')
  exact (hr s hs).2.1 l hl
 ·have hm:=hp.mem_iff.2 hr'
  obtain ⟨s,hs,rfl⟩:=List.mem_map.1 hm
  refine (hr s hs).2.2.2.resolve_right fun hz=>?_
  obtain ⟨i,hi,hn⟩:=hd.off _ hm
  refine hn ?_
  rw [(CE (hr s hs).1).2 hz,kK]
theorem Oo {L R:V->Prop} (hL:∀ x,L x->x.length=d) (hR:∀ x,R x->x.length=d) {x:V} (h:Con d L R x):Spn d L x\/∃ r,R r/\∃ k c:Int,0<k/\0<c/\∃ y,Con d L R y/\scl k x=mix c r 1 y:=by
 induction h with
 | zero=>exact .inl .zero
 | @line x l c hx hl ih =>
  have h1:=hx.length hL hR
  have h2:=hL l hl
  rcases ih with ih | ⟨r,hr,k,c1,hk,hc1,y,hy,e⟩
  ·exact .inl (.line c ih hl)
  ·refine .inr ⟨r,hr,k,c1,hk,hc1,_,.line (k*c) hy hl,aP (by rw [ah (mix_length h1 h2),mix_length (hR r hr) (mix_length (hy.length hL hR) h2)]) fun i=>?_⟩
   have e3:k*at_ x i=c1*at_ r i+1*at_ y i:=by rw [<- aw,e,aj ((hR r hr).trans (hy.length hL hR).symm)]
   rw [aw,aj (h1.trans h2.symm),aj ((hR r hr).trans (mix_length (hy.length hL hR) h2).symm),aj ((hy.length hL hR).trans h2.symm)]; grind
 | @ray x l c hc hx hl ih =>
  have h1:=hx.length hL hR
  have h2:=hR l hl
  by_cases hc0:c=0
  ·subst hc0
   have e:mix 1 x 0 l=x:=aP (by rw [mix_length h1 h2,h1]) fun i=>by rw [aj (h1.trans h2.symm)]; grind
   rw [e]; exact ih
  ·exact .inr ⟨l,hl,1,c,by omega,by omega,x,hx,aP (by rw [ah (mix_length h1 h2),mix_length h2 h1]) fun i=>by rw [aw,aj (h1.trans h2.symm),aj (h2.trans h1.symm)]; grind⟩
 | @div x j hj hl hx ih =>
  rcases ih with ih | ⟨r,hr,k,c1,hk,hc1,y,hy,e⟩
  ·exact .inl (.div j hj hl ih)
  ·refine .inr ⟨r,hr,k*j,c1,Int.mul_pos hk hj,hc1,y,hy,?_⟩
   rw [<- e]
   exact aP (by simp [scl]) fun i=>by rw [aw,aw,aw]; grind
theorem Oa {E' I I':V->Prop} {L R L' R':List V} (h:Kn d E I L R) (h':Kn d E' I' L' R') (hs:∀ x,Keep d E I x ↔ Keep d E' I' x) (hL:L=L'):∀ r∈R,r∈R':=by
 intro r hr
 subst hL
 have hk:=h.dd.keep r hr
 have hlin:∀ x,Keep d E I x->Spn d (· ∈ L) x->∀ i,I i->dot i x=0:=fun x _ hx i hi=>Con.dot_zero (a:=i) h.dd.lenL (fun r h=>h.elim) (fun l hl=>h.dd.lineI l hl i hi) (fun r h=>h.elim) hx
 rcases Oo h'.dd.lenL h'.dd.lenR (h'.dd.all r ((hs r).1 hk)) with hsp | ⟨r',hr',k,c,hk0,hc0,y,hy,e⟩
 ·exfalso
  obtain ⟨i,hi,hn⟩:=h.dd.off r hr
  exact hn (hlin r hk hsp i hi)
 ·have hrl':=h'.dd.lenR r' hr'
  have hyk:Keep d E I y:=(hs y).2 (h'.dd.con_keep hy)
  have hrk':Keep d E I r':=(hs r').2 (h'.dd.keep r' hr')
  obtain ⟨k1,c1,hk1,hc1,hsp⟩:=h.dd.ext r hr r' hrk' fun i hi hz=>by
   have e2:k*dot i r=c*dot i r'+1*dot i y:=by rw [<- dot_scl,e,bj _ _ _ (hrl'.trans hyk.len.symm)]
   rw [hz] at e2
   have g1:=Int.mul_nonneg (Int.le_of_lt hc0) (hrk'.ge i hi)
   have g2:=hyk.ge i hi
   rcases Int.mul_eq_zero.1 (show c*dot i r'=0 by omega) with h1 | h1
   ·omega
   ·exact h1
  have hc1':c1≠0:=fun e0=>by
   subst e0
   obtain ⟨i',hi',hn'⟩:=h'.dd.off r' hr'
   have:=Con.dot_zero (a:=i') h'.dd.lenL (fun r h=>h.elim) (fun l hl=>h'.dd.lineI l hl i' hi') (fun r h=>h.elim) hsp
   rw [bj _ _ _ (hrl'.trans hk.len.symm)] at this
   rcases Int.mul_eq_zero.1 (show k1*dot i' r'=0 by omega) with h1 | h1
   ·omega
   ·exact hn' h1
  have:r'=r:=Ob h.form hrl' hk.len (fun l hl=>h'.rest r' hr' l hl) (fun l hl=>h.rest r hr l hl) (h'.cont r' hr') (h.cont r hr) hk1 (by omega) hsp
  rw [<- this]; exact hr'
theorem N9 {E' I I':V->Prop} {L R L' R':List V} (h:Kn d E I L R) (h':Kn d E' I' L' R') (hs:∀ x,Keep d E I x ↔ Keep d E' I' x):L=L'/\R=R':=by
 have lin:∀ {E I:V->Prop} {L R:List V},Kn d E I L R->∀ x,x.length=d->(Spn d (· ∈ L) x ↔ Keep d E I x/\Keep d E I (scl (-1) x)):=by
  intro E I L R h x hx
  constructor
  ·intro hsp
   have hE:∀ e,E e->dot e x=0:=fun e he=>Con.dot_zero (a:=e) h.dd.lenL (fun r h=>h.elim) (fun l hl=>h.dd.lineE l hl e he) (fun r h=>h.elim) hsp
   have hI:∀ e,I e->dot e x=0:=fun e he=>Con.dot_zero (a:=e) h.dd.lenL (fun r h=>h.elim) (fun l hl=>h.dd.lineI l hl e he) (fun r h=>h.elim) hsp
   exact ⟨⟨hx,hE,fun i hi=>by rw [hI i hi]; omega⟩,⟨ah hx,fun e he=>by rw [dot_scl,hE e he]; simp,fun i hi=>by rw [dot_scl,hI i hi]; simp⟩⟩
  ·rintro ⟨h1,h2⟩
   refine h.dd.lines x hx h1.eq fun i hi=>?_
   have g1:=h1.ge i hi
   have g2:=h2.ge i hi
   rw [dot_scl] at g2
   omega
 have hL:L=L':=h.form.unique h'.form fun x=>by
  constructor
  ·intro hx
   have hxl:=hx.length h.dd.lenL (fun r h=>h.elim)
   rw [lin h x hxl] at hx
   rw [lin h' x hxl,<- hs,<- hs]; exact hx
  ·intro hx
   have hxl:=hx.length h'.dd.lenL (fun r h=>h.elim)
   rw [lin h' x hxl] at hx
   rw [lin h x hxl,hs,hs]; exact hx
 refine ⟨hL,?_⟩
 have s1:=Oa h h' hs hL
 have s2:=Oa h' h (fun x=>(hs x).symm) hL.symm
 have nodup:∀ {E I:V->Prop} {L R:List V},Kn d E I L R->R.Nodup:=fun h=>h.dd.apart.imp fun hne e=>hne fun i hi=>by rw [e]
 refine List.Perm.eq_of_pairwise (le:=fun a b=>cmpV a b=true) (fun a b _ _ h1 h2=>cmpV_antisymm a b h1 h2) h.sorted h'.sorted ((List.perm_ext_iff_of_nodup (nodup h) (nodup h')).2 fun x=>⟨s1 x,s2 x⟩)
end
def Bd (M:Nat) (x:V):Prop:=∀ i,(at_ x i).natAbs<=M
theorem Bd.mono {M N:Nat} (h:M<=N) {x:V} (hx:Bd M x):Bd N x:=fun i=>Nat.le_trans (hx i) h
theorem Ic {M N:Nat}:∀ {x y:V},(∀ a∈x,a.natAbs<=M)->(∀ b∈y,b.natAbs<=N)->(dot x y).natAbs<=x.length*(M*N)
 | [],y,_,_=>by cases y <;> simp [dot]
 | a :: x,[],_,_=>by simp [dot]
 | a :: x,b :: y,h1,h2=>by
  have ih:=Ic (x:=x) (y:=y) (fun c hc=>h1 c (List.mem_cons_of_mem _ hc)) (fun c hc=>h2 c (List.mem_cons_of_mem _ hc))
  have ha:=h1 a (List.mem_cons_self ..)
  have hb:=h2 b (List.mem_cons_self ..)
  simp only [dot,List.length_cons]
  have g:=Int.natAbs_add_le (a*b) (dot x y)
  rw [Int.natAbs_mul] at g
  have:=Nat.mul_le_mul ha hb
  rw [Nat.add_mul,Nat.one_mul]
  omega
theorem Bd.mem {M:Nat} {x:V} (h:Bd M x):∀ a∈x,a.natAbs<=M:=fun a ha=>by
 obtain ⟨i,rfl⟩:=Cj ha
 exact h i
theorem Iv {d M N:Nat} {x y:V} (hx:x.length=d) (h1:Bd M x) (h2:Bd N y):(dot x y).natAbs<=d*(M*N):=by
 have:=Ic h1.mem h2.mem
 rw [hx] at this; exact this
theorem M0 {d M b:Nat} {a u x:V} (ha:a.length=d) (hu:u.length=d) (hx:x.length=d) (h1:Bd M a) (h2:Bd b u) (h3:Bd b x):Bd (2*d*M*b*b) (mv a u x):=by
 intro i
 unfold mv
 rw [aj (hx.trans hu.symm)]
 have g1:=Iv ha h1 h2
 have g2:=Iv ha h1 h3
 have t:=Int.natAbs_add_le (dot a u*at_ x i) (-(dot a x)*at_ u i)
 rw [Int.natAbs_mul,Int.natAbs_mul,Int.natAbs_neg] at t
 have p1:=Nat.mul_le_mul g1 (h3 i)
 have p2:=Nat.mul_le_mul g2 (h2 i)
 have e:2*d*M*b*b=d*(M*b)*b+d*(M*b)*b:=by grind
 rw [e]; omega
def mh:List V->List V->List V
 | [],Ls=>Ls
 | a :: S,Ls=>match Ls.findIdx? fun l=>!decide (dot a l=0) with
  | none=>mh S Ls
  | some i=>mh S ((Ls.eraseIdx i).map (mv a (Ls.getD i [])))
theorem zr {d M:Nat} (hM:1<=2*d*M):∀ (S Ls:List V) (n b:Nat),Ls.length<=n->1<=b->(∀ a∈S,a.length=d/\Bd M a)->(∀ l∈Ls,l.length=d/\Bd b l)->∀ w∈mh S Ls,w.length=d/\Bd ((2*d*M*b)^2^n) w
 | [],Ls,n,b,hn,hb,hS,hL,w,hw=>by
  refine ⟨(hL w hw).1,(hL w hw).2.mono ?_⟩
  have h1:b<=2*d*M*b:=by have:=Nat.mul_le_mul_right b hM; omega
  have h2:(2*d*M*b)^1<=(2*d*M*b)^2^n:=Nat.pow_le_pow_right (by omega) (Nat.one_le_two_pow)
  rw [Nat.pow_one] at h2
  omega
 | a :: S,Ls,n,b,hn,hb,hS,hL,w,hw=>by
  unfold mh at hw
  split at hw
  ·exact zr hM S Ls n b hn hb (fun c hc=>hS c (List.mem_cons_of_mem _ hc)) hL w hw
  ·rename_i i hi
   obtain ⟨hi1,hi2,-⟩:=List.findIdx?_eq_some_iff_getElem.1 hi
   have hl:Ls.getD i []=Ls[i]:=by simp [List.getD_eq_getElem?_getD,hi1]
   rw [hl] at hw
   have hm:=hL _ (List.getElem_mem hi1)
   have ha:=hS a (List.mem_cons_self ..)
   obtain ⟨n',rfl⟩:∃ n',n=n'+1:=⟨n-1,by omega⟩
   have hb':1<=2*d*M*b*b:=by
    have g1:=Nat.mul_le_mul hM hb
    have g2:=Nat.mul_le_mul g1 hb
    simpa using g2
   have:=zr hM S _ n' (2*d*M*b*b) (by rw [List.length_map,List.length_eraseIdx_of_lt hi1]; omega) hb' (fun c hc=>hS c (List.mem_cons_of_mem _ hc)) (fun l hl=>by
    obtain ⟨x,hx,rfl⟩:=List.mem_map.1 hl
    have hx':=hL x (List.mem_of_mem_eraseIdx hx)
    exact ⟨bo hm.1 hx'.1,M0 ha.1 hm.1 hx'.1 ha.2 hm.2 hx'.2⟩) w hw
   refine ⟨this.1,this.2.mono (Nat.le_of_eq ?_)⟩
   have e:2*d*M*(2*d*M*b*b)=(2*d*M*b)^2:=by rw [Nat.pow_two]; grind
   rw [e,<- Nat.pow_mul,Nat.pow_succ 2 n',Nat.mul_comm 2 (2^n')]
theorem pm:∀ {d:Nat} (S Ls:List V),(∀ l∈Ls,l.length=d)->∀ (b:V),(∀ l∈Ls,dot b l=0)->∀ w∈mh S Ls,dot b w=0
 | d,[],Ls,hL,b,hb,w,hw=>hb w hw
 | d,a :: S,Ls,hL,b,hb,w,hw=>by
  unfold mh at hw
  split at hw
  ·exact pm S Ls hL b hb w hw
  ·rename_i i hi
   obtain ⟨hi1,hi2,-⟩:=List.findIdx?_eq_some_iff_getElem.1 hi
   have hl:Ls.getD i []=Ls[i]:=by simp [List.getD_eq_getElem?_getD,hi1]
   rw [hl] at hw
   have hm:=List.getElem_mem hi1
   refine pm (d:=d) S _ (fun l hl=>?_) b (fun l hl=>?_) w hw
   ·obtain ⟨x,hx,rfl⟩:=List.mem_map.1 hl
    exact bo (hL _ hm) (hL x (List.mem_of_mem_eraseIdx hx))
   ·obtain ⟨x,hx,rfl⟩:=List.mem_map.1 hl
    rw [se (hL _ hm) (hL x (List.mem_of_mem_eraseIdx hx)),hb _ hm,hb x (List.mem_of_mem_eraseIdx hx)]; simp
theorem oC:∀ {d:Nat} (S Ls:List V),(∀ l∈Ls,l.length=d)->∀ s∈S,∀ w∈mh S Ls,dot s w=0
 | d,[],Ls,hL,s,hs,w,hw=>by cases hs
 | d,a :: S,Ls,hL,s,hs,w,hw=>by
  unfold mh at hw
  split at hw
  ·rename_i hn
   rcases List.mem_cons.1 hs with rfl | hs
   ·exact pm (d:=d) S Ls hL s (fun l hl=>by have:=List.findIdx?_eq_none_iff.1 hn l hl; simpa using this) w hw
   ·exact oC S Ls hL s hs w hw
  ·rename_i i hi
   obtain ⟨hi1,hi2,-⟩:=List.findIdx?_eq_some_iff_getElem.1 hi
   have hl:Ls.getD i []=Ls[i]:=by simp [List.getD_eq_getElem?_getD,hi1]
   rw [hl] at hw
   have hm:=List.getElem_mem hi1
   have hL':∀ l∈(Ls.eraseIdx i).map (mv a Ls[i]),l.length=d:=fun l hl=>by
    obtain ⟨x,hx,rfl⟩:=List.mem_map.1 hl
    exact bo (hL _ hm) (hL x (List.mem_of_mem_eraseIdx hx))
   rcases List.mem_cons.1 hs with rfl | hs
   ·refine pm (d:=d) S _ hL' s (fun l hl=>?_) w hw
    obtain ⟨x,hx,rfl⟩:=List.mem_map.1 hl
    rw [se (hL _ hm) (hL x (List.mem_of_mem_eraseIdx hx))]; grind
   ·exact oC S _ hL' s hs w hw
theorem wh:∀ {d:Nat} (S Ls:List V),(∀ l∈Ls,l.length=d)->∀ x,x.length=d->Spn d (· ∈ Ls) x->(∀ s∈S,dot s x=0)->Spn d (· ∈ mh S Ls) x
 | d,[],Ls,hL,x,hx,hs,_=>hs
 | d,a :: S,Ls,hL,x,hx,hs,hz=>by
  unfold mh
  split
  ·exact wh S Ls hL x hx hs fun s hs=>hz s (List.mem_cons_of_mem _ hs)
  ·rename_i i hi
   obtain ⟨hi1,hi2,-⟩:=List.findIdx?_eq_some_iff_getElem.1 hi
   have hl:Ls.getD i []=Ls[i]:=by simp [List.getD_eq_getElem?_getD,hi1]
   rw [hl]
   have hm:=List.getElem_mem hi1
   have hul:=hL _ hm
   have hne:dot a Ls[i]≠0:=by simpa using hi2
   have hL':∀ l,l∈(Ls.eraseIdx i).map (mv a Ls[i])->l.length=d:=fun l hl=>by
    obtain ⟨x,hx,rfl⟩:=List.mem_map.1 hl
    exact bo (hL _ hm) (hL x (List.mem_of_mem_eraseIdx hx))
   refine wh S _ hL' x hx ?_ fun s hs=>hz s (List.mem_cons_of_mem _ hs)
   have t:Spn d (· ∈ (Ls.eraseIdx i).map (mv a Ls[i])) (mv a Ls[i] x):=Con.image (fun l hl=>hL l hl) (fun r h=>h.elim) hL' (fun r h=>h.elim) (mv a Ls[i]) (Ce hul) (fun x y c hx hy=>Cf hul hx hy) (fun x c hx=>yW hul hx) (fun x hx=>bo hul hx) (fun y hy c=>by
    obtain ⟨j,hj⟩:=List.getElem?_of_mem hy
    by_cases hji:j=i
    ·subst hji
     rw [List.getElem?_eq_getElem hi1] at hj
     cases hj
     have e:scl c (mv a Ls[j] Ls[j])=jJ d:=by
      rw [Dk hul]
      exact aP (by simp [scl,jJ]) fun t=>by rw [aw,Pm]; simp
     rw [e]; exact .zero
    ·exact Con.of_line (bo hul (hL y hy)) (List.mem_map_of_mem (List.mem_eraseIdx_iff_getElem?.2 ⟨j,hji,hj⟩)) c) (fun r h=>h.elim) hs
   rw [sf hul hx (hz a (List.mem_cons_self ..))] at t
   exact mA hL' hx hne t
theorem Dx {d M:Nat} (hd:0<d) (hM:0<M) {S:List V} (hS:∀ a∈S,a.length=d/\Bd M a) {v:V} (hv:v.length=d) (hc:content v=1) (hz:∀ s∈S,dot s v=0)
  (hone:∀ x,x.length=d->(∀ s∈S,dot s x=0)->∃ m n:Int,m≠0/\scl m x=scl n v):Bd ((2*d*M)^2^d) v:=by
 have hLl:∀ l∈(startU d).lines,l.length=d:=fun l hl=>(lV (d:=d)).lenL l hl
 have hsp:=wh S (startU d).lines hLl v hv ((lV (d:=d)).lines v hv (fun e h=>h.elim) (fun i h=>by cases h)) hz
 have hbd:∀ l∈(startU d).lines,l.length=d/\Bd 1 l:=fun l hl=>by
  refine ⟨hLl l hl,fun i=>?_⟩
  obtain ⟨j,hj,rfl⟩:=List.mem_map.1 hl
  rw [kS (List.mem_range.1 hj)]
  split <;> simp
 have hM1:1<=2*d*M:=by have:=Nat.mul_le_mul (show 1<=2*d by omega) hM; simpa using this
 have hE:=zr hM1 S (startU d).lines d 1 (by simp [startU]) (by omega) hS hbd
 rw [Nat.mul_one] at hE
 have ⟨w,hw,j,hj⟩:∃ w∈mh S (startU d).lines,∃ j,at_ w j≠0:=by
  apply Classical.byContradiction
  intro hno
  have hall:∀ w∈mh S (startU d).lines,∀ j,at_ w j=0:=fun w hw j=>Classical.not_not.1 fun e=>hno ⟨w,hw,j,e⟩
  have hv0:∀ i,at_ v i=0:=by
   have key:∀ {x:V},Spn d (· ∈ mh S (startU d).lines) x->∀ i,at_ x i=0:=by
    intro x hx
    induction hx with
    | zero=>intro i; exact Pm
    | @line x l c hx hl ih =>
     intro i
     rw [aj ((hx.length (fun l hl=>(hE l hl).1) (fun r h=>h.elim)).trans (hE l hl).1.symm),ih i,hall l hl i]; simp
    | ray c hc hx hr ih=>exact hr.elim
    | @div x k hk hl hx ih =>
     intro i
     have:=ih i
     rw [aw] at this
     rcases Int.mul_eq_zero.1 this with h | h
     ·omega
     ·exact h
   exact key hsp
  have:=content_eq_zero.2 (zero_iff.2 hv0)
  omega
 obtain ⟨m,n,hm,e⟩:=hone w (hE w hw).1 fun s hs=>oC S _ hLl s hs w hw
 have hen:n≠0:=fun h0=>by
  have:=congrArg (fun z=>at_ z j) e
  simp only [aw,h0,Int.zero_mul] at this
  rcases Int.mul_eq_zero.1 this with h | h
  ·exact hm h
  ·exact hj h
 intro i
 have h1:(m.natAbs:Int) ∣ n:=by
  have h2:∀ a∈v,(m.natAbs:Int) ∣ n*a:=fun a ha=>by
   obtain ⟨t,rfl⟩:=Cj ha
   have:=congrArg (fun z=>at_ z t) e
   simp only [aw] at this
   rw [<- this]
   exact Int.natAbs_dvd.2 (Int.dvd_mul_right m _)
  have h3:(m.natAbs:Int) ∣ (content (scl n.natAbs v):Int):=jh fun a ha=>by
   obtain ⟨b,hb,rfl⟩:=List.mem_map.1 ha
   rcases Int.natAbs_eq n with hn | hn
   ·rw [<- hn]; exact h2 b hb
   ·have:=h2 b hb
    rw [hn,Int.neg_mul] at this
    exact Int.dvd_neg.1 this
  rw [kM (by omega),hc] at h3
  have:=Int.natAbs_dvd_natAbs.2 h3
  simp only [Int.natAbs_natCast,Int.mul_one,Int.natCast_one] at this
  exact Int.ofNat_dvd_left.2 this
 obtain ⟨q,hq⟩:=h1
 have hqi:(at_ w i).natAbs=q.natAbs*(at_ v i).natAbs:=by
  have:=congrArg (fun z=>(at_ z i).natAbs) e
  simp only [aw,Int.natAbs_mul,hq] at this
  simp only [Int.natAbs_natCast] at this
  rw [Nat.mul_assoc] at this
  exact Nat.eq_of_mul_eq_mul_left (by omega) this
 have hq0:1<=q.natAbs:=by
  have:q≠0:=fun h0=>hen (by rw [hq,h0]; simp)
  omega
 have:=(hE w hw).2 i
 rw [hqi] at this
 have g:=Nat.mul_le_mul_right (at_ v i).natAbs hq0
 omega
structure KG (d:Nat) (ps:List (Nat × V)) (u:Under):Prop where
 lines:ps.map (·.2)=u.lines
 lt:∀ q∈ps,q.1<d
 diag:∀ q∈ps,at_ q.2 q.1≠0
 apart:ps.Pairwise fun q q'=>at_ q.2 q'.1=0/\at_ q'.2 q.1=0
 rays:∀ r∈u.rays,∀ q∈ps,at_ r q.1=0
 contL:∀ l∈u.lines,content l=1
 contR:∀ r∈u.rays,content r=1
section
variable {d:Nat} {ps:List (Nat × V)}
theorem xV {α β:Type} (f:α->β) (l:List α) (i:Nat):(l.map f).eraseIdx i=(l.eraseIdx i).map f:=by
 simp [List.eraseIdx_eq_take_drop_succ,List.map_take,List.map_drop]
theorem uK:∀ (l:List (Nat × V)),(l.map fun _=>(0:Int)).sum=0
 | []=>rfl
 | _ :: l=>by simp [uK l]
theorem FA (hlen:∀ q∈ps,q.2.length=d) (hdiag:∀ q∈ps,at_ q.2 q.1≠0) (hap:ps.Pairwise fun q q'=>at_ q.2 q'.1=0/\at_ q'.2 q.1=0) {x:V} (hx:Spn d (· ∈ ps.map (·.2)) x) (hz:∀ q∈ps,at_ x q.1=0):∀ i,at_ x i=0:=by
 have hnd:ps.Nodup:=hap.imp_of_mem fun {q q'} hq hq' h e=>by
  subst e; exact hdiag q hq h.1
 have hoff:∀ q∈ps,∀ q'∈ps,q≠q'->at_ q.2 q'.1=0:=fun q hq q' hq' hne=>by
  obtain ⟨i,hi⟩:=List.getElem?_of_mem hq
  obtain ⟨j,hj⟩:=List.getElem?_of_mem hq'
  obtain ⟨hi',rfl⟩:=List.getElem?_eq_some_iff.1 hi
  obtain ⟨hj',rfl⟩:=List.getElem?_eq_some_iff.1 hj
  rcases Nat.lt_trichotomy i j with hlt | heq | hlt
  ·exact (List.pairwise_iff_getElem.1 hap i j hi' hj' hlt).1
  ·subst heq; exact absurd rfl hne
  ·exact (List.pairwise_iff_getElem.1 hap j i hj' hi' hlt).2
 have hLl:∀ l,l∈ps.map (·.2)->l.length=d:=fun l hl=>by
  obtain ⟨q,hq,rfl⟩:=List.mem_map.1 hl
  exact hlen q hq
 have key:∀ {x:V},Spn d (· ∈ ps.map (·.2)) x->∃ k:Int,0<k/\∃ c:Nat × V->Int,(∀ i,k*at_ x i=(ps.map fun q=>c q*at_ q.2 i).sum):=by
  intro x hx
  induction hx with
  | zero=>exact ⟨1,by omega,fun _=>0,fun i=>by rw [Pm]; simp only [Int.zero_mul,Int.mul_zero]; exact (uK ps).symm⟩
  | @line x l n hx hl ih =>
   obtain ⟨k,hk,c,hc⟩:=ih
   obtain ⟨q0,hq0,rfl⟩:=List.mem_map.1 hl
   refine ⟨k,hk,fun r=>c r+(if r=q0 then k*n else 0),fun i=>?_⟩
   rw [aj ((hx.length hLl (fun r h=>h.elim)).trans (hlen q0 hq0).symm)]
   have e:∀ (G:List (Nat × V)),G.Nodup->(G.map fun r=>(c r+(if r=q0 then k*n else 0))*at_ r.2 i).sum=(G.map fun r=>c r*at_ r.2 i).sum+(if q0∈G then k*n*at_ q0.2 i else 0):=by
    intro G
    induction G with
    | nil=>intro _; simp
    | cons g G ihG =>
     intro hg
     obtain ⟨hg1,hg2⟩:=List.nodup_cons.1 hg
     simp only [List.map_cons,List.sum_cons,ihG hg2]
     by_cases hgl:g=q0
     ·subst hgl
      simp only [if_pos rfl,List.mem_cons,true_or,if_true,hg1,if_false]
      grind
     ·have:¬ q0=g:=fun e=>hgl e.symm
      simp only [if_neg hgl,List.mem_cons,this,false_or]
      grind
   rw [e ps hnd,if_pos hq0,<- hc i]
   grind
  | ray c hc hx hr ih=>exact hr.elim
  | @div x j hj hl hx ih =>
   obtain ⟨k,hk,c,hc⟩:=ih
   exact ⟨k*j,Int.mul_pos hk hj,c,fun i=>by rw [<- hc i,aw]; grind⟩
 obtain ⟨k,hk,c,hc⟩:=key hx
 have hc0:∀ q∈ps,c q=0:=fun q hq=>by
  have e1:=hc q.1
  rw [hz q hq] at e1
  have e2:∀ (G:List (Nat × V)),(∀ g∈G,g∈ps)->G.Nodup->(G.map fun s=>c s*at_ s.2 q.1).sum=if q∈G then c q*at_ q.2 q.1 else 0:=by
   intro G
   induction G with
   | nil=>intro _ _; simp
   | cons g G ihG =>
    intro hG hg
    obtain ⟨hg1,hg2⟩:=List.nodup_cons.1 hg
    simp only [List.map_cons,List.sum_cons,ihG (fun x hx=>hG x (List.mem_cons_of_mem _ hx)) hg2]
    by_cases hgr:g=q
    ·subst hgr
     simp [hg1]
    ·have hrg:¬ q=g:=fun e=>hgr e.symm
     rw [hoff g (hG g (List.mem_cons_self ..)) q hq hgr]
     simp [hrg]
  rw [e2 ps (fun g hg=>hg) hnd,if_pos hq] at e1
  rcases Int.mul_eq_zero.1 (show c q*at_ q.2 q.1=0 by omega) with h1 | h1
  ·exact h1
  ·exact absurd h1 (hdiag q hq)
 intro i
 have e1:=hc i
 have:(ps.map fun q=>c q*at_ q.2 i)=ps.map fun _=>(0:Int):=List.map_congr_left fun q hq=>by rw [hc0 q hq]; simp
 rw [this,uK] at e1
 rcases Int.mul_eq_zero.1 e1 with h1 | h1
 ·omega
 ·exact h1
theorem zt {i:Nat} (hi:i<d):content (unitV d i)=1:=by
 have h1:(content (unitV d i):Int) ∣ 1:=by
  have:=Iy (x:=unitV d i) (i:=i) (by rw [kS hi]; simp)
  rw [kS hi,if_pos rfl] at this
  exact content_dvd this
 have:=Int.natAbs_dvd_natAbs.2 h1
 simpa using this
theorem FC (d:Nat):KG d ((List.range d).map fun i=>(i,unitV d i)) (startU d):=by
 refine ⟨by simp [startU,List.map_map,Function.comp_def],fun q hq=>?_,fun q hq=>?_,?_,fun r hr=>(by cases hr),fun l hl=>?_,fun r hr=>(by cases hr)⟩
 ·obtain ⟨i,hi,rfl⟩:=List.mem_map.1 hq
  exact List.mem_range.1 hi
 ·obtain ⟨i,hi,rfl⟩:=List.mem_map.1 hq
  rw [kS (List.mem_range.1 hi)]; simp
 ·refine List.pairwise_map.2 (List.Pairwise.imp_of_mem (fun {i j} hi hj hlt=>?_) List.pairwise_lt_range)
  have hi:=List.mem_range.1 hi
  have hj:=List.mem_range.1 hj
  simp only
  rw [kS hi,kS hj,if_neg (by omega),if_neg (by omega)]
  exact ⟨rfl,rfl⟩
 ·obtain ⟨i,hi,rfl⟩:=List.mem_map.1 hl
  exact zt (List.mem_range.1 hi)
theorem Lf (a u:V) (i:Nat):at_ (upV a u) i=0 ↔ at_ u i=0:=by
 unfold upV
 split
 ·rw [aw]; omega
 ·exact Iff.rfl
theorem J9 {u:Under} {a:V} {E:V->Prop} (hdd:DD d E (· ∈ u.done) (· ∈ u.lines) u.rays) (h:KG d ps u) (eq:Bool):∃ ps',KG d ps' (addU a eq u):=by
 have hlen:∀ q∈ps,q.2.length=d:=fun q hq=>hdd.lenL q.2 (by rw [<- h.lines]; exact List.mem_map_of_mem hq)
 unfold addU
 split
 ·rename_i hn
  have hal:∀ x,x∈u.lines->dot a x=0:=fun x hx=>by
   have:=List.findIdx?_eq_none_iff.1 hn x hx
   simpa using this
  refine ⟨ps,h.lines,h.lt,h.diag,h.apart,fun r hr q hq=>?_,h.contL,fun r hr=>?_⟩
  ·rcases mem_cutL.1 hr with ⟨i,r,h1,h2,rfl⟩ | ⟨i,r,h1,h2,⟨h3,rfl⟩ | ⟨k,n,h3,h4,h5,rfl⟩⟩
   ·exact h.rays _ (List.mem_of_getElem? h1) q hq
   ·exact h.rays _ (List.mem_of_getElem? h1) q hq
   ·rw [(jd q.1).1]
    unfold mx
    rw [aj ((hdd.lenR _ (List.mem_of_getElem? h1)).trans (hdd.lenR _ (List.mem_of_getElem? h3)).symm),h.rays _ (List.mem_of_getElem? h1) q hq,h.rays _ (List.mem_of_getElem? h3) q hq]; simp
  ·rcases mem_cutL.1 hr with ⟨i,r,h1,h2,rfl⟩ | ⟨i,r,h1,h2,⟨h3,rfl⟩ | ⟨k,n,h3,h4,h5,rfl⟩⟩
   ·exact h.contR _ (List.mem_of_getElem? h1)
   ·exact h.contR _ (List.mem_of_getElem? h1)
   ·refine gu ?_
    have hr:=List.mem_of_getElem? h1
    have hn':=List.mem_of_getElem? h3
    obtain ⟨b,hb,hne⟩:=hdd.off r hr
    have hm:dot b (mx a r n)≠0:=fun e=>hne ((Qd (hdd.keep r hr) (hdd.keep n hn') h2 h4 hb).1 e).1
    apply Classical.byContradiction
    intro hno
    have hz:∀ i,at_ (mx a r n) i=0:=fun i=>Classical.not_not.1 fun e=>hno ⟨i,e⟩
    refine hm ?_
    rw [(CE (eA (hdd.keep r hr) (hdd.keep n hn') h2 h4).len).2 hz,kK]
 ·rename_i i hi
  obtain ⟨hi1,hi2,-⟩:=List.findIdx?_eq_some_iff_getElem.1 hi
  have hl:u.lines.getD i []=u.lines[i]:=by simp [List.getD_eq_getElem?_getD,hi1]
  rw [hl]
  have hne:dot a u.lines[i]≠0:=by simpa using hi2
  have hips:i<ps.length:=by have:=congrArg List.length h.lines; simp at this; omega
  have hli:u.lines[i]=(ps[i]).2:=by
   have:(ps.map (·.2))[i]? = u.lines[i]?:=by rw [h.lines]
   rw [List.getElem?_map,List.getElem?_eq_getElem hips,List.getElem?_eq_getElem hi1] at this
   simpa using this.symm
  have hull:(u.lines[i]).length=d:=hdd.lenL _ (List.getElem_mem hi1)
  generalize hv:upV a u.lines[i]=v
  have hvl:v.length=d:=by
   rw [<- hv]; unfold upV; split
   ·exact ah hull
   ·exact hull
  have hpos:0<dot a v:=by
   rw [<- hv]; unfold upV
   split
   ·rw [dot_scl]; omega
   ·omega
  have hvz:∀ t,at_ v t=0 ↔ at_ (ps[i]).2 t=0:=fun t=>by rw [<- hv,Lf,hli]
  have hvq:∀ q∈ps.eraseIdx i,at_ v q.1=0:=fun q hq=>by
   obtain ⟨j,hji,hj⟩:=List.mem_eraseIdx_iff_getElem?.1 hq
   obtain ⟨hj',rfl⟩:=List.getElem?_eq_some_iff.1 hj
   rw [hvz]
   rcases Nat.lt_or_gt_of_ne hji with hlt | hlt
   ·exact (List.pairwise_iff_getElem.1 h.apart j i hj' hips hlt).2
   ·exact (List.pairwise_iff_getElem.1 h.apart i j hips hj' hlt).1
  have hfz:∀ x:V,x.length=d->∀ t,at_ v t=0->(at_ (foldV a v x) t=0 ↔ at_ x t=0):=fun x hx t ht=>by
   unfold foldV
   rw [(jd t).1]
   unfold mv
   rw [aj (hx.trans hvl.symm),ht]
   constructor
   ·intro e
    rcases Int.mul_eq_zero.1 (show dot a v*at_ x t=0 by omega) with h1 | h1
    ·omega
    ·exact h1
   ·intro e; rw [e]; simp
  have hfc:∀ x:V,x.length=d->(∃ t,at_ v t=0/\at_ x t≠0)->content (foldV a v x)=1:=fun x hx ⟨t,ht,hxt⟩=>by
   have:at_ (foldV a v x) t≠0:=fun e=>hxt ((hfz x hx t ht).1 e)
   unfold foldV at this ⊢
   exact gu ⟨t,fun e=>this ((jd t).1.2 e)⟩
  refine ⟨(ps.eraseIdx i).map fun q=>(q.1,foldV a v q.2),?_,?_,?_,?_,?_,?_,?_⟩
  ·simp only [List.map_map,<- h.lines]
   rw [xV,List.map_map]
   rfl
  ·intro q hq
   obtain ⟨q0,hq0,rfl⟩:=List.mem_map.1 hq
   exact h.lt q0 (List.mem_of_mem_eraseIdx hq0)
  ·intro q hq
   obtain ⟨q0,hq0,rfl⟩:=List.mem_map.1 hq
   have hm:=List.mem_of_mem_eraseIdx hq0
   exact fun e=>h.diag q0 hm ((hfz q0.2 (hlen q0 hm) q0.1 (hvq q0 hq0)).1 e)
  ·refine List.pairwise_map.2 ((h.apart.sublist (List.eraseIdx_sublist ps i)).imp_of_mem fun {q q'} hq hq' hqq=>?_)
   exact ⟨(hfz q.2 (hlen q (List.mem_of_mem_eraseIdx hq)) q'.1 (hvq q' hq')).2 hqq.1,(hfz q'.2 (hlen q' (List.mem_of_mem_eraseIdx hq')) q.1 (hvq q hq)).2 hqq.2⟩
  ·intro r hr q hq
   obtain ⟨q0,hq0,rfl⟩:=List.mem_map.1 hq
   rcases List.mem_append.1 hr with hr | hr
   ·obtain ⟨r0,hr0,rfl⟩:=List.mem_map.1 hr
    exact (hfz r0 (hdd.lenR r0 hr0) q0.1 (hvq q0 hq0)).2 (h.rays r0 hr0 q0 (List.mem_of_mem_eraseIdx hq0))
   ·cases eq
    ·simp at hr; subst hr; exact hvq q0 hq0
    ·simp at hr
  ·intro l hl
   obtain ⟨x,hx,rfl⟩:=List.mem_map.1 hl
   rw [<- h.lines,xV] at hx
   obtain ⟨q,hq,rfl⟩:=List.mem_map.1 hx
   have hm:=List.mem_of_mem_eraseIdx hq
   exact hfc q.2 (hlen q hm) ⟨q.1,hvq q hq,h.diag q hm⟩
  ·intro r hr
   rcases List.mem_append.1 hr with hr | hr
   ·obtain ⟨r0,hr0,rfl⟩:=List.mem_map.1 hr
    have hr0l:=hdd.lenR r0 hr0
    obtain ⟨b,hb,hn⟩:=hdd.off r0 hr0
    have hvb:dot b v=0:=by
     have hz:=hdd.lineI _ (List.getElem_mem hi1) b hb
     rw [<- hv]; unfold upV
     split
     ·rw [dot_scl,hz]; simp
     ·exact hz
    unfold foldV
    refine gu ?_
    apply Classical.byContradiction
    intro hno
    have hz:∀ t,at_ (mv a v r0) t=0:=fun t=>Classical.not_not.1 fun e=>hno ⟨t,e⟩
    have e:=se (a:=a) hvl hr0l b
    rw [(CE (bo hvl hr0l)).2 hz,kK,hvb] at e
    rcases Int.mul_eq_zero.1 (show dot a v*dot b r0=0 by omega) with h1 | h1
    ·omega
    ·exact hn h1
   ·cases eq
    ·simp at hr
     subst hr
     have:=h.contL _ (List.getElem_mem hi1)
     rw [<- hv]; unfold upV
     split
     ·rw [tp]; exact this
     ·exact this
    ·simp at hr
theorem Ig {M:Nat} (hd:0<d) (hM:0<M) {u:Under} {Es:List V} (hdd:DD d (· ∈ Es) (· ∈ u.done) (· ∈ u.lines) u.rays) (h:KG d ps u) (hE:∀ e∈Es,e.length=d/\Bd M e) (hI:∀ i∈u.done,i.length=d/\Bd M i) :
  (∀ l∈u.lines,Bd ((2*d*M)^2^d) l)/\(∀ r∈u.rays,Bd ((2*d*M)^2^d) r):=by
 have hlen:∀ q∈ps,q.2.length=d:=fun q hq=>hdd.lenL q.2 (by rw [<- h.lines]; exact List.mem_map_of_mem hq)
 have hunit:∀ {t:Nat},t<d->(unitV d t).length=d/\Bd M (unitV d t):=fun {t} ht=>⟨by simp [unitV,jJ],fun i=>by rw [kS ht]; split <;> simp <;> omega⟩
 have hdu:∀ {t:Nat} {x:V},t<d->x.length=d->dot (unitV d t) x=at_ x t:=fun {t x} ht hx=>by
  have key:∀ (n t:Nat) (x:V),t<n->x.length=n->dot (unitV n t) x=at_ x t:=by
   intro n
   induction n with
   | zero=>intro t x h; omega
   | succ n ih =>
    intro t x ht hx
    cases x with
    | nil=>simp at hx
    | cons a x =>
     cases t with
     | zero =>
      have:dot (jJ n) x=0:=by rw [dot_comm,kK]
      simp [unitV,jJ,List.replicate_succ,dot,at_] at this ⊢
      omega
     | succ t =>
      have:=ih t x (by omega) (by simpa using hx)
      simp [unitV,jJ,List.replicate_succ,dot,at_] at this ⊢
      exact this
  exact key d t x ht hx
 have hLz:∀ {x:V},Spn d (· ∈ u.lines) x->(∀ q∈ps,at_ x q.1=0)->∀ i,at_ x i=0:=fun hx hz=>FA hlen h.diag h.apart (by rw [h.lines]; exact hx) hz
 constructor
 ·intro l hl
  rw [<- h.lines] at hl
  obtain ⟨q0,hq0,rfl⟩:=List.mem_map.1 hl
  have hql:=hlen q0 hq0
  have hqm:q0.2∈u.lines:=by rw [<- h.lines]; exact hl
  refine Dx hd hM (S:=Es++u.done++(ps.filter fun q=>!decide (q.1=q0.1)).map fun q=>unitV d q.1) (fun a ha=>?_) hql (h.contL _ hqm) (fun s hs=>?_) (fun x hx hz=>?_)
  ·rcases List.mem_append.1 ha with ha | ha
   ·rcases List.mem_append.1 ha with ha | ha
    ·exact hE a ha
    ·exact hI a ha
   ·obtain ⟨q,hq,rfl⟩:=List.mem_map.1 ha
    exact hunit (h.lt q (List.mem_filter.1 hq).1)
  ·rcases List.mem_append.1 hs with hs | hs
   ·rcases List.mem_append.1 hs with hs | hs
    ·exact hdd.lineE _ hqm s hs
    ·exact hdd.lineI _ hqm s hs
   ·obtain ⟨q,hq,rfl⟩:=List.mem_map.1 hs
    obtain ⟨hq1,hq2⟩:=List.mem_filter.1 hq
    rw [hdu (h.lt q hq1) hql]
    have hne:q≠q0:=fun e=>by subst e; simp at hq2
    obtain ⟨i,hi⟩:=List.getElem?_of_mem hq1
    obtain ⟨j,hj⟩:=List.getElem?_of_mem hq0
    obtain ⟨hi',rfl⟩:=List.getElem?_eq_some_iff.1 hi
    obtain ⟨hj',rfl⟩:=List.getElem?_eq_some_iff.1 hj
    rcases Nat.lt_trichotomy i j with hlt | heq | hlt
    ·exact (List.pairwise_iff_getElem.1 h.apart i j hi' hj' hlt).2
    ·subst heq; exact absurd rfl hne
    ·exact (List.pairwise_iff_getElem.1 h.apart j i hj' hi' hlt).1
  ·have hxs:Spn d (· ∈ u.lines) x:=hdd.lines x hx (fun e he=>hz e (by simp [he])) (fun i hi=>hz i (by simp [hi]))
   refine ⟨at_ q0.2 q0.1,at_ x q0.1,h.diag q0 hq0,?_⟩
   have hy:=hLz (x:=mix (at_ q0.2 q0.1) x (-(at_ x q0.1)) q0.2) (Spn.sum2 hdd.lenL hxs (dw hql hqm) _ _) (fun q hq=>by
    rw [aj (hx.trans hql.symm)]
    by_cases hq0':q.1=q0.1
    ·rw [hq0']; grind
    ·have h1:at_ x q.1=0:=by
      have:=hz (unitV d q.1) (List.mem_append_right _ (List.mem_map_of_mem (f:=fun q=>unitV d q.1) (List.mem_filter.2 ⟨hq,by simp [hq0']⟩)))
      rw [hdu (h.lt q hq) hx] at this; exact this
     have h2:at_ q0.2 q.1=0:=by
      have hne:q≠q0:=fun e=>hq0' (by rw [e])
      obtain ⟨i,hi⟩:=List.getElem?_of_mem hq
      obtain ⟨j,hj⟩:=List.getElem?_of_mem hq0
      obtain ⟨hi',rfl⟩:=List.getElem?_eq_some_iff.1 hi
      obtain ⟨hj',rfl⟩:=List.getElem?_eq_some_iff.1 hj
      rcases Nat.lt_trichotomy i j with hlt | heq | hlt
      ·exact (List.pairwise_iff_getElem.1 h.apart i j hi' hj' hlt).2
      ·subst heq; exact absurd rfl hne
      ·exact (List.pairwise_iff_getElem.1 h.apart j i hj' hi' hlt).1
     rw [h1,h2]; simp)
   refine aP (by rw [ah hx,ah hql]) fun i=>?_
   have:=hy i
   rw [aj (hx.trans hql.symm)] at this
   rw [aw,aw]; grind
 ·intro r hr
  have hrk:=hdd.keep r hr
  refine Dx hd hM (S:=Es++(u.done.filter fun i=>decide (dot i r=0))++ps.map fun q=>unitV d q.1) (fun a ha=>?_) hrk.len (h.contR r hr) (fun s hs=>?_) (fun x hx hz=>?_)
  ·rcases List.mem_append.1 ha with ha | ha
   ·rcases List.mem_append.1 ha with ha | ha
    ·exact hE a ha
    ·exact hI a (List.mem_filter.1 ha).1
   ·obtain ⟨q,hq,rfl⟩:=List.mem_map.1 ha
    exact hunit (h.lt q hq)
  ·rcases List.mem_append.1 hs with hs | hs
   ·rcases List.mem_append.1 hs with hs | hs
    ·exact hrk.eq s hs
    ·simpa using (List.mem_filter.1 hs).2
   ·obtain ⟨q,hq,rfl⟩:=List.mem_map.1 hs
    rw [hdu (h.lt q hq) hrk.len]
    exact h.rays r hr q hq
  ·
   have ⟨n,hn0,hn⟩:∃ n:Int,0<=n/\∀ i∈u.done,dot i r≠0->0<=n*dot i r+dot i x:=by
    have key:∀ (l:List V),(∀ i∈l,0<=dot i r)->∃ n:Int,0<=n/\∀ i∈l,dot i r≠0->0<=n*dot i r+dot i x:=by
     intro l
     induction l with
     | nil=>intro _; exact ⟨0,by omega,fun i hi=>by cases hi⟩
     | cons a l ih =>
      intro hl
      obtain ⟨n,hn,hl'⟩:=ih fun i hi=>hl i (List.mem_cons_of_mem _ hi)
      refine ⟨n+(dot a x).natAbs,by omega,fun i hi hne=>?_⟩
      have h0:=hl i hi
      have hpos:1<=dot i r:=by omega
      have e:(n+((dot a x).natAbs:Int))*dot i r=n*dot i r+(dot a x).natAbs*dot i r:=by grind
      rw [e]
      have g1:((dot a x).natAbs:Int)*1<=(dot a x).natAbs*dot i r:=Int.mul_le_mul_of_nonneg_left hpos (by omega)
      rcases List.mem_cons.1 hi with rfl | hi
      ·have g2:=Int.mul_nonneg hn h0
       omega
      ·have:=hl' i hi hne
       omega
    exact key u.done fun i hi=>hrk.ge i hi
   have hxz:∀ i∈u.done,dot i r=0->dot i x=0:=fun i hi h0=>hz i (by simp [hi,h0])
   have hy:Keep d (· ∈ Es) (· ∈ u.done) (mix n r 1 x):=by
    refine ⟨mix_length hrk.len hx,fun e he=>?_,fun i hi=>?_⟩
    ·rw [bj _ _ _ (hrk.len.trans hx.symm),hrk.eq e he,hz e (by simp [he])]; simp
    ·rw [bj _ _ _ (hrk.len.trans hx.symm)]
     by_cases h0:dot i r=0
     ·rw [h0,hxz i hi h0]; simp
     ·have:=hn i hi h0; omega
   obtain ⟨k,c,hk,hc,hsp⟩:=hdd.ext r hr _ hy fun i hi h0=>by
    rw [bj _ _ _ (hrk.len.trans hx.symm),h0,hxz i hi h0]; simp
   have hy0:=hLz hsp fun q hq=>by
    rw [aj (hy.len.trans hrk.len.symm),aj (hrk.len.trans hx.symm),h.rays r hr q hq]
    have:=hz (unitV d q.1) (List.mem_append_right _ (List.mem_map_of_mem (f:=fun q:Nat × V=>unitV d q.1) hq))
    rw [hdu (h.lt q hq) hx] at this
    rw [this]; simp
   refine ⟨k,c-k*n,by omega,aP (by rw [ah hx,ah hrk.len]) fun i=>?_⟩
   have:=hy0 i
   rw [aj (hy.len.trans hrk.len.symm),aj (hrk.len.trans hx.symm)] at this
   rw [aw,aw]; grind
end
end Go.Proofs.YtboamamhcfhanaaGreat.Lin
namespace Go.Proofs.YtboamamhcfhanaaGreat.Ev
open Go Nn
set_option linter.all false
theorem DX {x y a:AV} (ha:One a):gH [x,y] [((1,1),a)]=some (.agg [x,a]):=by
 simp [gH,cM,ha.1,ha.2]
theorem bQ (T0:Tm) (Vs:List AV) (u v w x:Nat × Option Nat):bO T0 Vs [u,v,w,x]=((((List.replicate T0.length .undef).set u.1 (kr T0 Vs u)).set v.1 (kr T0 Vs v)).set w.1 (kr T0 Vs w)).set x.1 (kr T0 Vs x):=rfl
section
variable {tab:Nat->Option aq} {f n:Nat} {res:List (Nat × Option (Option Nat))} {body:ACode} {H:Heap} {Q:AV->Heap->Prop}
theorem Nk {a b c d e:AV} (hf:tab f=some ⟨5,n,res,body,none⟩) (hn:5<=n) (h:∀ T:Tm,T.length=n->ae T 0=a->ae T 1=b->ae T 2=c->ae T 3=d->ae T 4=e->WC tab false body T H (rN res Q)):Ans tab (.fn f [a,b,c,d,e]) H Q :=
 mp hf rfl rfl hn fun T hl g=>h T hl (g 0 (by simp)) (g 1 (by simp)) (g 2 (by simp)) (g 3 (by simp)) (g 4 (by simp))
end
theorem kJ {H:Heap} (hw:Wf H) {v:AV} {l:List Int} (hs:RowV H v l) {i:Nat} (hi:i<l.length):∃ w,bZ H w (l[i]).natAbs/\Ldd H (some 2) (al v (i*2)) (.agg [.bool (decide (l[i]<0)),w])/\Ox 2 v (.int .i64 (i:Int))=some (al v (i*2)):=by
 obtain ⟨w,h1,h2,-,-⟩:=js hs hi
 exact ⟨w,h1,Ldd.of hw h2,SlV.idx hs .i64 i hi⟩
def BoxI (H:Heap) (b:Nat) (z:Int):Prop:=∃ q,H.get b=some (.cells [.bool (decide (z<0)),q] aa true)/\bZ H q z.natAbs
theorem BoxI.mono {H H':Heap} (hs:Sub H H') {b:Nat} {z:Int} (h:BoxI H b z):BoxI H' b z:=by
 obtain ⟨q,h1,h2⟩:=h; exact ⟨q,hs.get _ _ h1,h2.mono hs⟩
def BoxR (H:Heap) (b:Nat) (l:List Int):Prop:=∃ q,H.get b=some (.cells [q] af true)/\RowV H q l
theorem BoxR.mono {H H':Heap} (hs:Sub H H') {b:Nat} {l:List Int} (h:BoxR H b l):BoxR H' b l:=by
 obtain ⟨q,h1,h2⟩:=h; exact ⟨q,hs.get _ _ h1,h2.mono hs⟩
section
variable {tab:Nat->Option aq} {H:Heap} {s:AV}
theorem vec_Scale_f1 (C:Code tab) (hw:Wf H) {i:Int} {a:AV} {b:Nat} {x y:Int} (ha:IntV H a x) (hb:BoxI H b y) (hx:MuI x) (hy:MuI y) :
  Ans tab (.fn j8 [.int .i64 i,a,.ptr b 0]) H fun v H'=>IntV H' v (x*y)/\Kp H H':=by
 obtain ⟨p,rfl,hp⟩:=ha
 obtain ⟨q,hb,hq⟩:=hb
 have op:=hp.one
 have lb:=hw _ _ hb
 refine Qg C.vec_Scale_f1 (by decide) fun T hl g0 g1 g2=>?_
 refine zW (cJ hl g0 g1 g2 hb) ?_
 refine AnsH.use (vec_product C zF ⟨p,rfl,hp.mono (Kp.sub (H:=H) zK)⟩ ⟨q,rfl,hq.mono (Kp.sub (H:=H) zK)⟩ hx hy) ?_
 rintro v H2 ⟨⟨w,rfl,hr⟩,hk2⟩
 obtain ⟨k2,_,w2⟩:=zT H zK hk2
 have ow:=hr.one
 have d1:=hk2.get (b:=H.next+1) (e:=.cells [.bool false,.nilSl] aa true) (dC)
 have lt1:=w2 _ _ d1
 have m1:NoTy [ad] H2 (H.next+1):=NoTy.ty d1 (by decide)
 refine zW (cJ hl g0 g1 g2 d1) ?_
 exact ⟨⟨w,rfl,SlV.monoT (E:=cB bX) zS hr⟩,zK⟩
theorem qP (C:Code tab) (hw:Wf H) {a:AV} {l:List Int} {y:Int} (hs:RowV H s l) (ha:IntV H a y) (h64:l.length<=64) (hl':∀ z∈l,MuI z) (hy:MuI y) :
  Ans tab (.fn kz [s,a]) H fun v H'=>∃ r,v=.tup [r,.int .i64 0]/\RowV H' r (Lin.scl y l)/\Kp H H'/\Fr H r:=by
 obtain ⟨q,rfl,hq⟩:=ha
 have oq:=hq.one
 have os:=hs.one
 refine ca C.vec_Scale (by decide) fun T hl g0 g1=>?_
 refine zW (aC hl g0 g1) ?_
 refine AnsH.eq (eZ C (d:=l.length) zF (LN hs (Kp.sub (H:=H) zK) (by refine qN ?_; rfl)) (by simp) (by simp) h64 fun r hr=>?_) fun H2 hk2=>?_
 ·simp at hr; subst hr; exact ⟨rfl,fun z hz=>(hl' z hz).sm⟩
 obtain ⟨k2,_,w2⟩:=zT H zK hk2
 have b0:=hk2.get (b:=H.next) (e:=.cells [.bool (decide (y<0)),q] aa true) (dC)
 refine zW (bg hl g0 g1 @b0) ?_
 refine AnsH.eq (OX C zF ⟨q,rfl,hq.mono (Kp.sub (H:=H) zK)⟩ hy.sm) fun H3 hk3=>?_
 obtain ⟨k3,_,w3⟩:=zT H zK hk3
 have c0:=hk3.get (b:=H.next) b0
 refine zW (aC hl g0 g1) ?_
 refine AnsH.use (sU C zF (hs.mono (Kp.sub (H:=H) zK)) (by omega) (fun _ z=>z*y) fun i hi H' w hk hv=>?_) ?_
 ·exact vec_Scale_f1 C hk.wf hv ⟨q,hk.get (b:=H.next) (zV c0),hq.mono (Kp.sub (H:=H) (Kp.trans zK hk))⟩ (hl' _ (List.getElem_mem hi)) hy
 ·rintro v H4 ⟨hr,hk4,hf4⟩
  obtain ⟨k4,_,_⟩:=zT H zK hk4
  have e:l.mapIdx (fun _ z=>z*y)=Lin.scl y l:=by
   apply List.ext_getElem <;> simp [Lin.scl,Int.mul_comm]
  rw [e] at hr
  refine zW (aC hl g0 g1) ?_
  exact ⟨_,rfl,hr,zK,fun b hb=>Nat.le_trans k3.le (Nat.le_trans (Nat.le_add_right _ _) (hf4 b hb))⟩
theorem vec_Scale (C:Code tab) (hw:Wf H) {a:AV} {l:List Int} {y:Int} (hs:RowV H s l) (ha:IntV H a y) (h64:l.length<=64) (hl':∀ z∈l,MuI z) (hy:MuI y) :
  Ans tab (.fn kz [s,a]) H fun v H'=>∃ r,v=.tup [r,.int .i64 0]/\RowV H' r (Lin.scl y l)/\Kp H H':=(qP C hw hs ha h64 hl' hy).mono fun _ _ ⟨r,h1,h2,h3,_⟩=>⟨r,h1,h2,h3⟩
theorem F8 {l m:List Int} (h:l.length=m.length) (g:Int->Int->Int):l.mapIdx (fun i z=>g z (m.getD i 0))=List.zipWith g l m:=by
 apply List.ext_getElem
 ·simp [h]
 ·intro i h1 h2
  have hi:i<m.length:=by simp at h1; omega
  simp [hi]
theorem vec_Mix_f1 (C:Code tab) (hw:Wf H) {i:Nat} {a:AV} {bm bn b:Nat} {x m n:Int} {l:List Int} (hi:i<l.length) (ha:IntV H a x) (hm:BoxI H bm m) (hn:BoxI H bn n) (hb:BoxR H b l) (hx:MuI x) (hmm:MuI m) (hnn:MuI n) (hy:MuI l[i]) (hp1:OV (m*x)) (hp2:OV (n*l[i])) :
  Ans tab (.fn Qp [.int .i64 (i:Int),a,.ptr bm 0,.ptr bn 0,.ptr b 0]) H fun v H'=>IntV H' v (m*x+n*l[i])/\Kp H H':=by
 obtain ⟨p,rfl,hp⟩:=ha
 obtain ⟨q,hb,hq⟩:=hb
 obtain ⟨mq,hmb,hmq⟩:=hm
 obtain ⟨nq,hnb,hnq⟩:=hn
 have op:=hp.one
 have lb:=hw _ _ hb
 have lm:=hw _ _ hmb
 have ln:=hw _ _ hnb
 obtain ⟨w,hwn,L,hix⟩:=kJ hw hq hi
 have Lp:=L.put
 have Ll:=L.ld
 refine Nk C.vec_Mix_f1 (by decide) fun T hl g0 g1 g2 g3 g4=>?_
 refine zW (fW hl g0 g1 g2 g3 g4) ?_
 refine aO ?_
 refine zD (zM hl g0 g1 g2 g3 g4 hb hmb hnb hix Lp Ll) ?_
 refine AnsH.use (vec_product C zF ⟨mq,rfl,hmq.mono (Kp.sub (H:=H) zK)⟩ ⟨p,rfl,hp.mono (Kp.sub (H:=H) zK)⟩ hmm hx) ?_
 rintro v H2 ⟨hr2,hk2⟩
 obtain ⟨k2,_,w2⟩:=zT H zK hk2
 have L2:=L.mono k2
 have Lp2:=L2.put
 have Ll2:=L2.ld
 have hb2:=k2.get hb
 have hnb2:=k2.get hnb
 have hmb2:=k2.get hmb
 refine zD (Ml hl g0 g1 g2 g3 g4 hb hmb hnb hix Lp Ll Lp2 Ll2 hb2 hnb2 hmb2) ?_
 refine AnsH.use (vec_product C zF ⟨nq,rfl,hnq.mono (Kp.sub (H:=H) zK)⟩ ⟨w,rfl,hwn.mono (Kp.sub (H:=H) zK)⟩ hnn hy) ?_
 rintro v3 H3 ⟨hr3,hk3⟩
 obtain ⟨k3,_,w3⟩:=zT H zK hk3
 refine zD (Ml hl g0 g1 g2 g3 g4 hb hmb hnb hix Lp Ll Lp2 Ll2 hb2 hnb2 hmb2) ?_
 refine AnsH.use (vec_sum C zF (hr2.mono hk3.sub) hr3 hp1 hp2) ?_
 rintro v4 H4 ⟨⟨r,rfl,hr⟩,hk4⟩
 obtain ⟨k4,_,w4⟩:=zT H zK hk4
 have orr:=hr.one
 have d1:=hk4.get (b:=H.next+1) (hk3.get (b:=H.next+1) (hk2.get (b:=H.next+1) (e:=.cells [.bool false,.nilSl] aa true) (dC)))
 have lt1:=w4 _ _ d1
 have m1:NoTy [ad] H4 (H.next+1):=NoTy.ty d1 (by decide)
 refine zD (KM hl g0 g1 g2 g3 g4 hb hmb hnb hix Lp Ll Lp2 Ll2 hb2 hnb2 hmb2 d1) ?_
 exact ⟨⟨r,rfl,SlV.monoT (E:=cB bX) zS hr⟩,zK⟩
theorem vec_Mix (C:Code tab) (hw:Wf H) {vm vn a b:AV} {m n:Int} {x y:List Int} (hm:IntV H vm m) (hn:IntV H vn n) (ha:RowV H a x) (hb:RowV H b y) (hxy:x.length=y.length) (h64:x.length<=64) (hmm:MuI m) (hnn:MuI n) (hx':∀ z∈x,MuI z/\OV (m*z)) (hy':∀ z∈y,MuI z/\OV (n*z)) :
  Ans tab (.fn rS [vm,a,vn,b]) H fun v H'=>∃ r,v=.tup [r,.int .i64 0]/\RowV H' r (Lin.mix m x n y)/\Kp H H':=by
 obtain ⟨mq,rfl,hmq⟩:=hm
 obtain ⟨nq,rfl,hnq⟩:=hn
 have om:=hmq.one
 have on:=hnq.one
 have oa:=ha.one
 have ob:=hb.one
 refine LX C.vec_Mix (by decide) fun T hl g0 g1 g2 g3=>?_
 refine zW (cJ hl g0 g1 g2 g3) ?_
 refine AnsH.eq (OX C zF ⟨mq,rfl,hmq.mono (Kp.sub (H:=H) zK)⟩ hmm.sm) fun H2 hk2=>?_
 obtain ⟨k2,_,w2⟩:=zT H zK hk2
 have b0:=hk2.get (b:=H.next) (e:=.cells [.bool (decide (m<0)),mq] aa true) (dC)
 have b1:=hk2.get (b:=H.next+1) (e:=.cells [.bool (decide (n<0)),nq] aa true) (dC)
 have b2:=hk2.get (b:=H.next+2) (e:=.cells [b] af true) (dC)
 refine zW (fW hl g0 g1 g2 g3 b1) ?_
 refine AnsH.eq (OX C zF ⟨nq,rfl,hnq.mono (Kp.sub (H:=H) zK)⟩ hnn.sm) fun H3 hk3=>?_
 obtain ⟨k3,_,w3⟩:=zT H zK hk3
 have c0:=hk3.get (b:=H.next) b0
 have c1:=hk3.get (b:=H.next+1) b1
 have c2:=hk3.get (b:=H.next+2) b2
 have lt2:=w3 _ _ c2
 refine zW (fW hl g0 g1 g2 g3 @c2) ?_
 refine AnsH.eq (eZ C (d:=x.length) zF (el ha hb (Kp.sub (H:=H) zK) (by refine qN ?_; rfl)) (by simp) (by simp) h64 fun r hr=>?_) fun H4 hk4=>?_
 ·simp at hr; rcases hr with rfl | rfl
  ·exact ⟨rfl,fun z hz=>(hx' z hz).1.sm⟩
  ·exact ⟨hxy.symm,fun z hz=>(hy' z hz).1.sm⟩
 obtain ⟨k4,_,w4⟩:=zT H zK hk4
 have d0:=hk4.get (b:=H.next) (e:=.cells [.bool (decide (m<0)),mq] aa true) (zV c0)
 have d1:=hk4.get (b:=H.next+1) (e:=.cells [.bool (decide (n<0)),nq] aa true) (zV @c1)
 have d2:=hk4.get (b:=H.next+2) (e:=.cells [b] af true) (zV @c2)
 refine zW (cJ hl g0 g1 g2 g3) ?_
 refine AnsH.use (vec_each C zF (ha.mono (Kp.sub (H:=H) zK)) (by omega) (fun i z=>m*z+n*y.getD i 0) fun i hi H' w hk hv=>?_) ?_
 ·have hi2:i<y.length:=by omega
  have e:y.getD i 0=y[i]:=by simp [hi2]
  have ks:Sub H H':=Kp.sub (H:=H) (Kp.trans zK hk)
  show Ans tab _ H' fun v H2=>IntV H2 v (m*x[i]+n*y.getD i 0)/\Kp H' H2
  rw [e]
  exact vec_Mix_f1 C hk.wf hi2 hv ⟨mq,hk.get (b:=H.next) (zV d0),hmq.mono ks⟩ ⟨nq,hk.get (b:=H.next+1) (zV d1),hnq.mono ks⟩ ⟨b,hk.get (b:=H.next+2) (zV d2),hb.mono ks⟩ (hx' _ (List.getElem_mem hi)).1 hmm hnn (hy' _ (List.getElem_mem hi2)).1 (hx' _ (List.getElem_mem hi)).2 (hy' _ (List.getElem_mem hi2)).2
 ·rintro v H5 ⟨hr,hk5⟩
  obtain ⟨k5,_,_⟩:=zT H zK hk5
  rw [F8 hxy (fun u v=>m*u+n*v)] at hr
  refine zW (cJ hl g0 g1 g2 g3) ?_
  exact ⟨_,rfl,hr,zK⟩
def sC (a b:List Int) (j:Nat):Int:=Lin.dot (a.take j) (b.take j)
theorem AY:∀ (a b:List Int) (x y:Int),a.length=b.length->Lin.dot (a++[x]) (b++[y])=Lin.dot a b+x*y
 | [],[],x,y,_=>by simp [Lin.dot]
 | [],_ :: _,x,y,h=>by simp at h
 | _ :: _,[],x,y,h=>by simp at h
 | u :: a,v :: b,x,y,h=>by
  have:=AY a b x y (by simpa using h)
  simp only [List.cons_append,Lin.dot,this]
  omega
theorem sB {a b:List Int} {j:Nat} (ha:j<a.length) (hb:j<b.length):sC a b (j+1)=sC a b j+a[j]*b[j]:=by
 unfold sC
 rw [List.take_succ_eq_append_getElem ha,List.take_succ_eq_append_getElem hb,AY _ _ _ _ (by simp; omega)]
theorem AZ {a b:List Int} (h:a.length=b.length):sC a b a.length=Lin.dot a b:=by
 unfold sC
 rw [List.take_length,h,List.take_length]
theorem vec_Dot (C:Code tab) (hw:Wf H) {a b:AV} {x y:List Int} (ha:RowV H a x) (hb:RowV H b y) (hxy:x.length=y.length) (h64:x.length<=64) (hx':∀ z∈x,MuI z) (hy':∀ z∈y,MuI z) (hp:∀ i (h:i<x.length) (h':i<y.length),OV (x[i]*y[i])) (hS:∀ j,j<=x.length->OV (sC x y j)) :
  Ans tab (.fn pg [a,b]) H fun v H'=>∃ r,v=.tup [r,.int .i64 0]/\IntV H' r (Lin.dot x y)/\Kp H H':=by
 have oa:=ha.one
 have ob:=hb.one
 refine ca C.vec_Dot (by decide) fun T hl g0 g1=>?_
 refine zW (aC hl g0 g1) ?_
 refine AnsH.eq (eZ C (d:=x.length) zF (el ha hb (Kp.sub (H:=H) zK) (by refine qN ?_; rfl)) (by simp) (by simp) h64 fun r hr=>?_) fun H2 hk2=>?_
 ·simp at hr; rcases hr with rfl | rfl
  ·exact ⟨rfl,fun z hz=>(hx' z hz).sm⟩
  ·exact ⟨hxy.symm,fun z hz=>(hy' z hz).sm⟩
 obtain ⟨k2,_,w2⟩:=zT H zK hk2
 have b0:=hk2.get (b:=H.next) (e:=.cells [.bool false,.nilSl] aa true) (dC)
 refine zW (bg hl g0 g1 ha.lenV) ?_
 refine ak H [] (fun j _ H'=>BoxI H' H.next (sC x y j)) (a:=0) (N:=x.length) rfl (by refine zW (aC hl g0 g1) ?_; rfl) (zV (aC hl g0 g1)) (Nat.zero_le _) (by omega) (by simp only [List.length_set,hl]; rfl) rfl (fun j vs H' m h=>h.mono (Sub.bump H' m)) zK ⟨.nilSl,by refine zW @b0 ?_; simp [sC,Lin.dot],by simpa [sC,Lin.dot] using dQ _⟩ ?_ ?_
 ·rintro j T1 H1 _ hj hl1 hi1 hs1 hk1 ⟨q,hq0,hq⟩
  have w1:=hk1.wf
  have le_hk1:=hk1.le
  have hj2:j<y.length:=by omega
  have t14:ae T1 14=a:=(hs1.at_ 14 (by decide)).trans (zV (az hl g0))
  have t4:ae T1 4=.ptr H.next 0:=(hs1.at_ 4 (by decide)).trans (zV (aC hl g0 g1))
  have t1:ae T1 1=b:=(hs1.at_ 1 (by decide)).trans (zV (bg hl g0 g1 g1))
  obtain ⟨w,hn,hld,-,-⟩:=js (ha.mono hk1.sub) hj
  have hix:Ox 2 a (.int .i64 (j:Int))=some (al a (j*2)):=SlV.idx ha .i64 j hj
  obtain ⟨u,hu,L,hiy⟩:=kJ w1 (hb.mono hk1.sub) hj2
  have ow:=hn.one
  have lt0:=w1 _ _ hq0
  have Lp:=L.put
  have Ll:=L.ld
  have oq:=hq.one
  simp only [List.length_set,hl] at hl1
  refine zW (cJ hl1 t14 hi1 hix hld) ?_
  refine aO ?_
  refine zD (mw hl1 t4 t1 hi1 hq0 hiy Lp Ll) ?_
  refine AnsH.use (vec_product C zF ⟨w,rfl,hn.mono (Kp.sub (H:=H1) zK)⟩ ⟨u,rfl,hu.mono (Kp.sub (H:=H1) zK)⟩ (hx' _ (List.getElem_mem hj)) (hy' _ (List.getElem_mem hj2))) ?_
  rintro v H3 ⟨hr3,hk3⟩
  obtain ⟨k13,_,_⟩:=zT H1 zK hk3
  have k3:Kp H H3:=Kp.trans hk1 k13
  have le_k3:=k3.le
  have w3:=k3.wf
  have hq3:=k13.get hq0
  refine zD (kU hl1 t4 t1 hi1 hq0 hiy Lp Ll hq3) ?_
  refine AnsH.use (vec_sum C zF ⟨q,rfl,hq.mono (Kp.sub (H:=H1) zK)⟩ hr3 (hS j (by omega)) (hp j hj hj2)) ?_
  rintro v4 H4 ⟨⟨r,rfl,hr⟩,hk4⟩
  have k4:Kp H H4:=Kp.trans k3 hk4
  have le_k4:=k4.le
  have w4:=k4.wf
  have orr:=hr.one
  have hq4:=hk4.get hq3
  have lt04:=w4 _ _ hq4
  have m0:NoTy [ad] H4 H.next:=NoTy.ty hq4 (by decide)
  refine zD (nE hl1 t4 t1 hi1 hq0 hiy Lp Ll hq3 hq4) ?_
  refine ⟨zK,r,?_,?_⟩
  ·rw [sB hj hj2]; exact dC
  ·rw [sB hj hj2]; exact SlV.monoT (E:=cB bX) zS hr
 ·rintro T1 H1 hl1 hs1 hk1 ⟨q,hq0,hq⟩
  have w1:=hk1.wf
  have le_hk1:=hk1.le
  have t4:ae T1 4=.ptr H.next 0:=(hs1.at_ 4 (by decide)).trans (zV (aC hl g0 g1))
  have t5:ae T1 5=.int .i64 0:=(hs1.at_ 5 (by decide)).trans (zV (aC hl g0 g1))
  simp only [List.length_set,hl] at hl1
  rw [AZ hxy] at hq0 hq
  refine zW (bg hl1 t4 t5 hq0) ?_
  exact ⟨_,rfl,⟨q,rfl,hq⟩,zK⟩
end
theorem wt {l:List Int} (h:∀ z∈l,OV z):Sm (Lin.content l):=by
 by_cases h0:Lin.content l=0
 ·rw [h0]; unfold Sm; rw [co]; simp
 ·have hex:∃ a∈l,a≠0:=Classical.byContradiction fun hn=>h0 (Lin.content_eq_zero.2 fun a ha=>Classical.byContradiction fun hne=>hn ⟨a,ha,hne⟩)
  obtain ⟨a,ha,hne⟩:=hex
  have hd:=Lin.content_dvd ha
  have hle:Lin.content l<=a.natAbs:=Nat.le_of_dvd (by omega) (Int.ofNat_dvd_left.1 hd)
  exact Sm.mono hle (h a ha)
theorem zu {l:List Int} {j:Nat} (hj:j<l.length):Lin.content (l.take (j+1))=Nat.gcd (Lin.content (l.take j)) (l[j]).natAbs:=by
 unfold Lin.content
 rw [List.take_succ_eq_append_getElem hj,List.foldl_append]
 rfl
section
variable {tab:Nat->Option aq} {H:Heap} {s:AV}
theorem vec_Content (C:Code tab) (hw:Wf H) {l:List Int} (hs:RowV H s l) (h64:l.length<=64) (hz:∀ z∈l,OV z) :
  Ans tab (.fn lq [s]) H fun v H'=>∃ r,v=.tup [r,.int .i64 0]/\bZ H' r (Lin.content l)/\Kp H H':=by
 have os:=hs.one
 refine OD C.vec_Content (by decide) fun T hl g0=>?_
 refine zW (az hl g0) ?_
 refine AnsH.eq (eZ C (d:=l.length) zF (LN hs (Kp.sub (H:=H) zK) (by refine qN ?_; rfl)) (by simp) (by simp) h64 fun r hr=>?_) fun H2 hk2=>?_
 ·simp at hr; subst hr; exact ⟨rfl,hz⟩
 obtain ⟨k2,_,w2⟩:=zT H zK hk2
 refine zW (aC hl g0 hs.lenV) ?_
 refine ak H [2] (fun j vs H'=>∃ c,vs=[c]/\bZ H' c (Lin.content (l.take j))) (a:=0) (N:=l.length) rfl (by refine zW (az hl g0) ?_; rfl) (zV (az hl g0)) (Nat.zero_le _) (by omega) (by simp only [List.length_set,hl]; rfl) rfl (fun j vs H' m ⟨c,h1,h2⟩=>⟨c,h1,h2.mono (Sub.bump H' m)⟩) zK ⟨.nilSl,by exact zV (az hl g0),by simpa [Lin.content] using dQ _⟩ ?_ ?_
 ·rintro j T1 H1 _ hj hl1 hi1 hs1 hk1 ⟨c,hv,hc⟩
  have w1:=hk1.wf
  have le_hk1:=hk1.le
  simp only [List.map_cons,List.map_nil,List.cons.injEq,and_true] at hv
  have t11:ae T1 11=s:=(hs1.at_ 11 (by decide)).trans (zV (az hl g0))
  obtain ⟨w,hn,hld,-,-⟩:=js (hs.mono hk1.sub) hj
  have hix:Ox 2 s (.int .i64 (j:Int))=some (al s (j*2)):=SlV.idx hs .i64 j hj
  have ow:=hn.one
  simp only [List.length_set,hl] at hl1
  refine zW (fW hl1 t11 hi1 hix hld hv) ?_
  refine AnsH.use (gcd_Gcd C zF (hc.mono (Kp.sub (H:=H1) zK)) (hn.mono (Kp.sub (H:=H1) zK)) (wt fun z h=>hz z (List.mem_of_mem_take h)) (hz _ (List.getElem_mem hj))) ?_
  rintro v H3 ⟨r,rfl,hr,hk3⟩
  obtain ⟨k3,_,w3⟩:=zT H zK hk3
  refine zW hl1 ?_
  refine ⟨zK,_,rfl,?_⟩
  rw [zu hj]
  exact hr
 ·rintro T1 H1 hl1 hs1 hk1 ⟨c,hv,hc⟩
  have w1:=hk1.wf
  have le_hk1:=hk1.le
  simp only [List.map_cons,List.map_nil,List.cons.injEq,and_true] at hv
  have t3:ae T1 3=.int .i64 0:=(hs1.at_ 3 (by decide)).trans (zV (az hl g0))
  simp only [List.length_set,hl] at hl1
  rw [List.take_length] at hc
  refine zW (aC hl1 hv t3) ?_
  exact ⟨_,rfl,hc,zK⟩
theorem vec_Twin_f1 (C:Code tab) (hw:Wf H) {i:Int} {a:AV} {x:Int} (ha:IntV H a x) (hx:OV x) :
  Ans tab (.fn lp [.int .i64 i,a]) H fun v H'=>IntV H' v x/\Kp H H':=by
 obtain ⟨p,rfl,hp⟩:=ha
 have op:=hp.one
 refine ca C.vec_Twin_f1 (by decide) fun T hl g0 g1=>?_
 refine zW (aC hl g0 g1) ?_
 refine aO ?_
 refine zD (aC hl g0 g1) ?_
 refine AnsH.use (iL C zF (hp.mono (Kp.sub (H:=H) zK)) (by unfold OV Sm at hx; omega)) ?_
 rintro v H2 ⟨hr,hk2⟩
 obtain ⟨k2,_,w2⟩:=zT H zK hk2
 have orr:=hr.one
 have b0:=hk2.get (b:=H.next) (e:=.cells [.bool (decide (x<0)),p] aa true) (dC)
 have d1:=hk2.get (b:=H.next+1) (e:=.cells [.bool false,.nilSl] aa true) (dC)
 have lt1:=w2 _ _ d1
 have m1:NoTy [ad] H2 (H.next+1):=NoTy.ty d1 (by decide)
 refine zD (cJ hl g0 g1 @b0 d1) ?_
 exact ⟨⟨v,rfl,SlV.monoT (E:=cB bX) zS hr⟩,zK⟩
theorem vec_Twin (C:Code tab) (hw:Wf H) {l:List Int} (hs:RowV H s l) (hbig:l.length<1099511627776) (hz:∀ z∈l,OV z) :
  Ans tab (.fn qi [s]) H fun v H'=>RowV H' v l/\Kp H H':=by
 refine OD C.vec_Twin (by decide) fun T hl g0=>?_
 refine zW (az hl g0) ?_
 refine AnsH.use (vec_each C zF (hs.mono (Kp.sub (H:=H) zK)) hbig (fun _ z=>z) fun i hi H' w hk hv=>vec_Twin_f1 C hk.wf hv (hz _ (List.getElem_mem hi))) ?_
 rintro v H2 ⟨hr,hk2⟩
 obtain ⟨k2,_,_⟩:=zT H zK hk2
 have e:l.mapIdx (fun _ z=>z)=l:=by apply List.ext_getElem <;> simp
 rw [e] at hr
 refine zW (az hl g0) ?_
 exact ⟨hr,zK⟩
theorem vec_Prime_f1 (C:Code tab) (hw:Wf H) {i:Int} {a q:AV} {b n:Nat} {x:Int} (ha:IntV H a x) (hb:H.get b=some (.cells [q] aE true)) (hq:bZ H q n) (h0:n≠0) (hd:(n:Int) ∣ x) (hx:OV x) (hn:Sm n) :
  Ans tab (.fn j9 [.int .i64 i,a,.ptr b 0]) H fun v H'=>IntV H' v (x / n)/\Kp H H':=by
 obtain ⟨p,rfl,hp⟩:=ha
 have op:=hp.one
 have oq:=hq.one
 have lb:=hw _ _ hb
 refine Qg C.vec_Prime_f1 (by decide) fun T hl g0 g1 g2=>?_
 have hb1:gH [.bool false,.nilSl] [((1,1),q)]=some (.agg [.bool false,q]):=DX oq
 refine zW (fW hl g0 g1 g2 hb hb1) ?_
 refine AnsH.use (whole_Exact C (y:=(n:Int)) zF ⟨p,rfl,hp.mono (Kp.sub (H:=H) zK)⟩ ⟨q,by rw [decide_eq_false (by omega)],by simpa using hq.mono (Kp.sub (H:=H) zK)⟩ hx (by unfold OV; simpa using hn) (by omega) ?_) ?_
 ·rw [Int.natAbs_natCast]; exact Nat.mod_eq_zero_of_dvd (Int.ofNat_dvd_left.1 hd)
 rintro v H2 ⟨r,rfl,⟨w,rfl,hr⟩,hk2⟩
 rw [Int.tdiv_eq_ediv_of_dvd hd] at hr ⊢
 obtain ⟨k2,_,w2⟩:=zT H zK hk2
 have ow:=hr.one
 have n2:H.next+12<=H2.next:=hk2.le
 have d1:=hk2.get (b:=H.next+1) (e:=.cells [.bool false,.nilSl] aa true) (dC)
 have f2:H2.get (H.next+9)=none:=hk2.free (show _<H.next+12 by omega) (by rw [au (by omega),au (by omega)]; exact hw.fresh (b:=H.next+9) (by omega))
 have m1:NoTy [ad] H2 (H.next+1):=NoTy.ty d1 (by decide)
 have m9:NoTy [ad] H2 (H.next+9):=NoTy.none f2
 refine zW (cJ hl g0 g1 g2 d1) ?_
 exact ⟨⟨w,rfl,SlV.monoT (E:=cB bX) zS hr⟩,zK⟩
theorem vec_Prime (C:Code tab) (hw:Wf H) {l:List Int} (hs:RowV H s l) (h64:l.length<=64) (hz:∀ z∈l,OV z) :
  Ans tab (.fn nY [s]) H fun v H'=>∃ r,v=.tup [r,.int .i64 0]/\RowV H' r (Lin.prime l)/\Kp H H':=by
 refine OD C.vec_Prime (by decide) fun T hl g0=>?_
 refine zW (az hl g0) ?_
 refine AnsH.use (vec_Content C zF (hs.mono (Kp.sub (H:=H) zK)) h64 hz) ?_
 rintro v H2 ⟨c,rfl,hc,hk2⟩
 obtain ⟨k2,_,w2⟩:=zT H zK hk2
 have oc:=hc.one
 have n2:H.next+10<=H2.next:=hk2.le
 have f2:H2.get (H.next+7)=none:=hk2.free (show _<H.next+10 by omega) (hw.fresh (b:=H.next+7) (by omega))
 have hlen:=bN (Lin.content l)
 refine zW (aC hl g0 hc.lenV) ?_
 refine iteH.split (fun h=>?_) fun h=>?_
 ·have h0:Lin.content l=0:=by omega
  refine zW (az hl g0) ?_
  refine AnsH.use (vec_Twin C zF (hs.mono (Kp.sub (H:=H) zK)) (by omega) hz) ?_
  rintro v H3 ⟨hr,hk3⟩
  obtain ⟨k3,_,_⟩:=zT H zK hk3
  refine zW (az hl g0) ?_
  refine ⟨_,rfl,?_,zK⟩
  unfold Lin.prime
  rw [if_pos h0]
  exact hr
 ·have h0:Lin.content l≠0:=by omega
  refine zW (az hl g0) ?_
  have s2:∀ m,Sub H2 (((H2.up m).put (H.next+7) (.cells [.nilSl] aE true)).put (H.next+7) (.cells [c] aE true)):=fun m=>(Sub.bump H2 m).trans ((bh (H:=H2.up m) f2).put f2 _)
  refine AnsH.use (vec_each C zF (hs.mono (Kp.sub (H:=H) zK)) (by omega) (fun _ z=>z / (Lin.content l:Int)) fun i hi H' w hk hv=>?_) ?_
  ·exact vec_Prime_f1 C hk.wf hv (hk.get (b:=H.next+7) (dC)) ((hc.mono (s2 _)).mono hk.sub) h0 (Lin.content_dvd (List.getElem_mem hi)) (hz _ (List.getElem_mem hi)) (wt hz)
  ·rintro v H4 ⟨hr,hk4⟩
   obtain ⟨k4,_,_⟩:=zT H zK hk4
   have e:l.mapIdx (fun _ z=>z / (Lin.content l:Int))=Lin.prime l:=by
    unfold Lin.prime
    rw [if_neg h0]
    apply List.ext_getElem <;> simp
   rw [e] at hr
   refine zW (az hl g0) ?_
   exact ⟨_,rfl,hr,zK⟩
def xp (c:Int->Int->Int):List Int->List Int->Int
 | x :: l,y :: m=>if c x y=0 then xp c l m else c x y
 | _,_=>0
theorem A8 {c:Int->Int->Int}:∀ {l m:List Int} {j:Nat} (hj:j<l.length) (hj':j<m.length),(∀ k (h:k<l.length) (h':k<m.length),k<j->c l[k] m[k]=0)->c l[j] m[j]≠0->xp c l m=c l[j] m[j]
 | [],m,j,hj,_,_,_=>by simp at hj
 | _ :: _,[],j,_,hj',_,_=>by simp at hj'
 | x :: l,y :: m,0,_,_,_,h1=>by
  have h1':¬ c x y=0:=h1
  show (if c x y=0 then xp c l m else c x y)=_
  rw [if_neg h1']; rfl
 | x :: l,y :: m,j+1,hj,hj',h0,h1=>by
  have h1':c x y=0:=h0 0 (by simp) (by simp) (by omega)
  show (if c x y=0 then xp c l m else c x y)=_
  rw [if_pos h1']
  exact A8 (by simpa using hj) (by simpa using hj') (fun k h h' hk=>h0 (k+1) (by simpa using h) (by simpa using h') (by omega)) h1
theorem yb {c:Int->Int->Int}:∀ {l m:List Int},(∀ k (h:k<l.length) (h':k<m.length),c l[k] m[k]=0)->xp c l m=0
 | [],m,_=>by cases m <;> rfl
 | _ :: _,[],_=>rfl
 | x :: l,y :: m,h0=>by
  have h1':c x y=0:=h0 0 (by simp) (by simp)
  show (if c x y=0 then xp c l m else c x y)=_
  rw [if_pos h1']
  exact yb fun k h h'=>h0 (k+1) (by simpa using h) (by simpa using h')
theorem ui (C:Code tab) (hw:Wf H) {fi:Nat} {first caps:List AV} {a b:AV} {l m:List Int} (ha:RowV H a l) (hb:RowV H b m) (hlm:l.length=m.length) (hbig:l.length<1099511627776) (c:Int->Int->Int)
  (hf:∀ i (h:i<l.length) (h':i<m.length) H' u v,Kp H H'->IntV H' u l[i]->IntV H' v m[i]->Ans tab (.fn fi (first++[u,v]++caps)) H' fun r H2=>r=.int .i64 (c l[i] m[i])/\Kp H' H2) :
  Ans tab (.fn aS [a,b,.fn (.func fi) first caps]) H fun r H'=>r=.int .i64 (xp c l m)/\Kp H H':=by
 refine Qg C.slices_CompareFunc_api_Vec_api_Vec_api_Int_api_Int (by decide) fun T hl g0 g1 g2=>?_
 refine zW (cJ hl g0 g1 g2 ha.lenV) ?_
 refine ak H [] (fun j _ _=>∀ k (h:k<l.length) (h':k<m.length),k<j->c l[k] m[k]=0) (a:=0) (N:=l.length) rfl (by refine zW (bg hl g0 g1 g2) ?_; rfl) (zV (bg hl g0 g1 g2)) (Nat.zero_le _) (by omega) (by simp only [List.length_set,hl]; rfl) rfl (fun _ _ _ _ h=>h) zK (fun k _ _ h=>by omega) ?_ ?_
 ·intro j T1 H1 _ hj hl1 hi1 hs1 hk1 hP
  have w1:=hk1.wf
  have le_hk1:=hk1.le
  have hj2:j<m.length:=by omega
  have t11:ae T1 11=a:=(hs1.at_ 11 (by decide)).trans (zV (az hl g0))
  have t1:ae T1 1=b:=(hs1.at_ 1 (by decide)).trans (zV (cJ hl g0 g1 g2 g1))
  have t2:ae T1 2=.fn (.func fi) first caps:=(hs1.at_ 2 (by decide)).trans (zV (cJ hl g0 g1 g2 g2))
  obtain ⟨w,hn,hld,-,-⟩:=js (ha.mono hk1.sub) hj
  have hix:Ox 2 a (.int .i64 (j:Int))=some (al a (j*2)):=SlV.idx ha .i64 j hj
  obtain ⟨u,hu,L,hiy⟩:=kJ w1 (hb.mono hk1.sub) hj2
  have ow:=hn.one
  have ou:=hu.one
  have Lp:=L.put
  have Ll:=L.ld
  have hge:¬ m.length<=j:=by omega
  simp only [List.length_set,hl] at hl1
  refine zW (zM hl1 t11 t1 t2 hi1 hix hld hb.lenV hge hiy Lp Ll) ?_
  refine AnsH.eq (hf j hj hj2 _ (.agg [.bool (decide (l[j]<0)),w]) (.agg [.bool (decide (m[j]<0)),u]) zK ⟨w,rfl,hn.mono (Kp.sub (H:=H1) zK)⟩ ⟨u,rfl,hu.mono (Kp.sub (H:=H1) zK)⟩) fun H2 hk2=>?_
  obtain ⟨k2,_,_⟩:=zT H zK hk2
  by_cases hz:c l[j] m[j]=0
  ·refine zW (az hl1 hz) ?_
   refine ⟨zK,fun k h h' hk=>?_⟩
   by_cases e:k=j
   ·subst e; exact hz
   ·exact hP k h h' (by omega)
  ·refine zW (az hl1 hz) ?_
   exact ⟨by rw [A8 hj hj2 hP hz],zK⟩
 ·intro T1 H1 hl1 hs1 hk1 hP
  have t0:ae T1 0=a:=(hs1.at_ 0 (by decide)).trans (zV (az hl g0))
  have t1:ae T1 1=b:=(hs1.at_ 1 (by decide)).trans (zV (cJ hl g0 g1 g2 g1))
  have e1:lenV a=some (.int .i64 (m.length:Int)):=by rw [ha.lenV,hlm]
  simp only [List.length_set,hl] at hl1
  refine zW (cJ hl1 t0 t1 e1 hb.lenV) ?_
  exact ⟨by rw [yb fun k h h'=>hP k h h' h],zK⟩
theorem vec_Cmp_f1 (C:Code tab) (hw:Wf H) {a b:AV} {x y:Int} (ha:IntV H a x) (hb:IntV H b y) (hx:OV x) (hy:OV y) :
  Ans tab (.fn mH [a,b]) H fun v H'=>v=.int .i64 (gI (x-y))/\Kp H H':=by
 obtain ⟨p,rfl,hp⟩:=ha
 obtain ⟨q,rfl,hq⟩:=hb
 have op:=hp.one
 have oq:=hq.one
 refine ca C.vec_Cmp_f1 (by decide) fun T hl g0 g1=>?_
 refine zW (aC hl g0 g1) ?_
 refine AnsH.eq (whole_Cmp C zF ⟨p,rfl,hp.mono (Kp.sub (H:=H) zK)⟩ ⟨q,rfl,hq.mono (Kp.sub (H:=H) zK)⟩ hx hy) fun H2 hk2=>?_
 obtain ⟨k2,_,_⟩:=zT H zK hk2
 refine zW (aC hl g0 g1) ?_
 exact zK
def zw (l m:List Int):Int:=xp (fun x y=>gI (x-y)) l m
theorem vec_Cmp (C:Code tab) (hw:Wf H) {a b:AV} {l m:List Int} (ha:RowV H a l) (hb:RowV H b m) (hlm:l.length=m.length) (h64:l.length<=64) (hl':∀ z∈l,OV z) (hm':∀ z∈m,OV z) :
  Ans tab (.fn rT [a,b]) H fun v H'=>v=.tup [.int .i64 (zw l m),.int .i64 0]/\Kp H H':=by
 have oa:=ha.one
 have ob:=hb.one
 refine ca C.vec_Cmp (by decide) fun T hl g0 g1=>?_
 refine zW (aC hl g0 g1) ?_
 refine AnsH.eq (eZ C (d:=l.length) zF (el ha hb (Kp.sub (H:=H) zK) (by refine qN ?_; rfl)) (by simp) (by simp) h64 fun r hr=>?_) fun H2 hk2=>?_
 ·simp at hr; rcases hr with rfl | rfl
  ·exact ⟨rfl,hl'⟩
  ·exact ⟨hlm.symm,hm'⟩
 obtain ⟨k2,_,w2⟩:=zT H zK hk2
 refine zW (aC hl g0 g1) ?_
 refine AnsH.eq (ui C zF (ha.mono (Kp.sub (H:=H) zK)) (hb.mono (Kp.sub (H:=H) zK)) hlm (by omega) (fun x y=>gI (x-y)) fun i h h' H' u v hk hu hv=>vec_Cmp_f1 C hk.wf hu hv (hl' _ (List.getElem_mem h)) (hm' _ (List.getElem_mem h'))) fun H3 hk3=>?_
 obtain ⟨k3,_,_⟩:=zT H zK hk3
 refine zW (aC hl g0 g1) ?_
 exact ⟨rfl,zK⟩
end
abbrev IF (H:Heap) (v:AV) (ls:List (List (Bool × List Nat))):Prop:=tX (pE rawE aa) af H v ls
def sK (r:List (Bool × List Nat)):Bool:=!yT r || decide (r.length=0)
def cq (ls:List (List (Bool × List Nat))):Int :=
 if 1024<ls.length then 4 else if ls.any sK then 8 else if ls.any (fun r=>decide (r.length≠(ls.headD []).length)) then 70 else 0
theorem xI {ls:List (List (Bool × List Nat))} (h0:ls.length<=1024) {j:Nat} (hj:j<ls.length) (h:sK ls[j]=true):cq ls=8:=by
 have:ls.any sK=true:=List.any_eq_true.2 ⟨_,List.getElem_mem hj,h⟩
 unfold cq
 rw [if_neg (by omega),if_pos this]
theorem BX {ls:List (List (Bool × List Nat))} (h0:ls.length<=1024) (hb:∀ k (h:k<ls.length),sK ls[k]=false) {j:Nat} (hj:j<ls.length) (h:ls[j].length≠(ls[0]'(by omega)).length):cq ls=70:=by
 have h1:¬ ls.any sK=true:=by
  rw [List.any_eq_true]; rintro ⟨r,hr,hbr⟩
  obtain ⟨k,hk,rfl⟩:=List.getElem_of_mem hr
  rw [hb k hk] at hbr; cases hbr
 have e:ls.headD []=ls[0]'(by omega):=by cases ls with | nil=>simp at hj | cons a l=>rfl
 have h2:ls.any (fun r=>decide (r.length≠(ls.headD []).length))=true:=List.any_eq_true.2 ⟨_,List.getElem_mem hj,by rw [e]; simpa using h⟩
 unfold cq
 rw [if_neg (by omega),if_neg h1,if_pos h2]
theorem rM {ls:List (List (Bool × List Nat))} (h0:ls.length<=1024) (hb:∀ k (h:k<ls.length),sK ls[k]=false) (hl:∀ k (h:k<ls.length),ls[k].length=(ls[0]'(by omega)).length):cq ls=0:=by
 have h1:¬ ls.any sK=true:=by
  rw [List.any_eq_true]; rintro ⟨r,hr,hbr⟩
  obtain ⟨k,hk,rfl⟩:=List.getElem_of_mem hr
  rw [hb k hk] at hbr; cases hbr
 have h2:¬ ls.any (fun r=>decide (r.length≠(ls.headD []).length))=true:=by
  rw [List.any_eq_true]; rintro ⟨r,hr,hbr⟩
  obtain ⟨k,hk,rfl⟩:=List.getElem_of_mem hr
  have e:ls.headD []=ls[0]'(by omega):=by cases ls with | nil=>simp at hk | cons a l=>rfl
  rw [e,hl k hk] at hbr
  simp at hbr
 unfold cq
 rw [if_neg (by omega),if_neg h1,if_neg h2]
section
variable {tab:Nat->Option aq} {H:Heap} {s:AV}
theorem vp {ty:Nat} {ls:List (List (Bool × List Nat))} (hs:tX (pE rawE aa) ty H s ls) {i:Nat} (hi:i<ls.length):∃ w,SlV rawE aa H w ls[i]/\aZ H none (al s i)=some w:=SlV.at1 hs (List.getElem?_eq_getElem hi)
theorem rows_Check (C:Code tab) (hw:Wf H) {ls:List (List (Bool × List Nat))} (hs:IF H s ls) (hbig:ls.length<4611686018427387904) (hb:∀ r∈ls,xq r) :
  Ans tab (.fn jD [s]) H fun v H'=>v=.int .i64 (cq ls)/\Kp H H':=by
 refine OD C.rows_Check (by decide) fun T hl g0=>?_
 by_cases h0:1024<ls.length
 ·have e:(1024:Int)<(ls.length:Int):=by omega
  refine zW (bg hl g0 hs.lenV e) ?_
  exact ⟨by unfold cq; rw [if_pos h0],zK⟩
 ·have e:¬ (1024:Int)<(ls.length:Int):=by omega
  have h0':ls.length<=1024:=by omega
  refine zW (bg hl g0 hs.lenV e) ?_
  refine ak H [] (fun j _ _=>∀ k (h:k<ls.length),k<j->sK ls[k]=false) (a:=0) (N:=ls.length) rfl (by refine zW (az hl g0) ?_; rfl) (zV (az hl g0)) (Nat.zero_le _) (by omega) (by simp only [List.length_set,hl]; rfl) rfl (fun _ _ _ _ h=>h) zK (fun k _ h=>by omega) ?_ ?_
  ·intro j T1 H1 _ hj hl1 hi1 hs1 hk1 hP
   have w1:=hk1.wf
   have le_hk1:=hk1.le
   have t10:ae T1 10=s:=(hs1.at_ 10 (by decide)).trans (zV (az hl g0))
   obtain ⟨w,hr,hld⟩:=vp (hs.mono hk1.sub) hj
   have hix:=SlV.idx1 hs .i64 j hj
   simp only [List.length_set,hl] at hl1
   refine zW (cJ hl1 t10 hi1 hix hld) ?_
   refine AnsH.eq (vec_Check C zF (hr.mono (Kp.sub (H:=H1) zK)) (hb _ (List.getElem_mem hj))) fun H2 hk2=>?_
   obtain ⟨k2,_,_⟩:=zT H zK hk2
   cases ho:yT ls[j] with
   | false =>
    refine zW hl1 ?_
    exact ⟨by rw [xI h0' hj (by simp [sK,ho])],zK⟩
   | true =>
    refine zW (az hl1 hr.lenV) ?_
    refine iteH.split (fun hz=>?_) fun hz=>?_
    ·refine zW hl1 ?_
     exact ⟨by rw [xI h0' hj (by unfold sK; rw [ho,decide_eq_true (by omega)]; rfl)],zK⟩
    ·refine zW hl1 ?_
     refine ⟨zK,fun k h hk=>?_⟩
     by_cases ek:k=j
     ·subst ek; unfold sK; rw [ho,decide_eq_false (by omega)]; rfl
     ·exact hP k h (by omega)
  ·intro T1 H1 hl1 hs1 hk1 hP
   have w1:=hk1.wf
   have le_hk1:=hk1.le
   have t0:ae T1 0=s:=(hs1.at_ 0 (by decide)).trans (zV (az hl g0))
   simp only [List.length_set,hl] at hl1
   refine zW (aC hl1 t0 hs.lenV) ?_
   refine ak H [] (fun j _ _=>∀ k (h:k<ls.length),k<j->ls[k].length=(ls[0]'(by omega)).length) (a:=0) (N:=ls.length) rfl (by refine zW hl1 ?_; rfl) (zV hl1) (Nat.zero_le _) (by omega) (by simp only [List.length_set,hl1]; rfl) rfl (fun _ _ _ _ h=>h) zK (fun k _ h=>by omega) ?_ ?_
   ·intro j T2 H2 _ hj hl2 hi2 hs2 hk2 hP2
    have w2:=hk2.wf
    have le_hk2:=hk2.le
    have h00:0<ls.length:=by omega
    have t25:ae T2 25=s:=(hs2.at_ 25 (by decide)).trans (zV (az hl1 t0))
    have t0':ae T2 0=s:=(hs2.at_ 0 (by decide)).trans (zV (az hl1 t0))
    obtain ⟨w,hr,hld⟩:=vp (hs.mono hk2.sub) hj
    obtain ⟨w0,hr0,hld0⟩:=vp (hs.mono hk2.sub) h00
    have hix:=SlV.idx1 hs .i64 j hj
    have hix0:Ox 1 s (.int .i64 0)=some (al s 0):=SlV.idx1 hs .i64 0 h00
    simp only [List.length_set,hl1] at hl2
    by_cases he:ls[j].length=(ls[0]'h00).length
    ·have l2:lenV w=some (.int .i64 ((ls[0]'h00).length:Int)):=by rw [hr.lenV,he]
     refine zW (nE hl2 t25 t0' hi2 hix hld hix0 hld0 l2 hr0.lenV) ?_
     refine ⟨zK,fun k h hk=>?_⟩
     by_cases ek:k=j
     ·subst ek; exact he
     ·exact hP2 k h (by omega)
    ·refine zW (p9 hl2 t25 t0' hi2 hix hld hix0 hld0 hr.lenV hr0.lenV he) ?_
     exact ⟨by rw [BX h0' (fun k h=>hP k h h) hj he],zK⟩
   ·intro T2 H2 hl2 hs2 hk2 hP2
    simp only [List.length_set,hl1] at hl2
    refine zW hl2 ?_
    exact ⟨by rw [rM h0' (fun k h=>hP k h h) fun k h=>hP2 k h h],zK⟩
theorem uX {ty:Nat} {ls:List (List Int)} (hs:tX (pE intE aa) ty H s ls):tX (pE rawE aa) ty H s (ls.map fun r=>r.map jv):=by
 obtain ⟨cells,hr,ht,hc,ha⟩:=hs
 refine ⟨cells,hr,ht,by rw [hc,List.length_map]; rfl,fun i a hi=>?_⟩
 rw [List.getElem?_map] at hi
 cases hz:ls[i]? with
 | none=>rw [hz] at hi; cases hi
 | some z =>
  rw [hz] at hi; cases hi
  obtain ⟨w,h1,h2⟩:=ha i z hz
  exact ⟨w,h1,SlV.raw h2⟩
theorem uo {r:List Int} (h64:r.length<=64) (hz:∀ z∈r,OV z):xq (r.map jv):=by
 refine ⟨by rw [List.length_map]; omega,fun z h=>?_⟩
 rw [List.mem_map] at h
 obtain ⟨a,ha,rfl⟩:=h
 have:=hz a ha
 unfold OV Sm at this
 show (ag a.natAbs).length<_
 omega
theorem B3 {r:List Int} (h64:r.length<=64):yT (r.map jv)=true:=by
 simp only [yT,List.length_map,List.any_map,Bool.and_eq_true,decide_eq_true_eq,Bool.not_eq_true',List.any_eq_false]
 exact ⟨h64,fun z _=>by simp [Bj]⟩
structure sP (d:Nat) (ls:List (List Int)):Prop where
 pos:0<d
 le:d<=64
 len:∀ r∈ls,r.length=d
 sm:∀ r∈ls,∀ z∈r,OV z
theorem iW (C:Code tab) (hw:Wf H) {d:Nat} {ls:List (List Int)} {ty:Nat} (hs:cI H s ls) (h1024:ls.length<=1024) (hok:sP d ls) :
  Ans tab (.fn jD [s]) H fun v H'=>v=.int .i64 0/\Kp H H':=by
 have h:=rows_Check C hw (uX hs) (by rw [List.length_map]; omega) fun r hr=>by
  rw [List.mem_map] at hr
  obtain ⟨a,ha,rfl⟩:=hr
  exact uo (by rw [hok.len a ha]; exact hok.le) (hok.sm a ha)
 have e:cq (ls.map fun r=>r.map jv)=0:=by
  refine rM (by rw [List.length_map]; exact h1024) (fun k hk=>?_) fun k hk=>?_
  ·rw [List.length_map] at hk
   have hm:=List.getElem_mem hk
   simp only [List.getElem_map]
   unfold sK
   rw [B3 (by rw [hok.len _ hm]; exact hok.le),decide_eq_false (by rw [List.length_map,hok.len _ hm]; have:=hok.pos; omega)]
   rfl
  ·rw [List.length_map] at hk
   simp only [List.getElem_map,List.length_map]
   rw [hok.len _ (List.getElem_mem hk),hok.len _ (List.getElem_mem (by omega))]
 rw [e] at h
 exact h
theorem rows_before (C:Code tab) (hw:Wf H) {a b:Nat}:Ans tab (.fn lx [.int .i64 (a:Int),.int .i64 (b:Int)]) H fun v H'=>v=.bool (Lin.before a b)/\Kp H H':=by
 refine ca C.rows_before (by decide) fun T hl g0 g1=>?_
 by_cases h1:a=b
 ·subst h1
  refine zW (aC hl g0 g1) ?_
  exact ⟨by simp [Lin.before],zK⟩
 ·have h1':¬ (a:Int)=(b:Int):=by omega
  by_cases h2:a=0
  ·have h2i:(a:Int)=0:=by omega
   have h4:¬ (0:Int)=(b:Int):=by omega
   have h5:¬ 0=b:=by omega
   refine zW (mw hl g0 g1 h1' h1 h2i h4 h5) ?_
   exact ⟨by simp [Lin.before,h2],zK⟩
  ·have h2':¬ (a:Int)=0:=by omega
   by_cases h3:b=0
   ·have h3i:(b:Int)=0:=by omega
    refine zW (mw hl g0 g1 h1' h2' h3i h1 h2) ?_
    exact ⟨by simp [Lin.before,h2,h3],zK⟩
   ·have h3':¬ (b:Int)=0:=by omega
    refine zW (kU hl g0 g1 h1' h2' h3' h1 h2 h3) ?_
    exact ⟨by unfold Lin.before; rw [show (a != b)=true from by simpa using h1,show (a != 0)=true from by simpa using h2,show (b == 0)=false from by simpa using h3]; rfl,zK⟩
theorem rows_places (C:Code tab) (hw:Wf H) {d:Nat} :
  Ans tab (.fn lu [.int .i64 (d:Int)]) H fun v H'=>v=.fn (.func dR) [] [.ptr H.next 0]/\H'.get H.next=some (.cells [.int .i64 (d:Int)] fL true)/\H.next+1<=H'.next/\Kp H H':=by
 refine OD C.rows_places (by decide) fun T hl g0=>?_
 refine zW (az hl g0) ?_
 exact ⟨by omega,zK⟩
theorem EU {d k:Nat} (hk:k+1<d):(Lin.places d)[k]? = some (k+1):=by
 unfold Lin.places
 rw [List.getElem?_append_left (by simp; omega),List.getElem?_range' (by omega)]
 congr 1; omega
theorem Aq {d:Nat} (hd:0<d):(Lin.places d)[d-1]? = some 0:=by
 unfold Lin.places
 rw [List.getElem?_append_right (by simp),if_neg (by omega)]
 simp
theorem B7 (C:Code tab) {H0:Heap} {lb b d:Nat} (hd:d<1099511627776) (J:Nat->Heap->Prop) (R:Heap->Prop) (hk:Kp H0 H) (h0:J 0 H) (hup:∀ k H m,J k H->J k (H.up m)) (hRup:∀ H m,R H->R (H.up m))
  (hA:∀ k H,J k H->H.get b=some (.cells [.int .i64 (d:Int)] fL true))
  (hr:∀ (k p:Nat) H,(Lin.places d)[k]? = some p->Kp H0 H->J k H->Ans tab (.round lb [.int .i64 (p:Int)]) H fun v H'=>Kp H0 H'/\((v=.bool true/\J (k+1) H')\/(v=.bool false/\R H'))) :
  Ans tab (.ent dR [.loopv lb,.ptr b 0]) H fun _ H'=>Kp H0 H'/\(J d H'\/R H'):=by
 refine MU C.rows_places_f1 (by decide) fun T hl g0 g1=>?_
 refine zW (aC hl g0 g1) ?_
 refine bf H0 [3] (fun m vs H'=>∃ i:Nat,vs=[.int .i64 (i:Int)]/\1<=i/\i<=d+1/\(0<d->i<=d)/\(d=0->i=1)/\m=d+1-i/\J (i-1) H') d (by simp only [List.length_set]; exact hl) rfl zK ⟨1,by refine zW (aC hl g0 g1) ?_; rfl,Nat.le_refl _,by omega,fun h=>h,fun _=>rfl,by omega,hup _ _ _ h0⟩ ?_
 rintro k T1 H1 hl1 hs1 hk1 ⟨i,hv,i1,i2,i3,i4,hm,hJ⟩
 have w1:=hk1.wf
 have le_hk1:=hk1.le
 simp only [List.map_cons,List.map_nil,List.cons.injEq,and_true] at hv
 have t0:ae T1 0=.loopv lb:=(hs1.at_ 0 (by decide)).trans (zV (az hl g0))
 have t1:ae T1 1=.ptr b 0:=(hs1.at_ 1 (by decide)).trans (zV (bg hl g0 g1 g1))
 have hb:=hA _ _ hJ
 refine zW (cJ hl1 hv t0 t1 hb) ?_
 refine iteH.split (fun h=>?_) fun h=>?_
 ·have hi:i<d:=by omega
  have hp:(Lin.places d)[i-1]? = some i:=by have:=EU (d:=d) (k:=i-1) (by omega); rwa [Nat.sub_add_cancel i1] at this
  refine zW (bg hl1 hv t0 t1) ?_
  refine AnsH.use (hr (i-1) i _ hp zK (hup _ _ _ hJ)) ?_
  rintro v H2 ⟨hk2,⟨rfl,hJ2⟩ | ⟨rfl,hR⟩⟩
  ·rw [Nat.sub_add_cancel i1] at hJ2
   have e:IntKind.i64.wrap ((i:Int)+1)=((i+1:Nat):Int):=by rw [wrap_i64] <;> omega
   have w2:=hk2.wf
   have le_hk2:=hk2.le
   refine zW (aC hl1 hv e) ?_
   exact ⟨zK,d-i,by omega,i+1,rfl,by omega,by omega,fun _=>hi,fun h=>by omega,by omega,by simpa using hup _ _ _ hJ2⟩
  ·have w2:=hk2.wf
   refine zW hl1 ?_
   exact ⟨zK,.inr hR⟩
 ·have hi:¬ i<d:=by omega
  refine zW (bg hl1 t0 t1 hb) ?_
  refine iteH.split (fun h=>?_) fun h=>?_
  ·have hd0:0<d:=by omega
   have e:i=d:=by have:=i3 hd0; omega
   subst e
   refine zW (az hl1 t0) ?_
   refine AnsH.use (hr (i-1) 0 _ (Aq hd0) zK (hup _ _ _ hJ)) ?_
   rintro v H2 ⟨hk2,⟨rfl,hJ2⟩ | ⟨rfl,hR⟩⟩
   ·rw [Nat.sub_add_cancel i1] at hJ2
    refine zW hl1 ?_
    exact ⟨hk2,.inl hJ2⟩
   ·refine zW hl1 ?_
    exact ⟨hk2,.inr hR⟩
  ·have hd0:d=0:=by omega
   have e:=i4 hd0
   subst e
   refine zW hl1 ?_
   refine ⟨zK,.inl ?_⟩
   rw [hd0]
   exact hup _ _ _ hJ
theorem Ha (b:Nat) (T T':Tm) (ps:List Nat) (asg body:ACode) (Q:AV->Heap->Prop) (H2:Heap):LB b T ps asg body Q .ret T' H2=(H2.get b=some (.loop T ps asg body .busy none)/\Q (.bool false) (H2.put b (.loop T ps asg body .done (some .ret)))):=rfl
theorem DH {α:Type} {p:α->Bool}:∀ {l:List α} {k:Nat} {x:α},l[k]? = some x->(∀ i y,i<k->l[i]? = some y->p y=false)->p x=true->l.find? p=some x
 | [],k,x,h,_,_=>by simp at h
 | a :: l,0,x,h,_,hp=>by
  simp at h; subst h; simp [hp]
 | a :: l,k+1,x,h,h0,hp=>by
  rw [List.find?_cons_of_neg (by rw [h0 0 a (by omega) rfl]; simp)]
  exact DH (by simpa using h) (fun i y hi hy=>h0 (i+1) y (by omega) (by simpa using hy)) hp
end
def LD (l:List Int):Int:=match Lin.pivot l with
 | some p=>(p:Int)
 | none=>-1
section
variable {tab:Nat->Option aq} {H:Heap} {s:AV}
theorem oR {l:List Int} {p:Nat} (hp:p<l.length):Lin.at_ l p=l[p]:=by simp [Lin.at_,hp]
theorem rows_pivot (C:Code tab) (hw:Wf H) {l:List Int} (hs:RowV H s l) (h64:l.length<=64):Ans tab (.fn mI [s]) H fun v H'=>v=.int .i64 (LD l)/\Kp H H':=by
 have os:=hs.one
 refine OD C.rows_pivot (by decide) fun T hl g0=>?_
 refine zW (aC hl g0 hs.lenV) ?_
 refine AnsH.use (rows_places C zF) ?_
 rintro v H2 ⟨rfl,b0,hn2,hk2⟩
 obtain ⟨k2,_,w2⟩:=zT H zK hk2
 simp only [next_put,cw] at b0 hn2
 have p0:=hk2.get (b:=H.next) (e:=.cells [s] af true) (dC)
 have p1:=hk2.get (b:=H.next+1) (e:=.cells [.int .i64 0] fL true) (dC)
 refine zW (az hl g0) ?_
 refine qf (fi:=dR) (args:=[.loopv H2.next,.ptr (H.next+5) 0]) (by refine zW (az hl g0) ?_; rfl) ?_
 generalize he:Ent.loop _ _ _ _ LoopState.ready none=e0
 generalize hd:Ent.loop _ _ _ _ LoopState.done (some ACode.ret)=e1
 have k3:Kp H ((H2.up 1).put H2.next e0):=zK
 have le_k3:=k3.le
 refine (B7 C (H0:=H) (d:=l.length) (by omega) (fun k H'=>H'.get H2.next=some e0/\H'.get H.next=some (.cells [s] af true)/\H'.get (H.next+1)=some (.cells [.int .i64 0] fL true)/\H'.get (H.next+5)=some (.cells [.int .i64 (l.length:Int)] fL true)/\(∀ i y,i<k->(Lin.places l.length)[i]? = some y->Lin.at_ l y=0))
  (fun H'=>∃ p:Nat,Lin.pivot l=some p/\H'.get H2.next=some e1/\H'.get (H.next+1)=some (.cells [.int .i64 (p:Int)] fL true)) k3 ⟨by exact dC,by exact zV p0,by exact zV p1,by exact zV @b0,fun i y h=>by omega⟩ (fun _ _ _ h=>h) (fun _ _ h=>h) (fun k H' h=>h.2.2.2.1) ?_).mono ?_
 ·rintro k p H1 hp hk1 ⟨j0,j1,j2,j3,jz⟩
  rw [<- he] at j0
  have w1:=hk1.wf
  have le_hk1:=hk1.le
  have hlt:=w1 _ _ j0
  have hpl:p<l.length:=Lin.mem_places.1 (List.mem_of_getElem? hp)
  obtain ⟨w,hn,hld,hsg,hab⟩:=js hs hpl
  have Lp:=(Ldd.of hw hab).put
  have Ll:=aH hk1.sub hab
  have hix:Ox 2 s (.int .i64 (p:Int))=some (al s (p*2)):=SlV.idx hs .i64 p hpl
  have hfa:vZ 1 (al s (p*2))=some (al s (p*2+1)):=SlV.fa hs (by omega) 1 (p*2)
  have hlen:=bN (l[p]).natAbs
  refine qI j0 rfl ?_
  refine zW (nE hl g0 j0 j1 j2 hix hfa Lp Ll hn.lenV) ?_
  refine iteH.split (fun h=>?_) fun h=>?_
  ·have hpv:Lin.pivot l=some p:=by
    refine DH hp (fun i y hi hy=>by simp [jz i y hi hy]) ?_
    rw [oR hpl]; simp; omega
   refine zW (fW hl g0 j0 j1 j2 @Ha) ?_
   generalize Ent.loop _ _ _ _ LoopState.busy none=e2
   rw [hd]
   exact ⟨zK,.inr ⟨p,hpv,by exact dC,by exact dC⟩⟩
  ·have hz:Lin.at_ l p=0:=by rw [oR hpl]; omega
   refine zW (fW hl g0 j0 j1 j2 @uZ) ?_
   generalize Ent.loop _ _ _ _ LoopState.busy none=e2
   rw [he]
   refine ⟨zK,.inl ⟨rfl,j3,fun i y hi hy=>?_⟩⟩
   by_cases e:i=k
   ·subst e
    rw [hp] at hy; cases hy; exact hz
   ·exact jz i y (by omega) hy
 ·rintro _ H' ⟨hk',⟨j0,j1,j2,j3,jz⟩ | ⟨p,hp,j0,j2⟩⟩
  ·refine .inl ⟨j0,?_⟩
   have w1:=hk'.wf
   have le_hk':=hk'.le
   have lt1:=w1 _ _ j2
   have ku:Kp H (H'.up 1):=hk'.up 1
   refine zW (aC hl g0 j2) ?_
   have hnone:Lin.pivot l=none:=by
    unfold Lin.pivot
    rw [List.find?_eq_none]
    intro y hy
    obtain ⟨i,hi⟩:=List.getElem?_of_mem hy
    have hlen:(Lin.places l.length).length=l.length:=by
     unfold Lin.places
     rw [List.length_append,List.length_range']
     split <;> simp <;> omega
    have hil:i<l.length:=by have:=(List.getElem?_eq_some_iff.1 hi).1; omega
    simp [jz i y hil hi]
   exact ⟨by unfold LD; rw [hnone],zK⟩
  ·refine .inr (.inl ⟨j0,?_⟩)
   have w1:=hk'.wf
   have le_hk':=hk'.le
   refine zW (aC hl g0 j2) ?_
   exact ⟨by unfold LD; rw [hp],zK⟩
theorem Ch {m n:Int} {e f g h:Nat} {x y:List Int} (hm:Bt g m) (hn:Bt h n) (hx:∀ z∈x,Bt e z) (hy:∀ z∈y,Bt f z):∀ z∈Lin.mix m x n y,Bt (max (g+e) (h+f)+1) z:=by
 intro z hz
 unfold Lin.mix at hz
 rw [List.mem_iff_getElem] at hz
 obtain ⟨i,hi,rfl⟩:=hz
 have h1:i<x.length:=by simp at hi; omega
 have h2:i<y.length:=by simp at hi; omega
 rw [List.getElem_zipWith]
 exact Bt.add (hm.mul (hx _ (List.getElem_mem h1))) (hn.mul (hy _ (List.getElem_mem h2)))
theorem Ap {e:Nat} {x:List Int} (hx:∀ z∈x,Bt e z):∀ z∈Lin.prime x,Bt e z:=by
 intro z hz
 unfold Lin.prime at hz
 split at hz
 ·exact hx z hz
 ·rw [List.mem_map] at hz
  obtain ⟨a,ha,rfl⟩:=hz
  have h:=hx a ha
  unfold Bt at *
  refine Nat.lt_of_le_of_lt ?_ h
  rw [Int.natAbs_ediv_of_dvd (Lin.content_dvd ha)]
  exact Nat.div_le_self _ _
theorem BU {e:Nat} {x:List Int} (hx:∀ z∈x,Bt e z):∀ z∈Lin.scl (-1) x,Bt e z:=by
 intro z hz
 unfold Lin.scl at hz
 rw [List.mem_map] at hz
 obtain ⟨a,ha,rfl⟩:=hz
 have:=(hx a ha).neg
 rwa [show -a = -1*a by omega] at this
theorem Ks {e f p:Nat} {a u:List Int} (ha:∀ z∈a,Bt e z) (hu:∀ z∈u,Bt f z):∀ z∈Lin.wo a u p,Bt (e+f+1) z:=by
 intro z hz
 unfold Lin.wo at hz
 split at hz
 ·exact (ha z hz).mono (by omega)
 ·have hm:Bt f (Lin.at_ u p):=by
   unfold Lin.at_; rw [List.getD_eq_getElem?_getD]
   cases h:u[p]? with
   | none=>exact Bt.zero f
   | some b=>exact hu b (List.mem_of_getElem? h)
  have hn:Bt e (-(Lin.at_ a p)):=by
   refine Bt.neg ?_
   unfold Lin.at_; rw [List.getD_eq_getElem?_getD]
   cases h:a[p]? with
   | none=>exact Bt.zero e
   | some b=>exact ha b (List.mem_of_getElem? h)
  exact (Ap (Ch hm hn ha hu) z hz).mono (by omega)
theorem rows_without (C:Code tab) (hw:Wf H) {va vb:AV} {x u:List Int} {p e f:Nat} (ha:RowV H va x) (hb:RowV H vb u) (hxu:x.length=u.length) (h64:x.length<=64) (hp:p<x.length) (hx:∀ z∈x,Bt e z) (hu:∀ z∈u,Bt f z) (he:e+f+1<=8796093022208) :
  Ans tab (.fn Qb [va,vb,.int .i64 (p:Int)]) H fun v H'=>RowV H' v (Lin.wo x u p)/\Kp H H':=by
 refine Qg C.rows_without (by decide) fun T hl g0 g1 g2=>?_
 have hpu:p<u.length:=by omega
 obtain ⟨w,hn,hld,-,hab⟩:=js ha hp
 have hix:Ox 2 va (.int .i64 (p:Int))=some (al va (p*2)):=SlV.idx ha .i64 p hp
 have hfa:vZ 1 (al va (p*2))=some (al va (p*2+1)):=SlV.fa ha (by omega) 1 (p*2)
 have hlen:=bN (x[p]).natAbs
 refine zW (mw hl g0 g1 g2 hix hfa hab hn.lenV) ?_
 refine iteH.split (fun h=>?_) fun h=>?_
 ·have hz:Lin.at_ x p=0:=by rw [oR hp]; omega
  refine zW (az hl g0) ?_
  refine ⟨?_,zK⟩
  unfold Lin.wo
  rw [if_pos hz]
  exact ha.mono (Kp.sub (H:=H) zK)
 ·have hz:¬ Lin.at_ x p=0:=by rw [oR hp]; omega
  refine zW (fW hl g0 g1 g2 hix hld) ?_
  refine AnsH.use (whole_Neg C zF ⟨w,rfl,hn.mono (Kp.sub (H:=H) zK)⟩ ((hx _ (List.getElem_mem hp)).sm (by omega))) ?_
  rintro v H2 ⟨r,rfl,hr,hk2⟩
  obtain ⟨k2,_,w2⟩:=zT H zK hk2
  obtain ⟨r',rfl,hr'⟩:=hr
  have or':=hr'.one
  obtain ⟨wu,hnu,L,hiu⟩:=kJ hw hb hpu
  have Lp:=L.put
  have Ll:=(L.mono k2).ld
  have n2:H.next+19<=H2.next:=hk2.le
  have f2:H2.get (H.next+16)=none:=hk2.free (show _<H.next+19 by omega) (hw.fresh (b:=H.next+16) (by omega))
  have s2:∀ m,Sub H2 (((H2.up m).put (H.next+16) (.cells [.bool false,.nilSl] aa true)).put (H.next+16) (.cells [.bool (decide (-x[p]<0)),r'] aa true)):=fun m=>(Sub.bump H2 m).trans ((bh (H:=H2.up m) f2).put f2 _)
  refine zW (bg hl g0 g1 g2) ?_
  refine aO ?_
  refine zD (mw hl g0 g1 g2 hiu Lp Ll @bQ) ?_
  have hup:=hu _ (List.getElem_mem hpu)
  have hxp:=hx _ (List.getElem_mem hp)
  refine AnsH.use (vec_Mix C (m:=u[p]) (n:=-x[p]) zF ⟨wu,rfl,hnu.mono (Kp.sub (H:=H) zK)⟩ ⟨r',rfl,hr'.mono (s2 _)⟩ (ha.mono (Kp.sub (H:=H) zK)) (hb.mono (Kp.sub (H:=H) zK)) hxu h64 (hup.len (by omega)) (hxp.neg.len (by omega)) (fun z hz=>⟨(hx z hz).len (by omega),(hup.mul (hx z hz)).sm (by omega)⟩) (fun z hz=>⟨(hu z hz).len (by omega),(hxp.neg.mul (hu z hz)).sm (by omega)⟩)) ?_
  rintro v3 H3 ⟨r3,rfl,hr3,hk3⟩
  obtain ⟨k3,_,w3⟩:=zT H zK hk3
  refine zD (mw hl g0 g1 g2 hiu Lp Ll @bQ) ?_
  refine AnsH.use (vec_Prime C zF (hr3.mono (Kp.sub (H:=H3) zK)) (by rw [Lin.mix_length rfl hxu.symm]; exact h64) (fun z hz=>(Ch hup hxp.neg hx hu z hz).sm (by omega))) ?_
  rintro v4 H4 ⟨r4,rfl,hr4,hk4⟩
  obtain ⟨k4,_,_⟩:=zT H zK hk4
  simp only [gM,iN,gL,jM,List.nil_append,List.cons_append,pt,nk,List.getLastD_cons,List.getLastD_nil,List.getD_cons_zero,List.getD_cons_succ]
  refine zW (bg hl g0 g1 g2) ?_
  refine ⟨?_,zK⟩
  unfold Lin.wo
  rw [if_neg hz,oR hp,oR hpu]
  exact hr4.mono (Kp.sub (H:=H4) (Kp.trans (Kp.refl k4.wf) ((Kp.refl k4.wf).up _)))
end
def Lv (tab:Nat->Option aq) (rd:Bool) (b:ACode) (Q:Ex->Tm->Heap->Prop) (x:Ex) (T:Tm) (H:Heap):Prop:=match x with
 | .nrm=>WB tab rd b T H Q
 | x=>Q x T H
def L7 (R:Tm->Heap->Prop) (Q:Ex->Tm->Heap->Prop) (x:Ex) (T:Tm) (H:Heap):Prop:=match x with
 | .nrm=>R T H
 | x=>Q x T H
section
variable {tab:Nat->Option aq} {rd:Bool} {a b:ACode} {T:Tm} {H:Heap} {Q:Ex->Tm->Heap->Prop} {R:Tm->Heap->Prop}
theorem aK:Lv tab rd b Q .nrm T H=WB tab rd b T H Q:=rfl
theorem nM:Lv tab rd b Q .ret T H=Q .ret T H:=rfl
theorem aQ:L7 R Q .nrm T H=R T H:=rfl
theorem oE:L7 R Q .ret T H=Q .ret T H:=rfl
theorem br (h:WC tab rd a T H (Lv tab rd b Q)):WB tab rd (.seq a b) T H Q:=uC (h.wb.mono fun x T' H' h=>by cases x <;> exact h)
theorem OF (R:Tm->Heap->Prop) (hp:gE a=true) (h:WC tab rd a T H (L7 R Q)) (hb:∀ T' H',Same (eF a) T T'->R T' H'->WB tab rd b T' H' Q):WB tab rd (.seq a b) T H Q :=
 uC ((h.wb.same hp).mono fun x T' H' ⟨hs,h⟩=>by
  cases x with
  | nrm=>exact hb T' H' hs h
  | exit e=>exact h
  | goto l=>exact h
  | ret=>exact h)
theorem xw {f:Nat} {fn:aq} {args:List AV} {Q:AV->Heap->Prop} (hf:tab f=some fn) (he:fn.ext=none) (hl:args.length=fn.nparams) (hn:fn.nparams<=fn.ntmps)
  (h:∀ T0:Tm,T0.length=fn.ntmps->(∀ i,i<args.length->ae T0 i=args.getD i .undef)->WB tab false fn.body T0 H (rN fn.results Q)):Ans tab (.fn f args) H Q:=by
 obtain ⟨x,T',H',⟨N,g⟩,hx,v,hv,hq⟩:=h (args++List.replicate (fn.ntmps-args.length) .undef) (by simp; omega) fun i hi=>by
  unfold ae
  rw [List.getD_eq_getElem?_getD,List.getD_eq_getElem?_getD,List.getElem?_append_left hi]
 refine ⟨v,H',⟨N+1,fun m n hm hn=>?_⟩,hq⟩
 obtain ⟨n',rfl⟩:∃ n',n=n'+1:=⟨n-1,by omega⟩
 show iv tab dK (jC tab dK m n') m (.fn f args) H=_
 simp only [iv,hf,he,uV,if_pos hl]
 rw [g m n' (by omega) (by omega)]
 rcases hx with rfl | rfl <;> simp [hv]
end
theorem Cells.set1 {α:Type} {e:Kq α} {H:Heap} {cells:List AV} {l:List α} (h:Cells (cB e) H cells l) {i:Nat} {a:α} {v:AV} (hi:i<l.length) (hr:e.R H v a):Cells (cB e) H (cells.set i v) (l.set i a):=by
 have hc:i<cells.length:=by have:=h.1; simp [cB] at this; omega
 have h2:cells.take (i*1)++[v]++cells.drop (i*1+1)=cells.set i v:=by rw [Nat.mul_one,List.set_eq_take_append_cons_drop,if_pos hc]; simp
 have this:Cells (cB e) H (cells.take (i*1)++[v]++cells.drop (i*1+1)) (l.set i a):=Cells.set h hi ⟨v,rfl,hr⟩
 rw [h2] at this
 exact this
theorem Cells.at1 {α:Type} {e:Kq α} {H:Heap} {cells:List AV} {l:List α} (h:Cells (cB e) H cells l) {i:Nat} (hi:i<l.length):∃ v,bA cells i none=some v/\e.R H v l[i]:=by
 obtain ⟨v,h1,h2⟩:=h.2 i _ (List.getElem?_eq_getElem hi)
 have hc:i<cells.length:=by have:=h.1; simp [cB] at this; omega
 refine ⟨v,?_,h2⟩
 have h1':(cells.drop (i*1)).take 1=[v]:=h1
 rw [Nat.mul_one] at h1'
 have h3:((cells.drop i).take 1)[0]? = some v:=by rw [h1']; rfl
 rw [List.getElem?_take_of_lt (by omega),List.getElem?_drop] at h3
 simpa [bA] using h3
section
variable {tab:Nat->Option aq} {H:Heap} {s:AV}
def kX (F:List (List Int)) (x:List Int) (k:Nat):List Int:=(F.take k).foldl (fun a r=>Lin.wo a r (Lin.pv r)) (Lin.prime x)
theorem nP {F:List (List Int)} {x:List Int} {k:Nat} (hk:k<F.length):kX F x (k+1)=Lin.wo (kX F x k) F[k] (Lin.pv F[k]):=by
 unfold kX
 rw [List.take_succ_eq_append_getElem hk,List.foldl_append]; rfl
theorem iM (F:List (List Int)) (x:List Int):kX F x F.length=Lin.restF F x:=by
 unfold kX Lin.restF
 rw [List.take_length]
theorem mB {d:Nat} {F:List (List Int)} {x:List Int} (hx:x.length=d) (hF:∀ r∈F,r.length=d):∀ k,k<=F.length->(kX F x k).length=d
 | 0,_=>by unfold kX; simp [Lin.prime_length,hx]
 | k+1,h=>by
  rw [nP (by omega)]
  exact Lin.wo_length (mB hx hF k (by omega)) (hF _ (List.getElem_mem (by omega)))
theorem lX {e f:Nat} {F:List (List Int)} {x:List Int} (hx:∀ z∈x,Bt e z) (hF:∀ r∈F,∀ z∈r,Bt f z):∀ k,k<=F.length->∀ z∈kX F x k,Bt (e+k*(f+1)) z
 | 0,_=>by
  intro z hz
  unfold kX at hz
  exact (Ap hx z (by simpa using hz)).mono (by omega)
 | k+1,h=>by
  rw [nP (by omega)]
  intro z hz
  refine (Ks (lX hx hF k (by omega)) (hF _ (List.getElem_mem (by omega))) z hz).mono ?_
  rw [Nat.succ_mul]; omega
theorem B4 {r:List Int} {p:Nat} (h:Lin.pivot r=some p):LD r=(p:Int):=by unfold LD; rw [h]
theorem su (C:Code tab) (hw:Wf H) {fb:Nat} {q va:AV} {F:List (List Int)} {x:List Int} {d e f:Nat} (hfb:H.get fb=some (.cells [q] dF true)) (hq:cI H q F) (ha:RowV H va x) (hx:x.length=d) (h64:d<=64) (hlF:F.length<=64)
  (hF:∀ r∈F,r.length=d/\Lin.pivot r=some (Lin.pv r)/\∀ z∈r,Bt f z) (hxe:∀ z∈x,Bt e z) (hb:e+65*(f+1)<=8796093022208) :
  Ans tab (.fn gF [.ptr fb 0,va]) H fun v H'=>RowV H' v (Lin.restF F x)/\Kp H H':=by
 refine ca C.P_rows_form_rest (by decide) fun T hl g0 g1=>?_
 refine zW (aC hl g0 g1) ?_
 refine AnsH.use (vec_Prime C zF (ha.mono (Kp.sub (H:=H) zK)) (by omega) fun z hz=>(hxe z hz).sm (by omega)) ?_
 rintro v H2 ⟨r2,rfl,hr2,hk2⟩
 obtain ⟨k2,_,w2⟩:=zT H zK hk2
 have hfb2:=k2.get hfb
 refine zW (cJ hl g0 g1 hfb2 hq.lenV) ?_
 refine ak H [1] (fun j vs H'=>∃ v,vs=[v]/\RowV H' v (kX F x j)) (a:=0) (N:=F.length) rfl (by refine zW (aC hl g0 g1) ?_; rfl) (zV (aC hl g0 g1)) (Nat.zero_le _) (by omega) (by simp only [List.length_set,hl]; rfl) rfl (fun j vs H' m ⟨c,h1,h2⟩=>⟨c,h1,h2.mono (Sub.bump H' m)⟩) zK ⟨r2,by exact zV (aC hl g0 g1),by exact hr2.mono (Sub.bump H2 _)⟩ ?_ ?_
 ·rintro j T1 H1 _ hj hl1 hi1 hs1 hk1 ⟨vr,hv,hr⟩
  have w1:=hk1.wf
  have le_hk1:=hk1.le
  simp only [List.map_cons,List.map_nil,List.cons.injEq,and_true] at hv
  have t15:ae T1 15=q:=(hs1.at_ 15 (by decide)).trans (zV (aC hl g0 g1))
  obtain ⟨w,hrj,hld⟩:=cV (hq.mono hk1.sub) hj
  have hix:=SlV.idx1 hq .i64 j hj
  have hFj:=hF _ (List.getElem_mem hj)
  simp only [List.length_set,hl] at hl1
  refine zW (fW hl1 t15 hi1 hix hld hv) ?_
  refine AnsH.eq (rows_pivot C zF (hrj.mono (Kp.sub (H:=H1) zK)) (by omega)) fun H3 hk3=>?_
  obtain ⟨k3,_,w3⟩:=zT H1 zK hk3
  rw [B4 hFj.2.1]
  have hlr:=mB hx (fun r h=>(hF r h).1) j (by omega)
  have hpd:Lin.pv F[j]<d:=by have:=(Lin.pivot_some.1 hFj.2.1).1; omega
  have hle:j*(f+1)<=63*(f+1):=Nat.mul_le_mul_right _ (by omega)
  refine zW (az hl1 hv) ?_
  refine AnsH.use (rows_without C zF (hr.mono k3.sub) (hrj.mono k3.sub) (hlr.trans hFj.1.symm) (by omega) (by omega) (lX hxe (fun r h=>(hF r h).2.2) j (by omega)) hFj.2.2 (by omega)) ?_
  rintro v4 H4 ⟨hr4,hk4⟩
  have k4:Kp H H4:=Kp.trans (Kp.trans hk1 k3) hk4
  have le_k4:=k4.le
  refine zW hl1 ?_
  refine ⟨zK,_,rfl,?_⟩
  rw [nP hj]
  exact hr4
 ·rintro T1 H1 hl1 hs1 hk1 ⟨vr,hv,hr⟩
  have w1:=hk1.wf
  have le_hk1:=hk1.le
  simp only [List.map_cons,List.map_nil,List.cons.injEq,and_true] at hv
  simp only [List.length_set,hl] at hl1
  rw [iM] at hr
  refine zW (az hl1 hv) ?_
  exact ⟨hr.mono (Sub.bump H1 _),zK⟩
abbrev rowsE:eU (List Int):=cB (pE intE aa)
theorem Bv (C:Code tab) {H0:Heap} {q va:AV} {F:List (List Int)} {x:List Int} {k b2:Nat} (hk:Kp H0 H) (hq:Bl rowsE af H0 H q F) (hkF:k<=F.length) (hb2:H.get b2=some (.cells [va] af true)) (hx:RowV H va x) (hne:∀ n,q ≠ .own b2 0 n n 1 false) (hlen:F.length<1099511627776) :
  Ans tab (.fn ck [q,.int .i64 (k:Int),.own b2 0 1 1 1 true]) H fun v H'=>Kp H0 H'/\Bl rowsE af H0 H' v (F.take k++x :: F.drop k)/\(∀ b e,H.get b=some e->(∀ n,q ≠ .own b 0 n n 1 false)->H'.get b=some e)/\(∃ n,v=.own H.next 0 n n 1 false)/\H'.next=H.next+1:=by
 have hle:=hk.le
 have ox:=hx.one
 have hfr:H.get H.next=none:=hk.wf.fresh (Nat.le_refl _)
 have hfirst:aJ H 1 1 (.own b2 0 1 1 1 true)=some [va]:=by simp [aJ,hb2]
 rcases hq with ⟨rfl,rfl⟩ | ⟨b,cells,rfl,hb,hcl,hb0⟩
 ·have hk0:k=0:=by simpa using hkF
  subst hk0
  have hs:Sub H (({ H with next:=H.next+1 }:Heap).put H.next (.cells [va] af true)):=(Sub.bump H 1).put hfr _
  refine uw C.slices_Insert_Sl_api_Vec_api_Vec rfl rfl (v:=.own H.next 0 1 1 1 false) (H':=({ H with next:=H.next+1 }:Heap).put H.next (.cells [va] af true)) ?_ ⟨(hk.up 1).put hle (by show _<H.next+1; omega),.inr ⟨H.next,[va],rfl,aA _ _ _,?_,hle⟩,fun c e hc _=>hs.get _ _ hc,⟨1,rfl⟩,rfl⟩
  ·show rk H (.insert 1 24 af) [.nilSl,.int .i64 (.ofNat 0),.own b2 0 1 1 1 true]=_
   simp [rk,hfirst,ox.2]
  ·exact Cells.one (E:=rowsE) ⟨va,rfl,hx.mono hs⟩
 ·have hl:(F.take k++x :: F.drop k).length=F.length+1:=by simp; omega
  have hbb:b≠b2:=fun e=>hne F.length (by rw [e]; rfl)
  have hlt:=hk.wf _ _ hb
  have hcl1:cells.length=F.length:=by have:=hcl.1; simpa [cB] using this
  have hget:∀ c e,H.get c=some e->c≠b->((({ H with next:=H.next+1 }:Heap).kill b).put H.next (.cells (cells.take (k*1)++[va]++cells.drop (k*1)) af true)).get c=some e:=fun c e hc hcb=>by
   have:=hk.wf _ _ hc
   rw [au (by omega),cH hcb]; exact hc
  have hs:SubT (pE intE aa).tys H ((({ H with next:=H.next+1 }:Heap).kill b).put H.next (.cells (cells.take (k*1)++[va]++cells.drop (k*1)) af true)):=fun c cs t r ht hc=>hget c _ hc fun e=>by
   subst e
   rw [hb] at hc; cases hc
   revert ht; decide
  refine uw C.slices_Insert_Sl_api_Vec_api_Vec rfl rfl (v:=.own H.next 0 (F.length+1) (F.length+1) 1 false) (H':=(({ H with next:=H.next+1 }:Heap).kill b).put H.next (.cells (cells.take (k*1)++[va]++cells.drop (k*1)) af true)) ?_ ⟨((hk.up 1).kill hb0).put hle (by show _<H.next+1; omega),.inr ⟨H.next,_,by rw [hl]; rfl,aA _ _ _,?_,hle⟩,fun c e hc h=>hget c e hc fun e1=>h F.length (by rw [e1]; rfl),⟨_,rfl⟩,rfl⟩
  ·show rk H (.insert 1 24 af) [.own b 0 F.length F.length 1 false,.int .i64 (.ofNat k),.own b2 0 1 1 1 true]=_
   have hones:=hcl.ones
   simp only [rk,hfirst,hb,hb2]
   rw [if_pos ⟨trivial,trivial,hbb,by omega,hkF,by omega,by omega,by omega,trivial,by simp [ox.2],hones⟩]
  ·have h1:=(hcl.mono hs).take hkF
   have h2:=(hcl.mono hs).drop k
   have h3:Cells rowsE ((({ H with next:=H.next+1 }:Heap).kill b).put H.next (.cells (cells.take (k*1)++[va]++cells.drop (k*1)) af true)) [va] [x]:=Cells.one (E:=rowsE) ⟨va,rfl,SlV.monoT (E:=intE) hs hx⟩
   have e:F.take k++[x]++F.drop k=F.take k++x :: F.drop k:=by simp
   rw [<- e]
   exact (h1.append h3).append h2
end
end Go.Proofs.YtboamamhcfhanaaGreat.Ev
