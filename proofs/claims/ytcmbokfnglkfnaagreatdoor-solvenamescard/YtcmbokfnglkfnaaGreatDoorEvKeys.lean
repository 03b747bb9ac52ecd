/- The evaluator, a part. -/
import Derived.Test.YtcmbokfnglkfnaaGreatDoorEvExt
import Derived.Lib.SlKeysI
import Derived.Sort.KeysCollected
import Derived.Maps.Keyed
import Derived.Laws.AppendOwn
import Derived.Below
import Derived.Sort.EncStr
import Derived.StringKeys
namespace Go.Proofs.YtcmbokfnglkfnaaGreatDoor.Ev
open Go
open Go.WideElems (Fit rd rg)
open Go.RowKit (Below)
set_option linter.all false
/-! ### Sorting -/
section
variable {α : Type} {le : α → α → Bool}
theorem agl (x : α) : ∀ l : List α, (insK le x l).Perm (x :: l)
 | [] => .refl _
 | y :: l => by
  unfold insK
  split
  ·exact .refl _
  ·exact ((agl x l).cons y).trans (.swap x y l)
theorem ab8 : ∀ l : List α, (sortK le l).Perm l
 | [] => .refl _
 | x :: l => (agl x _).trans ((ab8 l).cons x)
theorem agf (htr : ∀ a b c, le a b = true → le b c = true → le a c = true) (hto : ∀ a b, le a b = true ∨ le b a = true) (x : α) : ∀ l : List α, l.Pairwise (fun a b => le a b = true) → (insK le x l).Pairwise (fun a b => le a b = true)
 | [], _ => by simp [insK]
 | y :: l, h => by
  unfold insK
  obtain ⟨h1, h2⟩ := List.pairwise_cons.1 h
  split
  ·rename_i hx
   refine List.pairwise_cons.2 ⟨fun z hz => ?_, h⟩
   rcases List.mem_cons.1 hz with rfl | hz
   ·exact hx
   ·exact htr _ _ _ hx (h1 z hz)
  ·rename_i hx
   have hyx : le y x = true := (hto y x).resolve_right hx
   refine List.pairwise_cons.2 ⟨fun z hz => ?_, agf htr hto x l h2⟩
   rcases List.mem_cons.1 ((agl x l).mem_iff.1 hz) with rfl | hz
   ·exact hyx
   ·exact h1 z hz
theorem acs (htr : ∀ a b c, le a b = true → le b c = true → le a c = true) (hto : ∀ a b, le a b = true ∨ le b a = true) : ∀ l : List α, (sortK le l).Pairwise (fun a b => le a b = true)
 | [] => List.Pairwise.nil
 | x :: l => agf htr hto x _ (acs htr hto l)
theorem akz (htr : ∀ a b c, le a b = true → le b c = true → le a c = true) (hto : ∀ a b, le a b = true ∨ le b a = true) (han : ∀ a b, le a b = true → le b a = true → a = b) {l l' : List α} (h : l'.Perm l) : l'.mergeSort le = sortK le l := by
 refine List.Perm.eq_of_pairwise (le := fun a b => le a b = true) (fun a b _ _ h1 h2 => han a b h1 h2) (List.pairwise_mergeSort htr (fun a b => by rcases hto a b with h | h <;> simp [h]) l') (acs htr hto l) (((List.mergeSort_perm l' le).trans h).trans (ab8 l).symm)
theorem ad9 (htr : ∀ a b c, le a b = true → le b c = true → le a c = true) (hto : ∀ a b, le a b = true ∨ le b a = true) : ∀ l : List α, l.Pairwise (fun a b => le a b = true) → ado le l = true → l.Nodup
 | [], _, _ => List.nodup_nil
 | [a], _, _ => by simp
 | a :: b :: l, h, hs => by
  simp only [ado, Bool.and_eq_true, Bool.not_eq_true'] at hs
  obtain ⟨h1, h2⟩ := List.pairwise_cons.1 h
  refine List.nodup_cons.2 ⟨fun hm => ?_, ad9 htr hto _ h2 hs.2⟩
  have : le b a = true := by
   rcases List.mem_cons.1 hm with e | hm
   ·subst e; exact (hto a a).elim id id
   ·exact (List.pairwise_cons.1 h2).1 a hm
  rw [hs.1] at this
  cases this
theorem aks (htr : ∀ a b c, le a b = true → le b c = true → le a c = true) (hto : ∀ a b, le a b = true ∨ le b a = true) {l : List α} (h : ado le (sortK le l) = true) : l.Nodup :=
 (ab8 l).nodup_iff.1 (ad9 htr hto _ (acs htr hto l) h)
end
theorem leI_tr (a b c : Int) (h1 : leI a b = true) (h2 : leI b c = true) : leI a c = true := by simp only [leI, decide_eq_true_eq] at *; omega
theorem leI_to (a b : Int) : leI a b = true ∨ leI b a = true := by simp only [leI, decide_eq_true_eq]; omega
theorem leI_an (a b : Int) (h1 : leI a b = true) (h2 : leI b a = true) : a = b := by simp only [leI, decide_eq_true_eq] at *; omega
/-! ### A new block, among others -/
section
variable {I : Nat → Prop} {P : Program} {μ : Mu} {F : Nat → Prop} {H : Heap} {w w' : World}
theorem hr_below (hH : HR P μ F H w) (hB : Below w.heap.size w w') : HR P μ F H w' ∧ Stp I P μ F H w μ F H w' := by
 have hFw : ∀ c, F c → w'.heap[c]? = w.heap[c]? := fun c hc => hB.block c (hH.fb c hc)
 have hs := hB.size
 refine ⟨⟨fun b L h => ?_, fun c hc => ?_, fun b e h => ?_, hH.inj, fun g cs hg => (hH.gl g cs hg).mono (fun _ _ h => h) (fun _ h => h) hFw⟩,
  ⟨fun _ _ h => h, fun _ h => h, hs, fun c hc _ => hB.block c hc, fun b L hb hL => .inr ⟨b, L, hb, hL, rfl⟩, Nat.le_refl _, fun _ _ _ h => h, fun b L h => .inl ⟨b, L, h, rfl⟩, fun b e h _ _ => ⟨e, h⟩, fun b e L h hL => .inr ⟨b, e, L, h, hL, rfl⟩, hB.tape, hB.os, hB.output⟩⟩
 ·have := hH.dom b L h; exact ⟨this.1, by omega⟩
 ·have := hH.fb c hc; omega
 ·obtain ⟨L, hL, hE⟩ := hH.ent b e h
  exact ⟨L, hL, hE.mono (fun _ _ h => h) (fun _ h => h) hFw (hB.block _ (hH.dom b L hL).2) (fun hr => hE.notF hr)⟩
theorem block_at (hH : HR P μ F H w) {id : Nat} (hid : μ id = none) (hlt : id < H.next) (hI : I id) {arr : Array Value} {cs : List AV} {ty sz gb : Nat} (hty : aac P ty = some sz) (hle : cs.length ≤ arr.size)
  (hcs : ∀ (i : Nat) (c : AV) (v : Value), cs[i]? = some c → arr[i]? = some v → VR μ F w c v) (hB : Below w.heap.size w w') (hg : w.heap.size ≤ gb) (hgb : w'.heap[gb]? = some (.cells arr ty (0, 0))) :
  HR P (μ.upd id ⟨gb, arr.size, sz⟩) F (H.put id (.cells cs ty true)) w' ∧ Stp I P μ F H w (μ.upd id ⟨gb, arr.size, sz⟩) F (H.put id (.cells cs ty true)) w' := by
 have hw : ∀ c, c < w.heap.size → w'.heap[c]? = w.heap[c]? := fun c hc => hB.block c hc
 have hgl := (Array.getElem?_eq_some_iff.1 hgb).1
 have hs := hB.size
 have hnF : ¬ F gb := fun h => by have := hH.fb _ h; omega
 have hFw : ∀ c, F c → w'.heap[c]? = w.heap[c]? := fun c hc => hw c (hH.fb c hc)
 have hnone : ∀ e', H.get id ≠ some e' := fun e' h => by obtain ⟨L, hL, _⟩ := hH.ent id e' h; rw [hid] at hL; cases hL
 refine ⟨⟨?_, ?_, ?_, ?_, fun g cs hg => (hH.gl g cs hg).mono (aaq hid) (fun _ h => h) hFw⟩, ⟨aaq hid, fun _ h => h, hs, fun c hc _ => hw c hc, ?_, Nat.le_refl _, ?_, ?_, ?_, ?_, hB.tape, hB.os, hB.output⟩⟩
 ·intro b L hb
  by_cases e0 : b = id
  ·subst e0; simp at hb; subst hb; exact ⟨hlt, hgl⟩
  ·rw [aab _ e0] at hb
   have := hH.dom b L hb
   exact ⟨this.1, by omega⟩
 ·intro c hc; have := hH.fb c hc; omega
 ·intro b e' hb
  rw [Heap.get_put] at hb
  split at hb
  ·rename_i e0; subst e0; cases hb
   exact ⟨_, upd_same _ _, arr, (0, 0), hgb, rfl, hty, hle, fun i c v hc hv => (hcs i c v hc hv).mono (aaq hid) (fun _ h => h) hFw, fun _ => ⟨hnF, rfl⟩, fun h => by cases h⟩
  ·rename_i e0
   obtain ⟨L, hL, hE⟩ := hH.ent b e' hb
   exact ⟨L, aaq hid _ _ hL, hE.mono (aaq hid) (fun _ h => h) hFw (hw _ (hH.dom b L hL).2) (fun hr => hE.notF hr)⟩
 ·intro b b' e1 e2 L L' hb hb' hL hL' hblk
  rw [Heap.get_put] at hb hb'
  by_cases e0 : b = id
  ·by_cases e0' : b' = id
   ·rw [e0, e0']
   ·subst e0
    simp at hL; subst hL
    rw [aab _ e0'] at hL'
    have := (hH.dom b' L' hL').2
    simp only at hblk; omega
  ·by_cases e0' : b' = id
   ·subst e0'
    simp at hL'; subst hL'
    rw [aab _ e0] at hL
    have := (hH.dom b L hL).2
    simp only at hblk; omega
   ·rw [if_neg e0] at hb; rw [if_neg e0'] at hb'
    rw [aab _ e0] at hL; rw [aab _ e0'] at hL'
    exact hH.inj b b' e1 e2 L L' hb hb' hL hL' hblk
 ·intro b L ⟨e', hb, hr⟩ hL
  rw [Heap.get_put] at hb
  split at hb
  ·rename_i e0; subst e0; simp at hL; subst hL; exact .inl hg
  ·rename_i e0; rw [aab _ e0] at hL; exact .inr ⟨b, L, ⟨e', hb, hr⟩, hL, rfl⟩
 ·intro b hb hi hn
  have : b ≠ id := fun e0 => hi (e0 ▸ hI)
  rw [aab _ this]; exact hn
 ·intro b L hb
  by_cases e0 : b = id
  ·subst e0; simp at hb; subst hb; exact .inr hg
  ·rw [aab _ e0] at hb; exact .inl ⟨b, L, hb, rfl⟩
 ·intro b e' hb _ hi
  rw [Heap.get_put, if_neg (fun e0 : b = id => hi (e0 ▸ hI))] at hb
  exact ⟨e', hb⟩
 ·intro b e' L hb hL
  by_cases e0 : b = id
  ·subst e0; simp at hL; subst hL; exact .inl hg
  ·rw [aab _ e0] at hL; rw [Heap.get_put, if_neg e0] at hb; exact .inr ⟨b, e', L, hb, hL, rfl⟩
theorem ajr {μ' : Mu} {H' : Heap} (h : Stp (fun x => x = H.next) P μ F { H with next := H.next + 1 } w μ' F H' w') : Stp NoI P μ F H w μ' F H' w' :=
 ⟨h.mu, h.fr, h.size, h.keep, h.rw, Nat.le_trans (Nat.le_add_right _ _) h.next, fun b hb _ hn => h.new b (Nat.lt_of_lt_of_le hb (Nat.le_add_right _ _)) (by omega) hn, h.rng,
  fun b e hb hl _ => h.old b e hb (Nat.lt_of_lt_of_le hl (Nat.le_add_right _ _)) (by omega), h.alv, h.tape, h.os, h.out⟩
end
/-! ### A map's keys -/
def RNil : Value → Option (DataW Unit × List MemPlace) := fun _ => some (.nil, [])
section
variable {α : Type} {f : AV → Option α} {enc : α → Value} {good : α → Prop} {μ : Mu} {F : Nat → Prop} {w : World}
theorem aiy (hf : ∀ a x v, f a = some x → VR μ F w a v → v = enc x ∧ good x) : ∀ (es : List (AV × AV)) (vs : List Value) (ks : List α), allK f es = some ks → LR μ F w (es.map (·.1)) vs → vs = ks.map enc ∧ ∀ k ∈ ks, good k
 | [], vs, ks, h, hl => by
  simp only [allK, Option.some.injEq] at h
  subst h
  have h1 := hl.1
  exact ⟨List.eq_nil_of_length_eq_zero (by simpa using h1.symm), by simp⟩
 | (k, x) :: es, [], ks, h, hl => by have := hl.1; simp at this
 | (k, x) :: es, v :: vs, ks, h, hl => by
  simp only [allK] at h
  split at h
  ·rename_i a l ha hl'
   cases h
   obtain ⟨e, g⟩ := hf k a v ha hl.head
   obtain ⟨e2, g2⟩ := aiy hf es vs l hl' hl.tail
   subst e
   subst e2
   refine ⟨rfl, fun y hy => ?_⟩
   rcases List.mem_cons.1 hy with rfl | hy
   ·exact g
   ·exact g2 y hy
  ·cases h
end
theorem amk {H : Heap} {gs : List Nat} {args : List AV} {es : List (AV × AV)} (h : an4 H gs args = some es) :
  ∃ g b mb ty rw e, args = [.fn (.func g) [] [.ptr b 0]] ∧ g ∈ gs ∧ H.get b = some (.cells [.map mb] ty rw) ∧ H.get mb = some e ∧ (e = .map es ∨ e = .mapR es) := by
 unfold an4 at h
 split at h
 ·rename_i g b
  split at h
  ·rename_i hg
   split at h
   ·rename_i mb ty rw hb
    split at h
    ·rename_i es' hm
     cases h
     exact ⟨g, b, mb, ty, rw, _, rfl, by simpa using hg, hb, hm, .inl rfl⟩
    ·rename_i es' hm
     cases h
     exact ⟨g, b, mb, ty, rw, _, rfl, by simpa using hg, hb, hm, .inr rfl⟩
    ·cases h
   ·cases h
  ·cases h
 ·cases h
def afq {α : Type} (P : Program) (S g kt bytes : Nat) (enc : α → Value) (le : α → α → Bool) (keys : DataW Unit → List α) : Prop :=
 ∀ (Bm b nn : Nat) (D0 : DataW Unit) (w : World), Bm < w.heap.size → w.cell? ⟨Bm, 0, none⟩ = some (.map (some b)) → w.ownsMap P kt RNil b nn D0 → Maps.size D0 ≤ maxLen → Maps.size D0 * bytes ≤ 140737488355328 →
  Calls P S #[.func (.func g) #[] #[.pointer (some ⟨Bm, 0, none⟩)]] w fun e w' => ∃ (v : Value) (ss : List α), e = .returned v ∧ ss.Perm (keys D0) ∧
   w'.ownsRow w.heap.size kt 1 v ss.length ((ss.mergeSort le).map enc) ∧ (v = .slice none 0 0 ↔ ss = []) ∧ Below w.heap.size w w'
theorem ane {P : Program} {f : Nat} {fn : Func} {vs : List Value} {w : World} {F : Fence} {rd : Bool} {n : Nat} {R : Value → World → Prop} (hf : P.funcs[f]? = some fn) (hb : fn.body.isSome = true) (hn : fn.name ≠ "runtime.NumGoroutine") (hF : FenceOK F rd)
  (h : Calls P f vs.toArray w fun e w' => ∃ u, e = .returned u ∧ R u w') : Runs F n P ((callFunc f vs.toArray).run P w) R := by
 rw [aa5 hf hb hn]
 unfold Runs
 simp only
 have key : CallsIn Fence.wide n P f vs.toArray w fun e w' => ∃ u, e = .returned u ∧ R u w' := callsIn_wide.2 h
 rcases hF with ⟨_, rfl⟩ | ⟨_, l, rfl⟩
 ·exact key
 ·exact key
section
variable {α : Type} {P : Program} {S kt bytes : Nat} {fn : Func} {str : Bool} {gs : List Nat} {f : AV → Option α} {enc : α → Value} {le : α → α → Bool} {keys : DataW Unit → List α} {av : α → AV} {lit : α → Lit}
theorem ahw (hf : P.funcs[S]? = some fn) (hb : fn.body.isSome = true) (hn : fn.name ≠ "runtime.NumGoroutine") (hsz : aac P kt = some 1) (hby : bytes ≤ 16)
  (htr : ∀ a b c, le a b = true → le b c = true → le a c = true) (hto : ∀ a b, le a b = true ∨ le b a = true) (han : ∀ a b, le a b = true → le b a = true → a = b)
  (hsort : ∀ es cs, aig str es = some cs → ∃ ks, allK f es = some ks ∧ ado le (sortK le ks) = true ∧ cs = (sortK le ks).map av)
  (hval : ∀ (μ : Mu) (F : Nat → Prop) (w : World) a x v, f a = some x → VR μ F w a v → v = enc x ∧ keyOf P kt (enc x) = some (lit x)) (hav : ∀ (μ : Mu) (F : Nat → Prop) (w : World) x, VR μ F w (av x) (enc x)) (hinj : ∀ x y, enc x = enc y → x = y)
  (unlit : Lit → α) (hul : ∀ x, unlit (lit x) = x) (hkeys : ∀ es, keys (.map es) = es.map fun p => unlit p.1) (hC : ∀ g ∈ gs, afq P S g kt bytes enc le keys) : ExtOK P S (.keys str gs kt) := by
 intro H args v H' h μ F w vs fence rdb nn hF hH hl
 have h0 : keysA H str gs kt args = some (v, H') := h
 clear h
 have h := h0
 clear h0
 unfold keysA at h
 split at h
 ·cases h
 rename_i es hes
 split at h
 ·rename_i hlen
  obtain ⟨g, b, mb, ty, rw0, ent, rfl, hg, hgb, hgm, hent⟩ := amk hes
  obtain ⟨L, hL, hE⟩ := hH.ent b _ hgb
  obtain ⟨arr, fr, a1, a2, a3, a4, a5, -, -⟩ := hE
  have ha0 : 0 < arr.size := by have : [AV.map mb].length ≤ arr.size := a4; simp at this; omega
  obtain ⟨v0, hv0⟩ : ∃ v0, arr[0]? = some v0 := ⟨_, Array.getElem?_eq_getElem ha0⟩
  have hv0r := a5 0 _ v0 rfl hv0
  obtain ⟨Lm, hLm, rfl⟩ : ∃ Lm, μ mb = some Lm ∧ v0 = .map (some Lm.blk) := by cases hv0r with | map _ L h => exact ⟨L, h, rfl⟩
  obtain ⟨xs, clock, m1, m2, m3, m4⟩ : ∃ (xs : Array MapEntry) (clock : Nat), w.heap[Lm.blk]? = some (.map xs clock) ∧ LR μ F w (es.map (·.1)) (xs.toList.map (·.key)) ∧ LR μ F w (es.map (·.2)) (xs.toList.map (·.val)) ∧ alg xs.toList clock := by
   obtain ⟨L', hL', hE'⟩ := hH.ent mb _ hgm
   rw [hLm] at hL'; cases hL'
   rcases hent with rfl | rfl
   ·exact hE'.2
   ·exact hE'
  cases hs : aig str es with
  | none => rw [hs] at h; cases h
  | some cs =>
   obtain ⟨ks, k1, k2, rfl⟩ := hsort es cs hs
   obtain ⟨e1, e2⟩ := aiy (enc := enc) (good := fun x => keyOf P kt (enc x) = some (lit x)) (fun a x v ha hv => hval μ F w a x v ha hv) es _ ks k1 m2
   have hkn : ks.Nodup := aks htr hto k2
   have hkl : ks.length = xs.size := by have := congrArg List.length e1; simpa using this.symm
   have hxl : xs.size = es.length := by have := m2.1; simpa using this.symm
   have hread : ∀ x ∈ xs.toList, ∃ k ∈ ks, x.key = enc k ∧ rd P kt RNil x = some (lit k, DataW.nil) := by
    intro x hx
    have : x.key ∈ xs.toList.map (·.key) := List.mem_map_of_mem hx
    rw [e1] at this
    obtain ⟨k, hk, hke⟩ := List.mem_map.1 this
    refine ⟨k, hk, hke.symm, ?_⟩
    unfold rd
    rw [← hke, e2 k hk]
    rfl
   have hfit : Fit P kt RNil xs clock := ⟨by show xs.size ≤ 2 ^ 63 - 1; omega, ⟨m4.1, m4.2, by
    rw [e1]
    exact List.pairwise_map.2 (hkn.imp fun hne e => hne (hinj _ _ e))⟩, fun x hx => by
    obtain ⟨k, hk, _, hr⟩ := hread x hx
    exact ⟨_, hr⟩⟩
   have hown : w.ownsMap P kt RNil Lm.blk xs.size (.map ((xs.toList.map (rg P kt RNil)).foldr DataW.insert [])) := ⟨xs, clock, m1, hfit, Nat.le_refl _, rfl⟩
   have hsize : Maps.size (DataW.map ((xs.toList.map (rg P kt RNil)).foldr DataW.insert [])) ≤ xs.size := hown.size_le
   have hperm : (keys (.map ((xs.toList.map (rg P kt RNil)).foldr DataW.insert []))).Perm ks := by
    rw [hkeys]
    refine ((WideShapes.sorted_perm _).map _).trans ?_
    rw [List.map_map]
    have : xs.toList.map ((fun p : Lit × DataW Unit => unlit p.1) ∘ rg P kt RNil) = ks := by
     have q : (xs.toList.map ((fun p : Lit × DataW Unit => unlit p.1) ∘ rg P kt RNil)).map enc = ks.map enc := by
      rw [← e1, List.map_map]
      refine List.map_congr_left fun x hx => ?_
      obtain ⟨k, hk, hke, hr⟩ := hread x hx
      simp only [Function.comp]
      rw [WideElems.rg_of hr, hke, hul]
     exact (List.map_inj_right fun x y => hinj x y).1 q
    rw [this]
   have hvs : vs = [.func (.func g) #[] #[.pointer (some ⟨L.blk, 0, none⟩)]] := by
    have h1 := hl.1
    match vs, h1 with
    | [x], _ =>
     have hx := hl.head
     cases hx with
     | fn _ _ _ us us' q1 q2 q3 q4 =>
      have u0 : us = #[] := by
       have : us.size = 0 := by simpa using q1.symm
       exact Array.eq_empty_of_size_eq_zero this
      subst u0
      have u1 : us'.size = 1 := by simpa using q3.symm
      have hp := q4 0 _ (us'[0]) rfl (Array.getElem?_eq_getElem (by omega))
      have u2 : us' = #[us'[0]] := by
       apply Array.ext
       ·simp [u1]
       ·intro i h1 h2
        have : i = 0 := by omega
        subst this; rfl
      obtain ⟨L', hL', hp⟩ := aex hp
      rw [hL] at hL'; cases hL'
      rw [u2, hp]
   subst hvs
   have hcell : w.cell? ⟨L.blk, 0, none⟩ = some (.map (some Lm.blk)) := by rw [adj a1]; exact hv0
   refine ane hf hb hn hF ((hC g hg L.blk Lm.blk xs.size _ w (hH.dom b L hL).2 hcell hown (Nat.le_trans hsize hfit.size) (by
     have : Maps.size (DataW.map ((xs.toList.map (rg P kt RNil)).foldr DataW.insert [])) * bytes ≤ 1000000 * 16 := Nat.mul_le_mul (by omega) hby
     omega)).mono ?_)
   rintro e w' ⟨u, ss, rfl, hss, hrow, hnil, hB⟩
   have hms : ss.mergeSort le = sortK le ks := akz htr hto han (hss.trans hperm)
   have hsl : ss.length = ks.length := (hss.trans hperm).length_eq
   have hid : μ H.next = none := aal hH (Nat.le_refl _)
   rw [hms] at hrow
   cases hq : sortK le ks with
   | nil =>
    have hk0 : ks = [] := by have := ab8 (le := le) ks; rw [hq] at this; exact List.nil_perm.1 this
    have hs0 : ss = [] := List.eq_nil_of_length_eq_zero (by rw [hsl, hk0]; rfl)
    rw [hs, hq] at h
    cases h
    have := hnil.2 hs0
    subst this
    obtain ⟨q1, q2⟩ := hr_below (I := fun x => x = H.next) (hH.bump 1) hB
    exact ⟨_, rfl, μ, .nilSl, q1, ajr q2⟩
   | cons c0 cr =>
    have hne : ss ≠ [] := fun e => by
     rw [e] at hsl
     have : ks = [] := List.eq_nil_of_length_eq_zero hsl.symm
     rw [this] at hq; cases hq
    have hh : some (AV.own H.next 0 ((sortK le ks).map av).length ((sortK le ks).map av).length 1 false, ({ H with next := H.next + 1 } : Heap).put H.next (.cells ((sortK le ks).map av) kt true)) = some (v, H') := by
     rw [hs] at h
     rw [hq] at h ⊢
     exact h
    cases hh
    rcases hrow.2 with ⟨rfl, hz⟩ | ⟨gb, cap, cur, rfl, hbase, hcur, r1, r2, r3, r4⟩
    ·exact absurd (hnil.1 rfl) hne
    ·have hkk : ((sortK le ks).map av).length = ss.length := by rw [List.length_map, (ab8 ks).length_eq, hsl]
     rw [Nat.mul_one] at r3 r4
     obtain ⟨q1, q2⟩ := block_at (I := fun x => x = H.next) (hH.bump 1) hid (by show H.next < H.next + 1; omega) rfl (cs := (sortK le ks).map av) hsz (by rw [hkk]; omega) (fun i c x hc hx => by
      rw [List.getElem?_map] at hc
      cases hi : (sortK le ks)[i]? with
      | none => rw [hi] at hc; cases hc
      | some y =>
       rw [hi] at hc
       cases hc
       have hlt : i < ss.length := by rw [← hkk, List.length_map]; exact (List.getElem?_eq_some_iff.1 hi).1
       have : (cur.toList.take ss.length)[i]? = some (enc y) := by rw [r4, List.getElem?_map, hi]; rfl
       rw [List.getElem?_take, if_pos hlt, Array.getElem?_toList, hx] at this
       cases this
       exact hav _ _ _ _) hB hbase hcur
     refine ⟨_, rfl, _, ?_, q1, ajr q2⟩
     rw [hkk]
     exact .own H.next 0 _ _ 1 false _ cap (upd_same _ _) rfl (Nat.le_refl _) r1 (fun h => by cases h) (by simp [r3])
 ·cases h
end
theorem agv {P : Program} {S kt : Nat} {fn : Func} {gs : List Nat} (hf : P.funcs[S]? = some fn) (hb : fn.body.isSome = true) (hn : fn.name ≠ "runtime.NumGoroutine") (hsz : aac P kt = some 1) (hk : P.underlying kt = some (.int .i64))
  (hC : ∀ g ∈ gs, afq P S g kt 8 encZ (fun x y => decide (x ≤ y)) intKeys) : ExtOK P S (.keys false gs kt) := by
 refine ahw (le := leI) (f := aoh) (enc := encZ) (av := AV.int .i64) (lit := Lit.int .i64) (keys := intKeys) (bytes := 8) hf hb hn hsz (by omega) leI_tr leI_to leI_an (fun es cs h => ?_) (fun μ F w a x v ha hv => ?_) (fun μ F w x => .int _ _) (fun x y => encZ_inj) intOf (fun x => rfl) (fun es => rfl) hC
 ·unfold aig at h
  simp only at h
  split at h
  ·rename_i ks hks
   split at h
   ·rename_i hst
    cases h
    exact ⟨ks, hks, hst, rfl⟩
   ·cases h
  ·cases h
 ·unfold aoh at ha
  split at ha
  ·split at ha
   ·rename_i n hr
    cases ha
    cases hv
    refine ⟨rfl, Maps.keyOf_int_mk hk ?_⟩
    simp only [Lit.wf, Bool.and_eq_true, decide_eq_true_eq]
    have e1 : IntKind.i64.min = -9223372036854775808 := by decide
    have e2 : IntKind.i64.max = 9223372036854775807 := by decide
    rw [e1, e2]
    exact hr
   ·cases ha
  ·cases ha
end Go.Proofs.YtcmbokfnglkfnaaGreatDoor.Ev
