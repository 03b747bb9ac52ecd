/- The evaluator, a part. -/
import Derived.Test.YtopigipibioclaaGreatDoorEvExt
import Derived.Lib.SlKeysI
import Derived.Sort.KeysCollected
import Derived.Maps.Keyed
import Derived.Laws.AppendOwn
import Derived.Below
import Derived.Sort.EncStr
import Derived.StringKeys
namespace Go.Proofs.YtopigipibioclaaGreatDoor.Ev
open Go
open Go.WideElems (Fit rd rg)
open Go.RowKit (Below)
set_option linter.all false
/-! ### Sorting -/
section
variable {α : Type} {le : α → α → Bool}
theorem afv (x : α) : ∀ l : List α, (n4 le x l).Perm (x :: l)
 | [] => .refl _
 | y :: l => by
  unfold n4
  split
  ·exact .refl _
  ·exact ((afv x l).cons y).trans (.swap x y l)
theorem XZ : ∀ l : List α, (fI le l).Perm l
 | [] => .refl _
 | x :: l => (afv x _).trans ((XZ l).cons x)
theorem agr (e : ∀ a b c, le a b = true → le b c = true → le a c = true) (d : ∀ a b, le a b = true ∨ le b a = true) (x : α) : ∀ l : List α, l.Pairwise (fun a b => le a b = true) → (n4 le x l).Pairwise (fun a b => le a b = true)
 | [], _ => by simp [n4]
 | y :: l, h => by
  unfold n4
  obtain ⟨h1, h2⟩ := List.pairwise_cons.1 h
  split
  ·rename_i hx
   refine List.pairwise_cons.2 ⟨fun z hz => ?_, h⟩
   rcases List.mem_cons.1 hz with rfl | hz
   ·exact hx
   ·exact e _ _ _ hx (h1 z hz)
  ·rename_i hx
   have f : le y x = true := (d y x).resolve_right hx
   refine List.pairwise_cons.2 ⟨fun z hz => ?_, agr e d x l h2⟩
   rcases List.mem_cons.1 ((afv x l).mem_iff.1 hz) with rfl | hz
   ·exact f
   ·exact h1 z hz
theorem acy (e : ∀ a b c, le a b = true → le b c = true → le a c = true) (d : ∀ a b, le a b = true ∨ le b a = true) : ∀ l : List α, (fI le l).Pairwise (fun a b => le a b = true)
 | [] => List.Pairwise.nil
 | x :: l => agr e d x _ (acy e d l)
theorem ak5 (f : ∀ a b c, le a b = true → le b c = true → le a c = true) (e : ∀ a b, le a b = true ∨ le b a = true) (g : ∀ a b, le a b = true → le b a = true → a = b) {l d : List α} (h : d.Perm l) : d.mergeSort le = fI le l := by
 refine List.Perm.eq_of_pairwise (le := fun a b => le a b = true) (fun a b _ _ h1 h2 => g a b h1 h2) (List.pairwise_mergeSort f (fun a b => by rcases e a b with h | h <;> simp [h]) d) (acy f e l) (((List.mergeSort_perm d le).trans h).trans (XZ l).symm)
theorem adz (f : ∀ a b c, le a b = true → le b c = true → le a c = true) (d : ∀ a b, le a b = true ∨ le b a = true) : ∀ l : List α, l.Pairwise (fun a b => le a b = true) → Cc le l = true → l.Nodup
 | [], _, _ => List.nodup_nil
 | [a], _, _ => by simp
 | a :: b :: l, h, hs => by
  simp only [Cc, Bool.and_eq_true, Bool.not_eq_true'] at hs
  obtain ⟨h1, h2⟩ := List.pairwise_cons.1 h
  refine List.nodup_cons.2 ⟨fun hm => ?_, adz f d _ h2 hs.2⟩
  have : le b a = true := by
   rcases List.mem_cons.1 hm with e | hm
   ·subst e; exact (d a a).elim id id
   ·exact (List.pairwise_cons.1 h2).1 a hm
  rw [hs.1] at this
  cases this
theorem aki (e : ∀ a b c, le a b = true → le b c = true → le a c = true) (d : ∀ a b, le a b = true ∨ le b a = true) {l : List α} (h : Cc le (fI le l) = true) : l.Nodup :=
 (XZ l).nodup_iff.1 (adz e d _ (acy e d l) h)
end
theorem zt (a b c : Int) (h1 : pg a b = true) (h2 : pg b c = true) : pg a c = true := by simp only [pg, decide_eq_true_eq] at *; omega
theorem zu (a b : Int) : pg a b = true ∨ pg b a = true := by simp only [pg, decide_eq_true_eq]; omega
theorem zw (a b : Int) (h1 : pg a b = true) (h2 : pg b a = true) : a = b := by simp only [pg, decide_eq_true_eq] at *; omega
/-! ### A new block, among others -/
section
variable {I : Nat → Prop} {P : Program} {μ : Mu} {F : Nat → Prop} {H : Heap} {w w' : World}
theorem rY (hH : HR P μ F H w) (a : Below w.heap.size w w') : HR P μ F H w' ∧ Stp I P μ F H w μ F H w' := by
 have f : ∀ c, F c → w'.heap[c]? = w.heap[c]? := fun c hc => a.block c (hH.fb c hc)
 have hs := a.size
 refine ⟨⟨fun b L h => ?_, fun c hc => ?_, fun b e h => ?_, hH.inj, fun g cs hg => (hH.gl g cs hg).mono (fun _ _ h => h) (fun _ h => h) f⟩,
  ⟨fun _ _ h => h, fun _ h => h, hs, fun c hc _ => a.block c hc, fun b L hb hL => .inr ⟨b, L, hb, hL, rfl⟩, Nat.le_refl _, fun _ _ _ h => h, fun b L h => .inl ⟨b, L, h, rfl⟩, fun b e h _ _ => ⟨e, h⟩, fun b e L h hL => .inr ⟨b, e, L, h, hL, rfl⟩, a.tape, a.os, a.output⟩⟩
 ·have := hH.dom b L h; exact ⟨this.1, by omega⟩
 ·have := hH.fb c hc; omega
 ·obtain ⟨L, hL, d⟩ := hH.ent b e h
  exact ⟨L, hL, d.mono (fun _ _ h => h) (fun _ h => h) f (a.block _ (hH.dom b L hL).2) (fun hr => d.notF hr)⟩
theorem tT (hH : HR P μ F H w) {id : Nat} (d : μ id = none) (r : id < H.next) (n : I id) {arr : Array Value} {cs : List AV} {ty sz e : Nat} (hty : gz P ty = some sz) (q : cs.length ≤ arr.size)
  (hcs : ∀ (i : Nat) (c : AV) (v : Value), cs[i]? = some c → arr[i]? = some v → VR μ F w c v) (f : Below w.heap.size w w') (hg : w.heap.size ≤ e) (o : w'.heap[e]? = some (.cells arr ty (0, 0))) :
  HR P (μ.upd id ⟨e, arr.size, sz⟩) F (H.put id (.cells cs ty true)) w' ∧ Stp I P μ F H w (μ.upd id ⟨e, arr.size, sz⟩) F (H.put id (.cells cs ty true)) w' := by
 have l : ∀ c, c < w.heap.size → w'.heap[c]? = w.heap[c]? := fun c hc => f.block c hc
 have p := (Array.getElem?_eq_some_iff.1 o).1
 have hs := f.size
 have s : ¬ F e := fun h => by have := hH.fb _ h; omega
 have j : ∀ c, F c → w'.heap[c]? = w.heap[c]? := fun c hc => l c (hH.fb c hc)
 have t : ∀ e', H.get id ≠ some e' := fun e' h => by obtain ⟨L, hL, _⟩ := hH.ent id e' h; rw [d] at hL; cases hL
 refine ⟨⟨?_, ?_, ?_, ?_, fun g cs hg => (hH.gl g cs hg).mono (l8 d) (fun _ h => h) j⟩, ⟨l8 d, fun _ h => h, hs, fun c hc _ => l c hc, ?_, Nat.le_refl _, ?_, ?_, ?_, ?_, f.tape, f.os, f.output⟩⟩
 ·intro b L hb
  by_cases e0 : b = id
  ·subst e0; simp at hb; subst hb; exact ⟨r, p⟩
  ·rw [i4 _ e0] at hb
   have := hH.dom b L hb
   exact ⟨this.1, by omega⟩
 ·intro c hc; have := hH.fb c hc; omega
 ·intro b e' hb
  rw [Heap.get_put] at hb
  split at hb
  ·rename_i e0; subst e0; cases hb
   exact ⟨_, upd_same _ _, arr, (0, 0), o, rfl, hty, q, fun i c v hc hv => (hcs i c v hc hv).mono (l8 d) (fun _ h => h) j, fun _ => ⟨s, rfl⟩, fun h => by cases h⟩
  ·rename_i e0
   obtain ⟨L, hL, m⟩ := hH.ent b e' hb
   exact ⟨L, l8 d _ _ hL, m.mono (l8 d) (fun _ h => h) j (l _ (hH.dom b L hL).2) (fun hr => m.notF hr)⟩
 ·intro b b' e1 e2 L L' hb k hL hL' hblk
  rw [Heap.get_put] at hb k
  by_cases e0 : b = id
  ·by_cases a : b' = id
   ·rw [e0, a]
   ·subst e0
    simp at hL; subst hL
    rw [i4 _ a] at hL'
    have := (hH.dom b' L' hL').2
    simp only at hblk; omega
  ·by_cases a : b' = id
   ·subst a
    simp at hL'; subst hL'
    rw [i4 _ e0] at hL
    have := (hH.dom b L hL).2
    simp only at hblk; omega
   ·rw [if_neg e0] at hb; rw [if_neg a] at k
    rw [i4 _ e0] at hL; rw [i4 _ a] at hL'
    exact hH.inj b b' e1 e2 L L' hb k hL hL' hblk
 ·intro b L ⟨e', hb, hr⟩ hL
  rw [Heap.get_put] at hb
  split at hb
  ·rename_i e0; subst e0; simp at hL; subst hL; exact .inl hg
  ·rename_i e0; rw [i4 _ e0] at hL; exact .inr ⟨b, L, ⟨e', hb, hr⟩, hL, rfl⟩
 ·intro b hb hi hn
  have : b ≠ id := fun e0 => hi (e0 ▸ n)
  rw [i4 _ this]; exact hn
 ·intro b L hb
  by_cases e0 : b = id
  ·subst e0; simp at hb; subst hb; exact .inr hg
  ·rw [i4 _ e0] at hb; exact .inl ⟨b, L, hb, rfl⟩
 ·intro b e' hb _ hi
  rw [Heap.get_put, if_neg (fun e0 : b = id => hi (e0 ▸ n))] at hb
  exact ⟨e', hb⟩
 ·intro b e' L hb hL
  by_cases e0 : b = id
  ·subst e0; simp at hL; subst hL; exact .inl hg
  ·rw [i4 _ e0] at hL; rw [Heap.get_put, if_neg e0] at hb; exact .inr ⟨b, e', L, hb, hL, rfl⟩
theorem aj1 {μ' : Mu} {H' : Heap} (h : Stp (fun x => x = H.next) P μ F { H with next := H.next + 1 } w μ' F H' w') : Stp fB P μ F H w μ' F H' w' :=
 ⟨h.mu, h.fr, h.size, h.keep, h.rw, Nat.le_trans (Nat.le_add_right _ _) h.next, fun b hb _ hn => h.new b (Nat.lt_of_lt_of_le hb (Nat.le_add_right _ _)) (by omega) hn, h.rng,
  fun b e hb hl _ => h.old b e hb (Nat.lt_of_lt_of_le hl (Nat.le_add_right _ _)) (by omega), h.alv, h.tape, h.os, h.out⟩
end
/-! ### A map's keys -/
def lW : Value → Option (DataW Unit × List MemPlace) := fun _ => some (.nil, [])
section
variable {α : Type} {f : AV → Option α} {enc : α → Value} {good : α → Prop} {μ : Mu} {F : Nat → Prop} {w : World}
theorem aiz (hf : ∀ a x v, f a = some x → VR μ F w a v → v = enc x ∧ good x) : ∀ (es : List (AV × AV)) (vs : List Value) (b : List α), o4 f es = some b → LR μ F w (es.map (·.1)) vs → vs = b.map enc ∧ ∀ k ∈ b, good k
 | [], vs, b, h, hl => by
  simp only [o4, Option.some.injEq] at h
  subst h
  have h1 := hl.1
  exact ⟨List.eq_nil_of_length_eq_zero (by simpa using h1.symm), by simp⟩
 | (k, x) :: es, [], b, h, hl => by have := hl.1; simp at this
 | (k, x) :: es, v :: vs, b, h, hl => by
  simp only [o4] at h
  split at h
  ·rename_i a l ha d
   cases h
   obtain ⟨e, g⟩ := hf k a v ha hl.head
   obtain ⟨e2, c⟩ := aiz hf es vs l d hl.tail
   subst e
   subst e2
   refine ⟨rfl, fun y hy => ?_⟩
   rcases List.mem_cons.1 hy with rfl | hy
   ·exact g
   ·exact c y hy
  ·cases h
end
theorem am7 {H : Heap} {gs : List Nat} {args : List AV} {es : List (AV × AV)} (h : aot H gs args = some es) :
  ∃ g b mb ty rw e, args = [.fn (.func g) [] [.ptr b 0]] ∧ g ∈ gs ∧ H.get b = some (.cells [.map mb] ty rw) ∧ H.get mb = some e ∧ (e = .map es ∨ e = .mapR es) := by
 unfold aot at h
 split at h
 ·rename_i g b
  split at h
  ·rename_i hg
   split at h
   ·rename_i mb ty rw hb
    split at h
    ·rename_i a hm
     cases h
     exact ⟨g, b, mb, ty, rw, _, rfl, by simpa using hg, hb, hm, .inl rfl⟩
    ·rename_i a hm
     cases h
     exact ⟨g, b, mb, ty, rw, _, rfl, by simpa using hg, hb, hm, .inr rfl⟩
    ·cases h
   ·cases h
  ·cases h
 ·cases h
def afw {α : Type} (P : Program) (S g kt bytes : Nat) (enc : α → Value) (le : α → α → Bool) (keys : DataW Unit → List α) : Prop :=
 ∀ (Bm b nn : Nat) (D0 : DataW Unit) (w : World), Bm < w.heap.size → w.cell? ⟨Bm, 0, none⟩ = some (.map (some b)) → w.ownsMap P kt lW b nn D0 → Maps.size D0 ≤ maxLen → Maps.size D0 * bytes ≤ 140737488355328 →
  Calls P S #[.func (.func g) #[] #[.pointer (some ⟨Bm, 0, none⟩)]] w fun e w' => ∃ (v : Value) (ss : List α), e = .returned v ∧ ss.Perm (keys D0) ∧
   w'.ownsRow w.heap.size kt 1 v ss.length ((ss.mergeSort le).map enc) ∧ (v = .slice none 0 0 ↔ ss = []) ∧ Below w.heap.size w w'
theorem amv {P : Program} {f : Nat} {fn : Func} {vs : List Value} {w : World} {F : Fence} {rd : Bool} {n : Nat} {R : Value → World → Prop} (hf : P.funcs[f]? = some fn) (hb : fn.body.isSome = true) (hn : fn.name ≠ "runtime.NumGoroutine") (hF : FenceOK F rd)
  (h : Calls P f vs.toArray w fun e w' => ∃ u, e = .returned u ∧ R u w') : Runs F n P ((callFunc f vs.toArray).run P w) R := by
 rw [xL hf hb hn]
 unfold Runs
 simp only
 have key : CallsIn Fence.wide n P f vs.toArray w fun e w' => ∃ u, e = .returned u ∧ R u w' := callsIn_wide.2 h
 rcases hF with ⟨_, rfl⟩ | ⟨_, l, rfl⟩
 ·exact key
 ·exact key
section
variable {α : Type} {P : Program} {S kt bytes : Nat} {fn : Func} {str : Bool} {gs : List Nat} {f : AV → Option α} {enc : α → Value} {le : α → α → Bool} {keys : DataW Unit → List α} {av : α → AV} {lit : α → Lit}
theorem ahx (hf : P.funcs[S]? = some fn) (hb : fn.body.isSome = true) (hn : fn.name ≠ "runtime.NumGoroutine") (hsz : gz P kt = some 1) (af : bytes ≤ 16)
  (O : ∀ a b c, le a b = true → le b c = true → le a c = true) (N : ∀ a b, le a b = true ∨ le b a = true) (ab : ∀ a b, le a b = true → le b a = true → a = b)
  (ay : ∀ es cs, Yz str es = some cs → ∃ d, o4 f es = some d ∧ Cc le (fI le d) = true ∧ cs = (fI le d).map av)
  (aB : ∀ (μ : Mu) (F : Nat → Prop) (w : World) a x v, f a = some x → VR μ F w a v → v = enc x ∧ keyOf P kt (enc x) = some (lit x)) (ad : ∀ (μ : Mu) (F : Nat → Prop) (w : World) x, VR μ F w (av x) (enc x)) (D : ∀ x y, enc x = enc y → x = y)
  (r : Lit → α) (az : ∀ x, r (lit x) = x) (ap : ∀ es, keys (.map es) = es.map fun p => r p.1) (X : ∀ g ∈ gs, afw P S g kt bytes enc le keys) : iB P S (.keys str gs kt) := by
 intro H args v H' h μ F w vs fence aF nn hF hH hl
 have h0 : mW H str gs kt args = some (v, H') := h
 clear h
 have h := h0
 clear h0
 unfold mW at h
 split at h
 ·cases h
 rename_i es aj
 split at h
 ·rename_i hlen
  obtain ⟨g, b, mb, ty, aG, ent, rfl, hg, ak, al, ai⟩ := am7 aj
  obtain ⟨L, hL, Y⟩ := hH.ent b _ ak
  obtain ⟨arr, fr, a1, a2, a3, a4, a5, -, -⟩ := Y
  have aa : 0 < arr.size := by have : [AV.map mb].length ≤ arr.size := a4; simp at this; omega
  obtain ⟨v0, Q⟩ : ∃ v0, arr[0]? = some v0 := ⟨_, Array.getElem?_eq_getElem aa⟩
  have aA := a5 0 _ v0 rfl Q
  obtain ⟨j, Z, rfl⟩ : ∃ j, μ mb = some j ∧ v0 = .map (some j.blk) := by cases aA with | map _ L h => exact ⟨L, h, rfl⟩
  obtain ⟨xs, clock, m1, R, m3, T⟩ : ∃ (xs : Array MapEntry) (clock : Nat), w.heap[j.blk]? = some (.map xs clock) ∧ LR μ F w (es.map (·.1)) (xs.toList.map (·.key)) ∧ LR μ F w (es.map (·.2)) (xs.toList.map (·.val)) ∧ Yf xs.toList clock := by
   obtain ⟨L', hL', B⟩ := hH.ent mb _ al
   rw [Z] at hL'; cases hL'
   rcases ai with rfl | rfl
   ·exact B.2
   ·exact B
  cases hs : Yz str es with
  | none => rw [hs] at h; cases h
  | some cs =>
   obtain ⟨d, k1, k2, rfl⟩ := ay es cs hs
   obtain ⟨e1, e2⟩ := aiz (enc := enc) (good := fun x => keyOf P kt (enc x) = some (lit x)) (fun a x v ha hv => aB μ F w a x v ha hv) es _ d k1 R
   have aq : d.Nodup := aki O N k2
   have aD : d.length = xs.size := by have := congrArg List.length e1; simpa using this.symm
   have aE : xs.size = es.length := by have := R.1; simpa using this.symm
   have J : ∀ x ∈ xs.toList, ∃ k ∈ d, x.key = enc k ∧ rd P kt lW x = some (lit k, DataW.nil) := by
    intro x hx
    have : x.key ∈ xs.toList.map (·.key) := List.mem_map_of_mem hx
    rw [e1] at this
    obtain ⟨k, hk, m⟩ := List.mem_map.1 this
    refine ⟨k, hk, m.symm, ?_⟩
    unfold rd
    rw [← m, e2 k hk]
    rfl
   have C : Fit P kt lW xs clock := ⟨by show xs.size ≤ 2 ^ 63 - 1; omega, ⟨T.1, T.2, by
    rw [e1]
    exact List.pairwise_map.2 (aq.imp fun z e => z (D _ _ e))⟩, fun x hx => by
    obtain ⟨k, hk, _, hr⟩ := J x hx
    exact ⟨_, hr⟩⟩
   have hown : w.ownsMap P kt lW j.blk xs.size (.map ((xs.toList.map (rg P kt lW)).foldr DataW.insert [])) := ⟨xs, clock, m1, C, Nat.le_refl _, rfl⟩
   have ax : Maps.size (DataW.map ((xs.toList.map (rg P kt lW)).foldr DataW.insert [])) ≤ xs.size := hown.size_le
   have G : (keys (.map ((xs.toList.map (rg P kt lW)).foldr DataW.insert []))).Perm d := by
    rw [ap]
    refine ((WideShapes.sorted_perm _).map _).trans ?_
    rw [List.map_map]
    have : xs.toList.map ((fun p : Lit × DataW Unit => r p.1) ∘ rg P kt lW) = d := by
     have q : (xs.toList.map ((fun p : Lit × DataW Unit => r p.1) ∘ rg P kt lW)).map enc = d.map enc := by
      rw [← e1, List.map_map]
      refine List.map_congr_left fun x hx => ?_
      obtain ⟨k, hk, m, hr⟩ := J x hx
      simp only [Function.comp]
      rw [WideElems.rg_of hr, m, az]
     exact (List.map_inj_right fun x y => D x y).1 q
    rw [this]
   have aC : vs = [.func (.func g) #[] #[.pointer (some ⟨L.blk, 0, none⟩)]] := by
    have h1 := hl.1
    match vs, h1 with
    | [x], _ =>
     have hx := hl.head
     cases hx with
     | fn _ _ _ us s l o q3 q4 =>
      have u0 : us = #[] := by
       have : us.size = 0 := by simpa using l.symm
       exact Array.eq_empty_of_size_eq_zero this
      subst u0
      have u1 : s.size = 1 := by simpa using q3.symm
      have hp := q4 0 _ (s[0]) rfl (Array.getElem?_eq_getElem (by omega))
      have u2 : s = #[s[0]] := by
       apply Array.ext
       ·simp [u1]
       ·intro i h1 h2
        have : i = 0 := by omega
        subst this; rfl
      obtain ⟨L', hL', hp⟩ := CH hp
      rw [hL] at hL'; cases hL'
      rw [u2, hp]
   subst aC
   have ag : w.cell? ⟨L.blk, 0, none⟩ = some (.map (some j.blk)) := by rw [Cd a1]; exact Q
   refine amv hf hb hn hF ((X g hg L.blk j.blk xs.size _ w (hH.dom b L hL).2 ag hown (Nat.le_trans ax C.size) (by
     have : Maps.size (DataW.map ((xs.toList.map (rg P kt lW)).foldr DataW.insert [])) * bytes ≤ 1000000 * 16 := Nat.mul_le_mul (by omega) af
     omega)).mono ?_)
   rintro e w' ⟨u, ss, rfl, M, K, E, A⟩
   have au : ss.mergeSort le = fI le d := ak5 O N ab (M.trans G)
   have n : ss.length = d.length := (M.trans G).length_eq
   have am : μ H.next = none := pB hH (Nat.le_refl _)
   rw [au] at K
   cases hq : fI le d with
   | nil =>
    have ao : d = [] := by have := XZ (le := le) d; rw [hq] at this; exact List.nil_perm.1 this
    have aw : ss = [] := List.eq_nil_of_length_eq_zero (by rw [n, ao]; rfl)
    rw [hs, hq] at h
    cases h
    have := E.2 aw
    subst this
    obtain ⟨l, o⟩ := rY (I := fun x => x = H.next) (hH.bump 1) A
    exact ⟨_, rfl, μ, .nilSl, l, aj1 o⟩
   | cons c0 cr =>
    have z : ss ≠ [] := fun e => by
     rw [e] at n
     have : d = [] := List.eq_nil_of_length_eq_zero n.symm
     rw [this] at hq; cases hq
    have hh : some (AV.own H.next 0 ((fI le d).map av).length ((fI le d).map av).length 1 false, ({ H with next := H.next + 1 } : Heap).put H.next (.cells ((fI le d).map av) kt true)) = some (v, H') := by
     rw [hs] at h
     rw [hq] at h ⊢
     exact h
    cases hh
    rcases K.2 with ⟨rfl, hz⟩ | ⟨gb, cap, W, rfl, ae, ah, r1, r2, U, V⟩
    ·exact absurd (E.1 rfl) z
    ·have t : ((fI le d).map av).length = ss.length := by rw [List.length_map, (XZ d).length_eq, n]
     rw [Nat.mul_one] at U V
     obtain ⟨l, o⟩ := tT (I := fun x => x = H.next) (hH.bump 1) am (by show H.next < H.next + 1; omega) rfl (cs := (fI le d).map av) hsz (by rw [t]; omega) (fun i c x hc hx => by
      rw [List.getElem?_map] at hc
      cases hi : (fI le d)[i]? with
      | none => rw [hi] at hc; cases hc
      | some y =>
       rw [hi] at hc
       cases hc
       have ar : i < ss.length := by rw [← t, List.length_map]; exact (List.getElem?_eq_some_iff.1 hi).1
       have : (W.toList.take ss.length)[i]? = some (enc y) := by rw [V, List.getElem?_map, hi]; rfl
       rw [List.getElem?_take, if_pos ar, Array.getElem?_toList, hx] at this
       cases this
       exact ad _ _ _ _) A ae ah
     refine ⟨_, rfl, _, ?_, l, aj1 o⟩
     rw [t]
     exact .own H.next 0 _ _ 1 false _ cap (upd_same _ _) rfl (Nat.le_refl _) r1 (fun h => by cases h) (by simp [U])
 ·cases h
end
theorem agu {P : Program} {S kt : Nat} {fn : Func} {gs : List Nat} (hf : P.funcs[S]? = some fn) (hb : fn.body.isSome = true) (hn : fn.name ≠ "runtime.NumGoroutine") (hsz : gz P kt = some 1) (hk : P.underlying kt = some (.int .i64))
  (b : ∀ g ∈ gs, afw P S g kt 8 encZ (fun x y => decide (x ≤ y)) intKeys) : iB P S (.keys false gs kt) := by
 refine ahx (le := pg) (f := aoe) (enc := encZ) (av := AV.int .i64) (lit := Lit.int .i64) (keys := intKeys) (bytes := 8) hf hb hn hsz (by omega) zt zu zw (fun es cs h => ?_) (fun μ F w a x v ha hv => ?_) (fun μ F w x => .int _ _) (fun x y => encZ_inj) intOf (fun x => rfl) (fun es => rfl) b
 ·unfold Yz at h
  simp only at h
  split at h
  ·rename_i d c
   split at h
   ·rename_i hst
    cases h
    exact ⟨d, c, hst, rfl⟩
   ·cases h
  ·cases h
 ·unfold aoe at ha
  split at ha
  ·split at ha
   ·rename_i n hr
    cases ha
    cases hv
    refine ⟨rfl, Maps.keyOf_int_mk hk ?_⟩
    simp only [Lit.wf, Bool.and_eq_true, decide_eq_true_eq]
    have e1 : IntKind.i64.min = -9223372036854775808 := by decide
    have e2 : IntKind.i64.max = 9223372036854775807 := by decide
    rw [e1, e2]
    exact hr
   ·cases ha
  ·cases ha
end Go.Proofs.YtopigipibioclaaGreatDoor.Ev
