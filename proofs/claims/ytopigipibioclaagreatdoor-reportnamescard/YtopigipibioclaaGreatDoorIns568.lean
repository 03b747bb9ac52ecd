/- The evaluator, a part. -/
import Derived.Test.YtopigipibioclaaGreatDoorProg
import Derived.Test.YtopigipibioclaaGreatDoorEvExt
import Derived.WalkKit
import Derived.Lib.Walk
import Derived.Lib.SliceRun
import Derived.Lib.JoinLaws
import Derived.Lib.AppendZeros
import Derived.Lib.AppendZerosOnto
import Derived.Lib.Overlaps
import Derived.Laws.Externs
import Derived.Laws.IdiomCopy
import Derived.Laws.NewBlocks
import Derived.Shelf.RegionOpenPlain
import Derived.KernelRfl
namespace Go.Proofs.YtopigipibioclaaGreatDoor.Ins568
open Go Go.RowKit Go.Lib Go.Proofs
set_option linter.all false
variable {P : Program}
theorem tS : Tryz.prog.underlying 496 = some (.slice 289) := by kernel_rfl
theorem iE : (Tryz.prog.info? 289).map (fun i => (i.zero, i.size, i.bytes)) = some (some (Value.slice none 0 0), 1, 24) := by kernel_rfl
theorem zE : ∀ w, (Go.sizeOf 289).run Tryz.prog w = .ok 1 w := fun w => by
 obtain ⟨a, hi, h0, h1, h2⟩ := info_parts iE
 simp [Go.sizeOf, typeInfo, hi, h1]
theorem tI : Tryz.prog.underlying 3 = some (.int .i64) := by kernel_rfl
theorem Yj : Tryz.prog.follows .mixedOrders = true := by kernel_rfl
theorem aji (w : World) {o : Oper} {a : Act} {K : Act → World → Prop} {Q : Exit → Act → World → Prop} (d s : Operand) (t t' : TypeId)
  (c : o.op = .call { callee := .builtin .copy, args := #[d, s], argTypes := #[t, t'] }) (v u : Value) (hd : a.eval d = v) (hs : a.eval s = u) {b : Value} {w' : World}
  (hr : (Builtin.copy_ #[t, t'] o.type #[v, u]).run P w = .ok b w') (h : K (a.put o.dst b) w') : o.wp P a w K Q := by
 unfold Oper.wp execOp
 simp only [c, resolve, invoke, builtin, Sem.run_bind, Sem.run_pure, Result.andThen_ok, List.map_toArray, List.map_cons, List.map_nil, hd, hs, hr]
 exact h
theorem abf (w : World) {ops : Array Oper} {rest : List Oper} {o : Oper} {a : Act} {Q : Exit → Act → World → Prop} (e : o.guard = none) (d s : Operand) (t t' : TypeId)
  (f : o.op = .call { callee := .builtin .copy, args := #[d, s], argTypes := #[t, t'] }) (v u : Value) (hd : a.eval d = v) (hs : a.eval s = u) {b : Value} {w' : World}
  (hr : (Builtin.copy_ #[t, t'] o.type #[v, u]).run P w = .ok b w') (h : wpList P ops Q rest (a.put o.dst b) w') : wpList P ops Q (o :: rest) a w :=
 wpList_plain e fun _ c => aji w d s t t' f v u hd hs hr (c _ _ h)
theorem adg {ops : Array Oper} {o : Oper} {a : Act} {w : World} {K : Act → World → Prop} {Q : Exit → Act → World → Prop} {E : Prop}
  (hg : o.guard = none) (d x : Operand) (b c : TypeId) (hop : o.op = Op.call { callee := Callee.builtin Builtin.copy, args := #[d, x], argTypes := #[b, c] })
  (v u : Value) (hd : a.eval d = v) (hx : a.eval x = u) {e : Value} {w' : World} (hr : (Builtin.copy_ #[b, c] o.type #[v, u]).run P w = .ok e w') (f : K (a.put o.dst e) w') :
  if Region.wanted o (yielded ops a.tmps) = true then Oper.wp P o a w K Q else E := by
 have g : Region.wanted o (yielded ops a.tmps) = true := by simp [Region.wanted, hg]
 rw [if_pos g]
 unfold Oper.wp
 simp [execOp, hop, resolve, invoke, builtin, hd, hx, hr, Result.andThen]
 exact f
theorem ac2 (b : Nat) (vs : List Value) (o : Nat) (w : World) (h : ∀ j, j < vs.length → (w.cell? ⟨b, o + j, none⟩).isSome = true) (k : Nat) (hk : (w.cell? ⟨b, k, none⟩).isSome = true) : ((w.setCells b o vs).cell? ⟨b, k, none⟩).isSome = true := by
 by_cases a : o ≤ k ∧ k < o + vs.length
 ·have := World.cell?_setCells_in b vs o w h (k - o) (by omega)
  rw [show o + (k - o) = k by omega] at this
  rw [this]; rfl
 ·rw [World.cell?_setCells_out b vs o w ⟨b, k, none⟩ (fun _ _ => by show k < o ∨ o + vs.length ≤ k; omega)]
  exact hk
set_option maxHeartbeats 4000000 in
set_option maxRecDepth 100000 in
theorem shift (b off n c i a f m o : Nat) (cs vs : List Value) (w : World) (hi : i < n) (hm : 0 < m) (aa : n + m ≤ c) (Y : n + m ≤ 9223372036854775807) (B : a ≠ b)
  (hcl : cs.length = n) (R : vs.length = m)
  (hcs : ∀ j v, cs[j]? = some v → w.cell? ⟨b, off + j, none⟩ = some v) (q : ∀ j, j < n + m → (w.cell? ⟨b, off + j, none⟩).isSome = true) (A : ∀ j, j < n + m → w.frozen? ⟨b, off + j, none⟩ = false)
  (S : ∀ j v, vs[j]? = some v → w.cell? ⟨a, f + j, none⟩ = some v) (E : ∀ v ∈ cs, v.oneCell' = true) (F : ∀ v ∈ vs, v.oneCell' = true)
  (C D : TypeId) (r s : Nat) (O : w.shape? a = some (C, r)) (P : w.shape? b = some (D, s)) (M : s ≠ 0) (J : w.frozen? ⟨a, f, none⟩ = false) (K : w.frozen? ⟨a, r, none⟩ = false) :
  Calls Tryz.prog 568 #[.slice (some ⟨b, off, none⟩) n c, .int .i64 i, .slice (some ⟨a, f, none⟩) m o] w fun e w' =>
   e = .returned (.slice (some ⟨b, off, none⟩) (n + m) c) ∧ w' = (w.drew.setCells b (off + (i + m)) (cs.drop i)).setCells b (off + i) vs := by
 have ae : ¬ ((m : Int) = 0) := by omega
 have af : ¬ ((i : Int) = (n : Int)) := by omega
 have hsz : (Tryz.prog.info? 289).map (·.size) = some 1 := by
  obtain ⟨i0, L, h0, h1, h2⟩ := info_parts iE
  rw [L]; simp [h1]
 have N : ∀ t p, (callFunc 592 #[.slice (some ⟨a, f, none⟩) m o, .slice (some ⟨b, off + (i + m), none⟩) t p]).run Tryz.prog w = .ok (.value (.bool false)) w := fun t p => by
  rw [run_callFunc_extern Tryz.func592 (by kernel_rfl) (by kernel_rfl) (by kernel_rfl) (e := Extern.SlicesOverlaps.overlaps #[496, 496] #[4]) (by kernel_rfl),
   Lib.run_overlaps_apart w 496 4 289 tS 1 zE ⟨a, f, none⟩ ⟨b, off + (i + m), none⟩ m o t p B C D r s O P M J K]
  rfl
 have I : (cs.drop i).length = n - i := by rw [List.length_drop, hcl]
 have ad : IntKind.i64.wrap ((i : Int) + (m : Int)) = (i : Int) + (m : Int) := by rw [IntKind.wrap_i64]; omega
 have T : (0 : Int) ≤ (i : Int) + (m : Int) := by omega
 have Z : i ≤ n := by omega
 have ab : ((i : Int) + (m : Int)).toNat = i + m := by omega
 have U : ¬ (c = i + m) := by omega
 have V : (i : Int) ≤ (n : Int) + (m : Int) := by omega
 have X : ¬ (c = i) := by omega
 have z : ∀ ty d u, (Builtin.copy_ #[496, 496] ty #[.slice (some ⟨b, off + (i + m), none⟩) (n + m - (i + m)) d, .slice (some ⟨b, off + i, none⟩) (n + m - i) u]).run Tryz.prog w.drew = .ok (goInt (cs.drop i).length) (w.drew.setCells b (off + (i + m)) (cs.drop i)) := fun ty d u =>
  run_copy_cells w.drew _ _ ty 289 b (off + (i + m)) (n + m - (i + m)) d ⟨b, off + i, none⟩ (n + m - i) u (cs.drop i) tS hsz (by rw [I]; simp only [Nat.min_def]; split <;> omega)
   (fun j v hj => by rw [Addr.add_lit, Nat.add_assoc]; exact hcs (i + j) v (by rwa [List.getElem?_drop] at hj))
   (fun j hj => by rw [Nat.add_assoc]; exact q _ (by omega)) (fun j hj => by rw [Nat.add_assoc]; exact A _ (by omega)) (fun v hv => E v (List.mem_of_mem_drop hv))
 obtain ⟨g, l⟩ : ∃ g, g = w.drew.setCells b (off + (i + m)) (cs.drop i) := ⟨_, rfl⟩
 have Q : ∀ k, k < n + m → (g.cell? ⟨b, off + k, none⟩).isSome = true := fun k hk => by
  rw [l]
  exact ac2 b _ _ _ (fun j hj => by rw [Nat.add_assoc]; exact q _ (by omega)) _ (q k hk)
 have H : ∀ (W : World), (∀ x, W.cell? x = g.cell? x) → (∀ x, W.frozen? x = g.frozen? x) → ∀ ty d, (Builtin.copy_ #[496, 496] ty #[.slice (some ⟨b, off + i, none⟩) (n + m - i) d, .slice (some ⟨a, f, none⟩) m o]).run Tryz.prog W = .ok (goInt vs.length) (W.setCells b (off + i) vs) := fun W y G ty d =>
  run_copy_cells W _ _ ty 289 b (off + i) (n + m - i) d ⟨a, f, none⟩ m o vs tS hsz (by rw [R]; simp only [Nat.min_def]; split <;> omega)
   (fun j v hj => by
    rw [Addr.add_lit, y, l, World.cell?_setCells_out b _ _ _ _ (fun h _ => absurd h B)]
    exact S j v hj)
   (fun j hj => by rw [y, Nat.add_assoc]; exact Q _ (by omega)) (fun j hj => by rw [G, l, World.frozen?_setCells, Nat.add_assoc]; exact A _ (by omega)) F
 rw [← l] at z
 have mixed := Yj
 go_enter Tryz.func568, Tryz.ntmps568
 go_wp2_with (simp only [N])
 go_region_law_o (refine adg rfl _ _ 496 496 rfl _ _ (by simp [Act.eval, Act.put]) (by simp [Act.eval, Act.put]) (z _ _ _) ?_)
 go_wp2_with (at_builtin; refine abf _ rfl _ _ 496 496 rfl _ _ rfl rfl (H _ (fun _ => rfl) (fun _ => rfl) _ _) ?_)
 go_ret
 first | exact ⟨rfl, rfl⟩ | exact ⟨rfl, by rw [l]⟩
set_option maxHeartbeats 4000000 in
set_option maxRecDepth 100000 in
theorem end_room (b off n c a d m f : Nat) (vs : List Value) (w : World) (hm : 0 < m) (k : n + m ≤ c) (q : n + m ≤ 9223372036854775807)
  (g : vs.length = m) (l : ∀ j, j < m → (w.cell? ⟨b, off + n + j, none⟩).isSome = true) (i : ∀ j, j < m → w.frozen? ⟨b, off + n + j, none⟩ = false)
  (p : ∀ j v, vs[j]? = some v → w.cell? ⟨a, d + j, none⟩ = some v) (h : ∀ v ∈ vs, v.oneCell' = true) :
  Calls Tryz.prog 568 #[.slice (some ⟨b, off, none⟩) n c, .int .i64 n, .slice (some ⟨a, d, none⟩) m f] w fun e w' =>
   e = .returned (.slice (some ⟨b, off, none⟩) (n + m) c) ∧ w' = w.setCells b (off + n) vs := by
 have r : ¬ ((m : Int) = 0) := by omega
 have o : Src Tryz.prog 1 496 (.slice (some ⟨a, d, none⟩) m f) m vs w := Src.ofSlice w tS ⟨a, d, none⟩ m f vs (by omega) (fun j u hj => by rw [Addr.add_lit]; exact p j u hj) h
 have mixed := Yj
 go_enter Tryz.func568, Tryz.ntmps568
 go_wp2_with (at_builtin; refine wpList_append_room1 _ rfl _ _ 496 496 rfl 289 _ _ tS iE b off n c rfl _ rfl m vs o k (by rw [g]; exact l) (by rw [g]; exact i) ?_)
 go_ret
 exact ⟨rfl, rfl⟩
set_option maxHeartbeats 4000000 in
set_option maxRecDepth 100000 in
theorem end_grow (base : Option Addr) (n c b d m f : Nat) (cs vs : List Value) (w : World) (hm : 0 < m) (B : n ≤ c) (i : c < n + m) (p : (n + m) * 24 ≤ 140737488355328)
  (hcl : cs.length = n) (C : vs.length = m) (h : base = none → n = 0)
  (hcs : ∀ a, base = some a → ∀ j v, cs[j]? = some v → w.cell? (a.add j) = some v)
  (s : ∀ j v, vs[j]? = some v → w.cell? ⟨b, d + j, none⟩ = some v) (o : ∀ v ∈ vs, v.oneCell' = true) :
  Calls Tryz.prog 568 #[.slice base n c, .int .i64 n, .slice (some ⟨b, d, none⟩) m f] w fun e w' =>
   e = .returned (.slice (some ⟨w.heap.size, 0, none⟩) (n + m) (grownCap w (n + m) c 289)) ∧
   w' = w.drew.alloc (.cells ((cs ++ vs).toArray ++ Builtin.zeroCells (Value.slice none 0 0).cells (grownCap w (n + m) c 289 - (n + m))) 289) := by
 obtain ⟨g, q, t, l, x⟩ := info_parts iE
 have D : ¬ ((m : Int) = 0) := by omega
 have r : Src Tryz.prog g.size 496 (.slice (some ⟨b, d, none⟩) m f) m vs w := by
  rw [l]
  exact Src.ofSlice w tS ⟨b, d, none⟩ m f vs (by omega) (fun j u hj => by rw [Addr.add_lit]; exact s j u hj) o
 have hold : (Builtin.firstCells g.size n (.slice base n c)).run Tryz.prog w.drew = .ok cs.toArray w.drew := by
  rw [l]
  cases base with
  | none =>
   have h0 := h rfl
   subst h0
   rw [List.length_eq_zero_iff.1 hcl]
   exact run_firstCells_none w.drew 1 0 0 c
  | some a => exact run_firstCells_some w.drew 1 n a n c cs (by omega) (fun j v hj => hcs a rfl j v hj)
 have k : ∀ ty, (Builtin.append_ #[496, 496] ty #[.slice base n c, .slice (some ⟨b, d, none⟩) m f]).run Tryz.prog w = _ := fun ty =>
  run_append_grow_src w 496 496 ty 289 g _ tS q t base n c cs hold _ m vs r i (by omega) (by rw [x]; exact growslice_fits i p)
 have mixed := Yj
 go_enter Tryz.func568, Tryz.ntmps568
 cases base with
 | none =>
  have h0 := h rfl
  subst h0
  go_wp2_with (at_builtin; refine Lib.wpList_append_run _ rfl _ _ _ _ rfl _ _ rfl rfl _ _ (k _) ?_)
  go_ret
  exact ⟨rfl, rfl⟩
 | some a =>
  obtain ⟨y, z, A⟩ := a
  go_wp2_with (at_builtin; refine Lib.wpList_append_run _ rfl _ _ _ _ rfl _ _ rfl rfl _ _ (k _) ?_)
  all_goals (go_ret; exact ⟨rfl, rfl⟩)
set_option maxHeartbeats 4000000 in
set_option maxRecDepth 100000 in
theorem grow (b off n c i f p m z : Nat) (cs vs : List Value) (w : World) (hi : i < n) (hm : 0 < m) (ak : n ≤ c) (X : c < n + m) (S : (n + m) * 24 ≤ 140737488355328)
  (hcl : cs.length = n) (Y : vs.length = m)
  (hcs : ∀ j v, cs[j]? = some v → w.cell? ⟨b, off + j, none⟩ = some v)
  (E : ∀ j v, vs[j]? = some v → w.cell? ⟨f, p + j, none⟩ = some v) (I : ∀ v ∈ cs, v.oneCell' = true) (J : ∀ v ∈ vs, v.oneCell' = true) :
  Calls Tryz.prog 568 #[.slice (some ⟨b, off, none⟩) n c, .int .i64 i, .slice (some ⟨f, p, none⟩) m z] w fun e w' =>
   e = .returned (.slice (some ⟨w.heap.size, 0, none⟩) (n + m) (grownCap w (n + m) c 289)) ∧
   w' = (((w.alloc (.cells ((cs.take i).toArray ++ Builtin.zeroCells (Value.slice none 0 0).cells (n + m - i) ++ Builtin.zeroCells (Value.slice none 0 0).cells (grownCap w (n + m) c 289 - (n + m))) 289)).drew.setCells w.heap.size i vs).drew).setCells w.heap.size (i + m) (cs.drop i) := by
 obtain ⟨H, C, aa, ar, F⟩ := info_parts iE
 have ao : ¬ ((m : Int) = 0) := by omega
 have ap : ¬ ((i : Int) = (n : Int)) := by omega
 have aq : (c : Int) < (n : Int) + (m : Int) := by omega
 have hsz : (Tryz.prog.info? 289).map (·.size) = some 1 := by rw [C]; simp [ar]
 have T : b < w.heap.size := block_lt_of_cell (hcs 0 _ (List.getElem?_eq_getElem (by omega)))
 have Z : f < w.heap.size := block_lt_of_cell (E 0 _ (List.getElem?_eq_getElem (by omega)))
 have D : (n : Int) + (m : Int) - (i : Int) = ((n + m - i : Nat) : Int) := by omega
 have u : i + (n + m - i) = n + m := by omega
 have hold : (Builtin.firstCells H.size i (.slice (some ⟨b, off, none⟩) i c)).run Tryz.prog w.drew = .ok (cs.take i).toArray w.drew := by
  rw [ar]
  exact run_firstCells_some w.drew 1 i ⟨b, off, none⟩ i c (cs.take i) (by rw [List.length_take]; omega) (fun j v hj => by
   rw [Addr.add_lit]
   rw [List.getElem?_take] at hj
   split at hj
   ·exact hcs j v hj
   ·cases hj)
 have o : ∀ ty, (Builtin.append_ #[496, 3] ty #[.slice (some ⟨b, off, none⟩) i c, .int .i64 ((n : Int) + (m : Int) - (i : Int))]).run Tryz.prog w =
   .ok (.slice (some ⟨w.heap.size, 0, none⟩) (n + m) (grownCap w (n + m) c 289)) (w.drew.alloc (.cells ((cs.take i).toArray ++ Builtin.zeroCells (Value.slice none 0 0).cells (n + m - i) ++ Builtin.zeroCells (Value.slice none 0 0).cells (grownCap w (n + m) c 289 - (n + m))) 289)) := fun ty => by
  have h := Lib.run_append_grow_zeros w 496 3 ty 289 H _ .i64 .i64 tS tI C aa (some ⟨b, off, none⟩) i c (cs.take i) hold (n + m - i) (by omega) (by omega) (by omega) (by omega) (by rw [F]; omega) (by rw [F, u]; exact growslice_fits X S)
  rw [u] at h
  rw [D]
  exact h
 obtain ⟨G, hG⟩ : ∃ G, G = grownCap w (n + m) c 289 := ⟨_, rfl⟩
 obtain ⟨a, r⟩ : ∃ a : Array Value, a = (cs.take i).toArray ++ Builtin.zeroCells (Value.slice none 0 0).cells (n + m - i) ++ Builtin.zeroCells (Value.slice none 0 0).cells (G - (n + m)) := ⟨_, rfl⟩
 rw [← hG] at o ⊢
 rw [← r] at o ⊢
 have Q : n + m ≤ a.size := by
  rw [r]
  simp [Builtin.zeroCells, Value.cells]
  omega
 obtain ⟨d, k⟩ : ∃ d, d = w.drew.alloc (.cells a 289) := ⟨_, rfl⟩
 rw [← k] at o
 have q : ∀ j, j < n + m → (d.cell? ⟨w.heap.size, j, none⟩).isSome = true := fun j hj => by
  rw [k, World.cell?_alloc_at (w := w.drew) a _ w.heap.size j rfl, Array.getElem?_eq_getElem (by omega)]; rfl
 have A : ∀ j, d.frozen? ⟨w.heap.size, j, none⟩ = false := fun j => by rw [k]; exact World.frozen?_alloc_at (w := w.drew) a _ w.heap.size j rfl
 have O : ∀ j v, w.cell? ⟨b, j, none⟩ = some v → d.cell? ⟨b, j, none⟩ = some v := fun j v h => by rw [k, World.cell?_alloc_past (w := w.drew) _ b j T]; exact h
 have P : ∀ j v, w.cell? ⟨f, j, none⟩ = some v → d.cell? ⟨f, j, none⟩ = some v := fun j v h => by rw [k, World.cell?_alloc_past (w := w.drew) _ f j Z]; exact h
 have U : ∀ (W : World), (∀ x, W.cell? x = d.cell? x) → (∀ x, W.frozen? x = d.frozen? x) → ∀ ty g, (Builtin.copy_ #[496, 496] ty #[.slice (some ⟨w.heap.size, i, none⟩) (n + m - i) g, .slice (some ⟨f, p, none⟩) m z]).run Tryz.prog W = .ok (goInt vs.length) (W.setCells w.heap.size i vs) := fun W l s ty g =>
  run_copy_cells W _ _ ty 289 w.heap.size i (n + m - i) g ⟨f, p, none⟩ m z vs tS hsz (by rw [Y]; simp only [Nat.min_def]; split <;> omega)
   (fun j v hj => by rw [Addr.add_lit, l]; exact P _ v (E j v hj))
   (fun j hj => by rw [l]; exact q _ (by omega)) (fun j hj => by rw [s]; exact A _) J
 have af : n + m ≤ G := by rw [hG]; exact grownCap_ge w _ _ _
 have ab : G ≤ 9223372036854775807 := by
  have := grownCap_le_maxLen w (n + m) c 289 (by unfold maxLen; omega)
  rw [← hG] at this
  unfold maxLen at this
  omega
 have ad : ¬ (G = i) := by omega
 have ae : ¬ (G = i + m) := by omega
 have ai : ¬ (c = i) := by omega
 have R : b ≠ w.heap.size := by omega
 have V : (cs.drop i).length = n - i := by rw [List.length_drop, hcl]
 have B : ∀ (W : World), (∀ x, W.cell? x = (d.setCells w.heap.size i vs).cell? x) → (∀ x, W.frozen? x = (d.setCells w.heap.size i vs).frozen? x) → ∀ ty g y, (Builtin.copy_ #[496, 496] ty #[.slice (some ⟨w.heap.size, i + m, none⟩) (n + m - (i + m)) g, .slice (some ⟨b, off + i, none⟩) (n - i) y]).run Tryz.prog W = .ok (goInt (cs.drop i).length) (W.setCells w.heap.size (i + m) (cs.drop i)) := fun W l s ty g y =>
  run_copy_cells W _ _ ty 289 w.heap.size (i + m) (n + m - (i + m)) g ⟨b, off + i, none⟩ (n - i) y (cs.drop i) tS hsz (by rw [V]; simp only [Nat.min_def]; split <;> omega)
   (fun j v hj => by
    rw [Addr.add_lit, l, World.cell?_setCells_out _ _ _ _ _ (fun h _ => absurd h R), Nat.add_assoc]
    exact O _ v (hcs (i + j) v (by rwa [List.getElem?_drop] at hj)))
   (fun j hj => by rw [l]; exact ac2 _ _ _ _ (fun t ht => q _ (by omega)) _ (q _ (by omega)))
   (fun j hj => by rw [s, World.frozen?_setCells]; exact A _) (fun v hv => I v (List.mem_of_mem_drop hv))
 subst k
 have K : ∀ x, ((w.alloc (.cells a 289)).drew).cell? x = (w.drew.alloc (.cells a 289)).cell? x := fun x => rfl
 have L : ∀ x, ((w.alloc (.cells a 289)).drew).frozen? x = (w.drew.alloc (.cells a 289)).frozen? x := fun x => rfl
 have M : ∀ x, (((w.alloc (.cells a 289)).drew.setCells w.heap.size i vs).drew).cell? x = ((w.drew.alloc (.cells a 289)).setCells w.heap.size i vs).cell? x := fun x => rfl
 have N : ∀ x, (((w.alloc (.cells a 289)).drew.setCells w.heap.size i vs).drew).frozen? x = ((w.drew.alloc (.cells a 289)).setCells w.heap.size i vs).frozen? x := fun x => rfl
 have am : IntKind.i64.wrap ((i : Int) + (m : Int)) = (i : Int) + (m : Int) := by rw [IntKind.wrap_i64]; omega
 have ag : (0 : Int) ≤ (i : Int) + (m : Int) := by omega
 have aj : i ≤ n := by omega
 have al : ((i : Int) + (m : Int)).toNat = i + m := by omega
 have ah : (i : Int) ≤ (n : Int) := by omega
 clear D u hold r hG Q
 have mixed := Yj
 go_enter Tryz.func568, Tryz.ntmps568
 go_wp2_with (first
  | (at_builtin; refine Lib.wpList_append_run _ rfl _ _ _ _ rfl _ _ rfl rfl _ _ (o _) ?_)
  | (at_builtin; refine abf _ rfl _ _ 496 496 rfl _ _ rfl rfl (U _ K L _ _) ?_)
  | (at_builtin; refine abf _ rfl _ _ 496 496 rfl _ _ rfl rfl (B _ (fun _ => rfl) (fun _ => rfl) _ _ _) ?_))
 go_region_law_o (refine adg rfl _ _ 496 496 rfl (.slice (some ⟨w.heap.size, i + m, none⟩) (n + m - (i + m)) (G - (i + m))) (.slice (some ⟨b, off + i, none⟩) (n - i) (c - i)) (by simp [Act.eval, Act.put]) (by simp [Act.eval, Act.put]) (B _ M N 3 (G - (i + m)) (c - i)) ?_)
 go_wp2
 go_ret
 exact ⟨rfl, rfl⟩
end Go.Proofs.YtopigipibioclaaGreatDoor.Ins568
