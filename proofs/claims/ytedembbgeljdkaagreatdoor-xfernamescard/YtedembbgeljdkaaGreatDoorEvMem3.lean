/-
  THE EVALUATOR's OPERATIONS ON MEMORY are the model's: slices made, cleared; maps.
-/
import Derived.Test.YtedembbgeljdkaaGreatDoorEvMem2
namespace Go.Proofs.YtedembbgeljdkaaGreatDoor.Ev
open Go
set_option linter.all false

section
variable {I : Nat → Prop} {P : Program} {μ : Mu} {F : Nat → Prop} {H : Heap} {w : World} {T : Tm} {a : Act}

theorem range_rep {α : Type} [Inhabited α] (z : Array α) (n : Nat) : ((List.range (n * z.size)).map fun i => z[i % z.size]!) = (List.replicate n z.toList).flatten := by
  induction n with
  | zero => simp
  | succ n ih =>
    rw [Nat.add_mul, Nat.one_mul, Nat.add_comm, List.range_add, List.map_append, List.replicate_succ, List.flatten_cons, ← ih]
    congr 1
    · apply List.ext_getElem
      · simp
      · intro i h1 h2
        simp at h1
        simp [Nat.mod_eq_of_lt h1, h1]
    · rw [List.map_map]
      apply List.map_congr_left
      intro i _
      simp [Nat.add_mod_left]

theorem LR.rep {z : List AV} {zs : List Value} (h : LR μ F w z zs) : ∀ n, LR μ F w ((List.replicate n z).flatten) ((List.replicate n zs).flatten)
  | 0 => LR.nil
  | n + 1 => by
    rw [List.replicate_succ, List.replicate_succ, List.flatten_cons, List.flatten_cons]
    exact h.append (h.rep n)

theorem range_map_toList {z : Array Value} (N n : Nat) (h : N = n * z.size) : ((Array.range N).map fun i => z[i % z.size]!).toList = (List.replicate n z.toList).flatten := by
  subst h
  rw [Array.toList_map, Array.toList_range]
  exact range_rep z n

theorem buildSlice_sound {t e : TypeId} {n len : Nat} {z cs : List AV} {parts : List (Nat × Operand)} {ps : List ((Nat × Nat) × Src)} (hT : LR μ F w T a.tmps.toList)
    (ht : P.underlying t = some (.slice e)) (hs : sizeOf? P e = some n) (hz : zeroCells? P e = some z) (hzl : z.length = n) (hle : len * n ≤ 2 ^ 24)
    (hps : (parts.mapM fun (p : Nat × Operand) => (do some ((p.1 * n, n), (← cSrc p.2)) : Option ((Nat × Nat) × Src))) = some ps) (hf : fillA ((List.replicate len z).flatten) (ps.map fun p => (p.1, p.2.ev T)) = some cs)
    (hH : HR P μ F H w) {id : Nat} (hid : μ id = none) (hlt : id < H.next) (hI : I id) :
    ∃ u w' μ', (Instr.buildSlice t len (parts.toArray.map fun p => (p.1, a.eval p.2))).run P w = .ok u w' ∧ Done I P μ F H w (.own id 0 len len n true) (H.put id (.cells cs e true)) u w' μ' := by
  obtain ⟨zv, hzv, hzr⟩ := run_zero hz w
  have hzs : zv.cells.size = n := by have := (hzr μ F w).1; simp at this; omega
  have hrep := (hzr μ F w).rep len
  have hcells : ∃ zc : Array Value, ((len * n = 0 ∧ zc = #[]) ∨ (len * n ≠ 0 ∧ zc = zv.cells)) ∧ ((Array.range (len * n)).map fun i => zc[i % zc.size]!).toList = (List.replicate len zv.cells.toList).flatten := by
    by_cases h0 : len * n = 0
    · refine ⟨#[], .inl ⟨h0, rfl⟩, ?_⟩
      rw [h0]
      have : (List.replicate len zv.cells.toList).flatten.length = 0 := by simp [hzs, h0]
      simp only [List.length_eq_zero_iff] at this
      rw [this]; simp
    · refine ⟨zv.cells, .inr ⟨h0, rfl⟩, ?_⟩
      exact range_map_toList _ _ (by rw [hzs])
  obtain ⟨zc, hzc1, hzc2⟩ := hcells
  obtain ⟨vs, hvs, hr⟩ := fill_lr hT (fun i => some (i * n, n)) parts ps _ ((Array.range (len * n)).map fun i => zc[i % zc.size]!) cs hps (by rw [hzc2]; exact hrep) hf
  have hlen := hr.1
  simp at hlen
  have hvsz : vs.size = len * n := by
    have key : ∀ (l : List ((Nat × Nat) × AV)) (z cs : List AV), fillA z l = some cs → cs.length = z.length := by
      intro l
      induction l with
      | nil => intro z cs h; cases h; rfl
      | cons p l ih =>
        intro z cs h
        obtain ⟨⟨off, size⟩, v⟩ := p
        simp only [fillA] at h
        split at h
        · rename_i hc
          rw [ih _ _ h]
          simp; omega
        · cases h
    have := key _ _ _ hf
    simp [hzl] at this
    omega
  obtain ⟨q1, q2⟩ := new_cells hH hid hlt hI (arr := vs) (cs := cs) hs (by omega) (fun i c v hc hv => hr.2 i c v hc (by simpa using hv)) w rfl rfl rfl rfl
  refine ⟨_, _, _, ?_, ⟨.own id 0 len len n true _ len (upd_same id _) rfl (Nat.le_refl _) (Nat.le_refl _) (fun _ => rfl) (by simp; omega), q1, q2⟩⟩
  have hnle : ¬ len * n > 2 ^ 24 := by omega
  unfold Instr.buildSlice
  have hparts : (parts.toArray.map fun p => (p.1, a.eval p.2)).toList = parts.map fun p => (p.1, a.eval p.2) := by simp
  simp only [Sem.run_bind, run_underlying ht, Result.andThen_ok, run_size hs, hnle, if_false, hparts]
  rcases hzc1 with ⟨h0, rfl⟩ | ⟨h0, rfl⟩
  · rw [if_pos h0]
    simp only [Sem.run_bind, Sem.run_pure, Result.andThen_ok, hvs, run_newRow]
  · rw [if_neg h0]
    simp only [Sem.run_bind, Sem.run_pure, Result.andThen_ok, hzv, hvs, run_newRow]

theorem wrap_id {c : Nat} (h : c < 2 ^ 63) : IntKind.i64.wrap (c : Int) = c := by
  have e : IntKind.i64.wrap (c : Int) = (if IntKind.i64.signed && decide ((c : Int) % (2 ^ IntKind.i64.bits : Int) ≥ (2 ^ (IntKind.i64.bits - 1) : Int)) then (c : Int) % (2 ^ IntKind.i64.bits : Int) - (2 ^ IntKind.i64.bits : Int) else (c : Int) % (2 ^ IntKind.i64.bits : Int)) := rfl
  have h1 : (c : Int) % (2 ^ IntKind.i64.bits : Int) = c := by
    have : (2 ^ IntKind.i64.bits : Int) = 18446744073709551616 := by decide
    rw [this]; omega
  rw [e, h1]
  have h2 : ¬ (c : Int) ≥ (2 ^ (IntKind.i64.bits - 1) : Int) := by
    have : (2 ^ (IntKind.i64.bits - 1) : Int) = 9223372036854775808 := by decide
    rw [this]; omega
  simp [h2]

theorem mksl_sound {t e : TypeId} {size bytes l c : Nat} {z : List AV} {vl vc : Value} {kl kc : IntKind}
    (ht : P.underlying t = some (.slice e)) (hs : sizeOf? P e = some size) (hb : bytesOf? P e = some bytes) (hz : zeroCells? P e = some z) (hzl : z.length = size)
    (hl : vl = .int kl (l : Int)) (hc : vc = .int kc (c : Int)) (hlc : l ≤ c) (hcb : bytes * c ≤ 2 ^ 47) (hc63 : c < 2 ^ 63)
    (hH : HR P μ F H w) {id : Nat} (hid : μ id = none) (hlt : id < H.next) (hI : I id) :
    ∃ u w' μ', (Instr.makeSlice t vl vc).run P w = .ok u w' ∧ Done I P μ F H w (.own id 0 l c size true) (H.put id (.cells ((List.replicate c z).flatten) e true)) u w' μ' := by
  obtain ⟨zv, hzv, hzr⟩ := run_zero hz w
  have hzs : zv.cells.size = size := by have := (hzr μ F w).1; simp at this; omega
  have hrep := (hzr μ F w).rep c
  have hcells : ∃ zc : Array Value, ((c * size = 0 ∧ zc = #[]) ∨ (c * size ≠ 0 ∧ zc = zv.cells)) ∧ ((Array.range (c * size)).map fun i => zc[i % zc.size]!).toList = (List.replicate c zv.cells.toList).flatten := by
    by_cases h0 : c * size = 0
    · refine ⟨#[], .inl ⟨h0, rfl⟩, ?_⟩
      rw [h0]
      have : (List.replicate c zv.cells.toList).flatten.length = 0 := by simp [hzs, h0]
      simp only [List.length_eq_zero_iff] at this
      rw [this]; simp
    · refine ⟨zv.cells, .inr ⟨h0, rfl⟩, ?_⟩
      exact range_map_toList _ _ (by rw [hzs])
  obtain ⟨zc, hzc1, hzc2⟩ := hcells
  obtain ⟨i, hi, hib⟩ := run_bytes hb w
  have harr : ((Array.range (c * size)).map fun i => zc[i % zc.size]!).size = c * size := by simp
  obtain ⟨q1, q2⟩ := new_cells hH hid hlt hI (arr := (Array.range (c * size)).map fun i => zc[i % zc.size]!) (cs := (List.replicate c z).flatten) hs (by rw [harr]; simp [hzl])
    (fun i c v hc hv => hrep.2 i c v hc (by rw [← hzc2, Array.getElem?_toList]; exact hv)) w rfl rfl rfl rfl
  refine ⟨_, _, _, ?_, ⟨.own id 0 l c size true _ c (upd_same id _) rfl hlc (Nat.le_refl _) (fun _ => rfl) (by show 0 + c * size ≤ _; rw [Nat.zero_add]; exact Nat.le_of_eq harr.symm), q1, q2⟩⟩
  subst hl; subst hc
  unfold Instr.makeSlice
  have e1 := wrap_id (c := c) hc63
  have e2 := wrap_id (c := l) (by omega)
  have hB : ¬ ((c : Int) < 0 ∨ (bytes : Int) * (c : Int) > 2 ^ 48) := by
    have : ((bytes * c : Nat) : Int) = (bytes : Int) * (c : Int) := by simp
    rw [← this]; omega
  simp only [Sem.run_bind, run_underlying ht, Result.andThen_ok, asInt, asIntOf, Sem.run_pure, hi, hib, e1, e2]
  have hcond : ¬ (((decide ((c : Int) < 0) || decide ((bytes : Int) * (c : Int) > 2 ^ 48)) || decide ((l : Int) < 0) || decide ((l : Int) > (c : Int))) = true) := by
    simp; omega
  rw [if_neg hcond]
  simp only [Sem.run_bind, run_askRoom, Result.andThen_ok, run_size hs, Int.toNat_natCast]
  rcases hzc1 with ⟨h0, rfl⟩ | ⟨h0, rfl⟩
  · rw [if_pos h0]
    simp only [Sem.run_bind, Sem.run_pure, Result.andThen_ok, run_newRow]
  · rw [if_neg h0]
    simp only [Sem.run_bind, Sem.run_pure, Result.andThen_ok, hzv, run_newRow]

end
end Go.Proofs.YtedembbgeljdkaaGreatDoor.Ev
