/-
  THE EVALUATOR's PURE OPERATIONS are the model's: each of them.
-/
import Derived.Test.YtedembbgeljdkaaGreatDoorEvPure
namespace Go.Proofs.YtedembbgeljdkaaGreatDoor.Ev
open Go
set_option linter.all false

section
variable {P : Program} {μ : Mu} {F : Nat → Prop} {w : World} {T : Tm} {a : Act}

theorem unA_sound {op : UnOp} {x : AV} {vx : Value} {v : AV} (hx : VR μ F w x vx) (h : unA op x = some v) : ∃ u, (Op.unary op vx).run P w = .ok u w ∧ VR μ F w v u := by
  unfold unA at h
  split at h
  · cases h; cases hx; exact ⟨_, rfl, .int _ _⟩
  · cases h; cases hx; exact ⟨_, rfl, .int _ _⟩
  · cases h; cases hx; exact ⟨_, rfl, .bool _⟩
  · cases h

def OR (μ : Mu) (F : Nat → Prop) (w : World) (x : Option AV) (v : Option Value) : Prop :=
  match x, v with
  | none, none => True
  | some x, some v => VR μ F w x v
  | _, _ => False

theorem bound_ok (k : IntKind) (n y : Nat) (code : BoundsCode) (h : n ≤ y) : (Instr.sliceBound (.int k (n : Int)) y code).run P w = .ok n w := by
  simp [Instr.sliceBound, asIntOf, h]

theorem bounds3_ok {len cap m h l : Nat} {k1 k2 : IntKind} {lo : Option Value} (hl : (lo = none ∧ l = 0) ∨ ∃ k, lo = some (.int k (l : Int))) (h1 : m ≤ cap) (h2 : h ≤ m) (h3 : l ≤ h) :
    (Instr.sliceBounds true len cap lo (some (.int k1 (h : Int))) (some (.int k2 (m : Int)))).run P w = .ok (l, h, m) w := by
  rcases hl with ⟨rfl, rfl⟩ | ⟨k, rfl⟩
  · simp [Instr.sliceBounds, bound_ok k2 m cap _ h1, bound_ok k1 h m _ h2]
  · simp [Instr.sliceBounds, bound_ok k2 m cap _ h1, bound_ok k1 h m _ h2, bound_ok k l h _ h3]

theorem bounds2_ok {s : Bool} {len cap h l : Nat} {lo hi : Option Value} (hl : (lo = none ∧ l = 0) ∨ ∃ k, lo = some (.int k (l : Int))) (hh : (hi = none ∧ h = len) ∨ ∃ k, hi = some (.int k (h : Int))) (h2 : h ≤ cap) (h3 : l ≤ h) :
    (Instr.sliceBounds s len cap lo hi none).run P w = .ok (l, h, cap) w := by
  rcases hl with ⟨rfl, rfl⟩ | ⟨k, rfl⟩ <;> rcases hh with ⟨rfl, rfl⟩ | ⟨k', rfl⟩
  · simp [Instr.sliceBounds]
  · simp [Instr.sliceBounds, bound_ok k' h cap _ h2]
  · simp [Instr.sliceBounds, bound_ok k l h _ h3]
  · simp [Instr.sliceBounds, bound_ok k' h cap _ h2, bound_ok k l h _ h3]

theorem or_nat {x : Option AV} {v : Option Value} {n d : Nat} (h : OR μ F w x v) (hn : (x.map asN).getD (some d) = some n) : (v = none ∧ n = d) ∨ ∃ k, v = some (.int k (n : Int)) := by
  cases x with
  | none =>
    cases v with
    | none => simp at hn; exact .inl ⟨rfl, hn.symm⟩
    | some v => exact h.elim
  | some x =>
    cases v with
    | none => exact h.elim
    | some v =>
      simp at hn
      obtain ⟨k, hk⟩ := asN_int hn h
      exact .inr ⟨k, by rw [hk]⟩

theorem add_off (b o k : Nat) : (⟨b, o, none⟩ : Addr).add k = ⟨b, o + k, none⟩ := by
  unfold Addr.add; split <;> simp_all

theorem run_sliceAt {t e : TypeId} {size : Nat} (ht : P.underlying t = some (.slice e)) (hs : sizeOf? P e = some size) {a : Option Addr} {len cap l h m : Nat} {lo hi mx : Option Value}
    (hb : (Instr.sliceBounds true len cap lo hi mx).run P w = .ok (l, h, m) w) :
    (Instr.sliceAt t (.slice a len cap) lo hi mx).run P w = .ok (.slice (if m = l then a else a.map (·.add (l * size))) (h - l) (m - l)) w := by
  simp [Instr.sliceAt, Instr.slice, run_underlying ht, hb, run_size hs]

theorem sliceA_sound {size : Nat} {t e : TypeId} {x : AV} {vx : Value} {lo hi mx : Option AV} {vlo vhi vmx : Option Value} {v : AV} 
    (ht : P.underlying t = some (.slice e)) (hs : sizeOf? P e = some size)
    (hx : VR μ F w x vx) (hstr : ∀ s, x ≠ .str s) (hlo : OR μ F w lo vlo) (hhi : OR μ F w hi vhi) (hmx : OR μ F w mx vmx) (h : sliceA size x lo hi mx = some v) :
    ∃ u, (Instr.sliceAt t vx vlo vhi vmx).run P w = .ok u w ∧ VR μ F w v u := by
  unfold sliceA at h
  split at h
  · rename_i b off n c sz ex
    split at h
    · cases h
    rename_i hsz
    have hsz : sz = size := by simpa using hsz
    subst hsz
    cases hx with
    | own _ _ _ _ _ _ L cap h1 h2 h3 h4 h5 h6 =>
    split at h
    · rename_i m0 h0 lo
      simp only [Option.bind_eq_bind, Option.bind_eq_some_iff] at h
      obtain ⟨m, hm, h', hh, l, hl, h⟩ := h
      split at h
      · rename_i hc
        obtain ⟨c1, c2, c3⟩ := hc
        obtain ⟨vm, rfl⟩ : ∃ vm, vmx = some vm := by cases vmx with | none => exact hmx.elim | some vm => exact ⟨_, rfl⟩
        obtain ⟨vh, rfl⟩ : ∃ vh, vhi = some vh := by cases vhi with | none => exact hhi.elim | some vm => exact ⟨_, rfl⟩
        obtain ⟨k2, rfl⟩ := asN_int hm hmx
        obtain ⟨k1, rfl⟩ := asN_int hh hhi
        have hb := bounds3_ok (P := P) (w := w) (len := n) (cap := cap) (k1 := k1) (k2 := k2) (or_nat hlo hl) (Nat.le_trans c1 h4) c2 c3
        refine ⟨_, run_sliceAt ht hs hb, ?_⟩
        split at h
        · rename_i e'
          cases h
          subst e'
          simp only [if_true, Nat.sub_self]
          have : h' - m = 0 := by omega
          rw [this]
          exact .own _ _ _ _ _ _ L 0 h1 h2 (Nat.le_refl _) (Nat.le_refl _) (fun _ => rfl) (by omega)
        · rename_i e'
          cases h
          rw [if_neg e']
          simp only [Option.map_some, add_off]
          refine .own _ _ _ _ _ _ L _ h1 h2 (by omega) (Nat.le_refl _) (fun _ => rfl) ?_
          have : l * sz + (m - l) * sz = m * sz := by rw [← Nat.add_mul]; congr 1; omega
          have h7 : m * sz ≤ cap * sz := Nat.mul_le_mul_right _ (by omega)
          omega
      · cases h
    · rename_i hi lo
      simp only [Option.bind_eq_bind, Option.bind_eq_some_iff] at h
      obtain ⟨h', hh, l, hl, h⟩ := h
      obtain rfl : vmx = none := by cases vmx with | none => rfl | some vm => exact hmx.elim
      split at h
      · rename_i hc
        obtain ⟨c1, c2⟩ := hc
        have hb := bounds2_ok (P := P) (w := w) (s := true) (len := n) (cap := cap) (or_nat hlo hl) (or_nat hhi hh) (by omega) c2
        refine ⟨_, run_sliceAt ht hs hb, ?_⟩
        have h7 : (cap - l) * sz + l * sz ≤ cap * sz := by rw [← Nat.add_mul]; exact Nat.mul_le_mul_right _ (by omega)
        split at h
        · rename_i e'
          cases h
          by_cases e2 : cap = l
          · have hl0 : l = 0 := by omega
            subst hl0
            simp only [e2, if_true, Nat.zero_mul, Nat.add_zero, Nat.sub_zero]
            subst e2
            exact .own _ _ _ _ _ _ L 0 h1 h2 (by omega) (by omega) (fun e => by have := h5 e; omega) (by omega)
          · rw [if_neg e2]
            simp only [Option.map_some, add_off]
            exact .own _ _ _ _ _ _ L _ h1 h2 (by omega) (by omega) (fun e => by have := h5 e; omega) (by omega)
        · rename_i e'
          have hlc : l = c := by omega
          subst hlc
          split at h
          · rename_i e3
            cases h
            have := h5 e3
            subst this
            rw [if_pos rfl]
            exact .own _ _ _ _ _ _ L _ h1 h2 (by omega) (by omega) (fun e => rfl) (by omega)
          · cases h
            have : h' - l = 0 := by omega
            rw [this]
            exact .sl0 _ _
      · cases h
    · cases h
  · rename_i cs n
    have hsl : ∀ l h' m, h' ≤ n → l ≤ h' → h' ≤ m → h' * size ≤ cs.length → ∀ (a0 : Option Addr) (cap : Nat), VR μ F w (.sl cs n) (.slice a0 n cap) → m ≤ cap →
        VR μ F w (.sl ((cs.drop (l * size)).take ((h' - l) * size)) (h' - l)) (.slice (if m = l then a0 else a0.map (·.add (l * size))) (h' - l) (m - l)) := by
      intro l h' m q1 q2 q3 q5 a0 cap hv q4
      by_cases e0 : h' = l
      · subst e0
        simp only [Nat.sub_self, Nat.zero_mul, List.take_zero]
        exact .sl0 _ _
      · rw [if_neg (by omega)]
        cases hv with
        | sl0 => omega
        | sl _ _ _ blk off arr ty fr g1 g2 g3 g4 g5 =>
          simp only [Option.map_some, add_off]
          have hle : l * size ≤ h' * size := Nat.mul_le_mul_right _ q2
          refine .sl _ _ _ blk _ arr ty fr g1 g2 (by omega) ?_ ?_
          · simp only [List.length_take, List.length_drop]; omega
          · intro i c v hc hv
            rw [List.getElem?_take] at hc
            split at hc
            · rw [List.getElem?_drop] at hc
              exact g5 _ c v hc (by rw [← Nat.add_assoc]; exact hv)
            · cases hc
    obtain ⟨a0, cap, rfl, hcap⟩ : ∃ a0 cap, vx = .slice a0 n cap ∧ n ≤ cap := by
      cases hx with
      | sl0 a cap => exact ⟨_, _, rfl, Nat.zero_le _⟩
      | sl _ _ _ blk off arr ty fr g1 g2 g3 g4 g5 => exact ⟨_, _, rfl, g3⟩
    split at h
    · rename_i hi lo
      simp only [Option.bind_eq_bind, Option.bind_eq_some_iff] at h
      obtain ⟨h', hh, l, hl, h⟩ := h
      obtain rfl : vmx = none := by cases vmx with | none => rfl | some vm => exact hmx.elim
      split at h
      · rename_i hc
        obtain ⟨c1, c2, c3⟩ := hc
        cases h
        have hb := bounds2_ok (P := P) (w := w) (s := true) (len := n) (cap := cap) (or_nat hlo hl) (or_nat hhi hh) (by omega) c2
        exact ⟨_, run_sliceAt ht hs hb, hsl l h' cap c1 c2 (by omega) c3 a0 cap hx (Nat.le_refl _)⟩
      · cases h
    · rename_i m0 h0 lo
      simp only [Option.bind_eq_bind, Option.bind_eq_some_iff] at h
      obtain ⟨m, hm, h', hh, l, hl, h⟩ := h
      split at h
      · rename_i hc
        obtain ⟨c1, c2, c3, c4⟩ := hc
        cases h
        obtain ⟨vm, rfl⟩ : ∃ vm, vmx = some vm := by cases vmx with | none => exact hmx.elim | some vm => exact ⟨_, rfl⟩
        obtain ⟨vh, rfl⟩ : ∃ vh, vhi = some vh := by cases vhi with | none => exact hhi.elim | some vm => exact ⟨_, rfl⟩
        obtain ⟨k2, rfl⟩ := asN_int hm hmx
        obtain ⟨k1, rfl⟩ := asN_int hh hhi
        have hb := bounds3_ok (P := P) (w := w) (len := n) (cap := cap) (k1 := k1) (k2 := k2) (or_nat hlo hl) (by omega) c2 c3
        exact ⟨_, run_sliceAt ht hs hb, hsl l h' m (by omega) c3 c2 c4 a0 cap hx (by omega)⟩
      · cases h
    · cases h
  · cases hx
    split at h
    · rename_i m0 h0
      split at h
      · rename_i hc
        obtain ⟨hm, hh, hl⟩ := hc
        cases h
        obtain ⟨vm, rfl⟩ : ∃ vm, vmx = some vm := by cases vmx with | none => exact hmx.elim | some vm => exact ⟨_, rfl⟩
        obtain ⟨vh, rfl⟩ : ∃ vh, vhi = some vh := by cases vhi with | none => exact hhi.elim | some vm => exact ⟨_, rfl⟩
        obtain ⟨k2, rfl⟩ := asN_int hm hmx
        obtain ⟨k1, rfl⟩ := asN_int hh hhi
        have hb := bounds3_ok (P := P) (w := w) (len := 0) (cap := 0) (k1 := k1) (k2 := k2) (or_nat hlo hl) (Nat.le_refl _) (Nat.le_refl _) (Nat.le_refl _)
        exact ⟨_, run_sliceAt ht hs hb, .nilSl⟩
      · cases h
    · rename_i hi
      obtain rfl : vmx = none := by cases vmx with | none => rfl | some vm => exact hmx.elim
      split at h
      · rename_i hc
        obtain ⟨hh, hl⟩ := hc
        cases h
        have hb := bounds2_ok (P := P) (w := w) (s := true) (len := 0) (cap := 0) (or_nat hlo hl) (or_nat hhi hh) (Nat.le_refl _) (Nat.le_refl _)
        exact ⟨_, run_sliceAt ht hs hb, .nilSl⟩
      · cases h
    · cases h
  · exact absurd rfl (hstr _)
  · cases h

theorem sliceStr_sound {size : Nat} {t : TypeId} {s : ByteArray} {lo hi mx : Option AV} {vlo vhi vmx : Option Value} {v : AV} 
    (ht : P.underlying t = some .string) (hlo : OR μ F w lo vlo) (hhi : OR μ F w hi vhi) (hmx : OR μ F w mx vmx) (h : sliceA size (.str s) lo hi mx = some v) :
    ∃ u, (Instr.sliceAt t (.string s) vlo vhi vmx).run P w = .ok u w ∧ VR μ F w v u := by
  unfold sliceA at h
  simp only at h
  split at h
  · simp only [Option.bind_eq_bind, Option.bind_eq_some_iff] at h
    obtain ⟨h', hh, l, hl, h⟩ := h
    obtain rfl : vmx = none := by cases vmx with | none => rfl | some vm => exact hmx.elim
    split at h
    · rename_i hc
      simp only [Bool.and_eq_true, decide_eq_true_eq] at hc
      cases h
      have hb := bounds2_ok (P := P) (w := w) (s := false) (len := s.size) (cap := s.size) (or_nat hlo hl) (or_nat hhi hh) hc.1 hc.2
      exact ⟨_, by simp [Instr.sliceAt, Instr.slice, run_underlying ht, hb], .str _⟩
    · cases h
  · cases h

end
end Go.Proofs.YtedembbgeljdkaaGreatDoor.Ev
