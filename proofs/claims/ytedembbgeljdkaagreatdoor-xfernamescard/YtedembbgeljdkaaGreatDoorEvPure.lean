/-
  THE EVALUATOR's PURE OPERATIONS are the model's: the theorem.
-/
import Derived.Test.YtedembbgeljdkaaGreatDoorEvOps
import Derived.Laws.Small
import Derived.Laws.Cover3
namespace Go.Proofs.YtedembbgeljdkaaGreatDoor.Ev
open Go
set_option linter.all false

section
variable {P : Program} {μ : Mu} {F : Nat → Prop} {w : World} {T : Tm} {a : Act}

theorem run_v {s : Sem Value} {v : Value} {w' : World} (h : s.run P w = .ok v w') : ((do pure (Next.value (← s))) : Sem Next).run P w = .ok (.value v) w' := by
  simp [h]

theorem run_info {t : TypeId} {i : TypeInfo} (h : P.info? t = some i) (w : World) : (typeInfo t).run P w = .ok i w := by
  simp [typeInfo, h]
theorem run_size {t : TypeId} {n : Nat} (h : sizeOf? P t = some n) (w : World) : (Go.sizeOf t).run P w = .ok n w := by
  simp only [sizeOf?, Option.map_eq_some_iff] at h
  obtain ⟨i, hi, rfl⟩ := h
  simp [Go.sizeOf, run_info hi]
theorem run_bytes {t : TypeId} {n : Nat} (h : bytesOf? P t = some n) (w : World) : ∃ i, (typeInfo t).run P w = .ok i w ∧ i.bytes = n := by
  simp only [bytesOf?, Option.map_eq_some_iff] at h
  obtain ⟨i, hi, rfl⟩ := h
  exact ⟨i, run_info hi w, rfl⟩
theorem run_zero {t : TypeId} {z : List AV} (h : zeroCells? P t = some z) (w : World) : ∃ v, (zeroValue t).run P w = .ok v w ∧ ∀ μ F W, LR μ F W z v.cells.toList := by
  simp only [zeroCells?, Option.bind_eq_bind, Option.bind_eq_some_iff] at h
  obtain ⟨i, hi, zv, hz, h⟩ := h
  exact ⟨zv, by simp [zeroValue, run_info hi, hz], fun μ F W => mapM_lr h⟩

theorem loadK_none {t : TypeId} (h : loadK P t = some none) (w : World) : (isAgg t).run P w = .ok false w := by
  simp only [loadK, Option.bind_eq_bind, Option.bind_eq_some_iff] at h
  obtain ⟨d, hd, h⟩ := h
  split at h
  · simp at h
  · simp at h
  · rename_i h1 h2
    simp only [isAgg, Sem.run_bind, run_underlying hd, Result.andThen_ok]
    cases d <;> first | rfl | (exact absurd rfl (h1 _)) | (exact absurd rfl (h2 _ _))
theorem loadK_some {t : TypeId} {n : Nat} (h : loadK P t = some (some n)) (w : World) : (isAgg t).run P w = .ok true w ∧ (Go.sizeOf t).run P w = .ok n w := by
  simp only [loadK, Option.bind_eq_bind, Option.bind_eq_some_iff] at h
  obtain ⟨d, hd, h⟩ := h
  split at h
  · simp only [Option.map_eq_some_iff] at h
    obtain ⟨m, hm, h⟩ := h
    cases h
    exact ⟨by simp [isAgg, run_underlying hd], run_size hm w⟩
  · simp only [Option.map_eq_some_iff] at h
    obtain ⟨m, hm, h⟩ := h
    cases h
    exact ⟨by simp [isAgg, run_underlying hd], run_size hm w⟩
  · cases h

theorem takeAt_part {cs : List AV} {vs : Array Value} {off : Nat} {k : Option Nat} {t : TypeId} {v : AV} (hk : loadK P t = some k) (hl : LR μ F w cs vs.toList) (h : takeAt cs off k = some v) :
    ∃ u, (part t vs off).run P w = .ok u w ∧ VR μ F w v u := by
  cases k with
  | none =>
    obtain ⟨u, hu, hr⟩ := hl.get h
    have hu' : vs[off]? = some u := by simpa using hu
    exact ⟨u, by simp [part, loadK_none hk, hu'], hr⟩
  | some n =>
    simp only [takeAt] at h
    split at h
    · rename_i hle
      cases h
      obtain ⟨h1, h2⟩ := loadK_some hk w
      refine ⟨.agg (vs.extract off (off + n)), by simp [part, h1, h2], ?_⟩
      have hlen := hl.1
      simp at hlen
      refine .agg _ _ (by simp; omega) fun i c v hc hv => ?_
      rw [List.getElem?_take] at hc
      split at hc
      · rename_i hi
        rw [List.getElem?_drop] at hc
        refine hl.2 _ c v hc ?_
        rw [Array.getElem?_extract] at hv
        split at hv
        · simpa using hv
        · cases hv
      · cases hc
    · cases h

theorem eqGuard_int (op : BinOp) (ty : TypeId) (X Y : Operand) (j k : IntKind) (m n : Int) : (eqGuard op ty X Y (.int j m) (.int k n)).run P w = .ok () w := by
  unfold eqGuard; cases op <;> rfl
theorem eqGuard_bool (op : BinOp) (ty : TypeId) (X Y : Operand) (b c : Bool) : (eqGuard op ty X Y (.bool b) (.bool c)).run P w = .ok () w := by
  unfold eqGuard; cases op <;> rfl
theorem eqGuard_str (op : BinOp) (ty : TypeId) (X Y : Operand) (b c : ByteArray) : (eqGuard op ty X Y (.string b) (.string c)).run P w = .ok () w := by
  unfold eqGuard; cases op <;> rfl
theorem eqGuard_sl (op : BinOp) (ty : TypeId) (X Y : Operand) (x : Value) (b : Option Addr) (m n : Nat) : (eqGuard op ty X Y x (.slice b m n)).run P w = .ok () w := by
  unfold eqGuard; cases op <;> cases x <;> rfl

theorem shiftA_sound {op : BinOp} {k yk : IntKind} {x y : Int} {v : AV} (h : shiftA op k x y = some v) : ∃ u, (Op.shift op k x yk y).run P w = .ok u w ∧ VR μ F w v u := by
  unfold shiftA at h
  split at h
  · cases h
  · rename_i hy
    unfold Op.shift
    cases op <;> simp at h <;> subst h <;> simp [hy] <;> exact .int _ _

theorem binInt_sound {op : BinOp} {ty : TypeId} {k : IntKind} {x y : Int} {v : AV} (h : binInt op k x y = some v) : ∃ u, (binOp op ty (.int k x) (.int k y)).run P w = .ok u w ∧ VR μ F w v u := by
  unfold binInt at h
  cases op
  case quo => simp at h; obtain ⟨h0, h⟩ := h; subst h; exact ⟨_, by simp [binOp, Op.intDiv, h0], .int _ _⟩
  case rem => simp at h; obtain ⟨h0, h⟩ := h; subst h; exact ⟨_, by simp [binOp, Op.intDiv, h0], .int _ _⟩
  case shl => cases h
  case shr => cases h
  all_goals (injection h with h; subst h; cases k <;> first | exact ⟨_, rfl, .int _ _⟩ | exact ⟨_, rfl, .bool _⟩)

theorem binA_sound {op : BinOp} {kd : BK} {ty : TypeId} {x y : AV} {vx vy : Value} {v : AV} (hkd : binKind P ty = some kd)
    (hx : VR μ F w x vx) (hy : VR μ F w y vy) (h : binA op kd x y = some v) (X Y : Operand) :
    ∃ u, ((do eqGuard op ty X Y vx vy; binOp op ty vx vy) : Sem Value).run P w = .ok u w ∧ VR μ F w v u := by
  unfold binA at h
  split at h
  · cases hx; cases hy
    rename_i k1 a1 k2 b1
    split at h
    · obtain ⟨u, hu, hr⟩ := shiftA_sound (P := P) (μ := μ) (F := F) (w := w) (yk := k2) h
      exact ⟨u, by simp [eqGuard_int, binOp, hu], hr⟩
    · obtain ⟨u, hu, hr⟩ := shiftA_sound (P := P) (μ := μ) (F := F) (w := w) (yk := k2) h
      exact ⟨u, by simp [eqGuard_int, binOp, hu], hr⟩
    · split at h
      · rename_i hk
        subst hk
        obtain ⟨u, hu, hr⟩ := binInt_sound (P := P) (μ := μ) (F := F) (w := w) (ty := ty) h
        exact ⟨u, by simp [eqGuard_int, hu], hr⟩
      · cases h
  · cases hx; cases hy
    rename_i b c _ _ 
    have hb : P.underlying ty = some .bool := by
      unfold binKind at hkd; split at hkd <;> first | assumption | (cases hkd)
    split at h <;> first | (cases h; done) | skip
    · cases h; exact ⟨_, by simp only [Sem.run_bind, eqGuard_bool, Result.andThen_ok]; exact run_eql_bool w ty _ _ hb, .bool _⟩
    · cases h; exact ⟨_, by simp only [Sem.run_bind, eqGuard_bool, Result.andThen_ok]; exact run_neq_bool w ty _ _ hb, .bool _⟩
  · cases hx; cases hy
    split at h <;> first | (cases h; done) | skip
    · cases h; exact ⟨_, by simp [eqGuard_str, binOp, Op.stringOp], .bool _⟩
    · cases h; exact ⟨_, by simp [eqGuard_str, binOp, Op.stringOp], .bool _⟩
    · split at h
      · cases h
      · rename_i hle
        cases h; exact ⟨_, by simp only [Sem.run_bind, eqGuard_str, Result.andThen_ok, binOp, Op.stringOp]; rw [if_neg hle]; rfl, .str _⟩
  · cases hy
    have hb : ∃ e, P.underlying ty = some (.slice e) := by
      unfold binKind at hkd; split at hkd <;> first | (cases hkd; done) | exact ⟨_, by assumption⟩
    obtain ⟨e, hb⟩ := hb
    split at h <;> first | (cases h; done) | skip
    · simp only [Option.map_eq_some_iff] at h
      obtain ⟨b, hb1, rfl⟩ := h
      unfold isNilSl at hb1
      split at hb1 <;> first | (cases hb1; done) | skip
      · cases hb1; cases hx
        exact ⟨_, by simp only [Sem.run_bind, eqGuard_sl, Result.andThen_ok, binOp, run_equal_slice_nil w ty e _ _ _ hb, Sem.run_pure]; rfl, .bool _⟩
      · cases hb1; cases hx
        exact ⟨_, by simp only [Sem.run_bind, eqGuard_sl, Result.andThen_ok, binOp, run_equal_slice_nil w ty e _ _ _ hb, Sem.run_pure]; rfl, .bool _⟩
    · simp only [Option.map_eq_some_iff] at h
      obtain ⟨b, hb1, rfl⟩ := h
      unfold isNilSl at hb1
      split at hb1 <;> first | (cases hb1; done) | skip
      · cases hb1; cases hx
        exact ⟨_, by simp only [Sem.run_bind, eqGuard_sl, Result.andThen_ok, binOp, run_equal_slice_nil w ty e _ _ _ hb, Sem.run_pure]; rfl, .bool _⟩
      · cases hb1; cases hx
        exact ⟨_, by simp only [Sem.run_bind, eqGuard_sl, Result.andThen_ok, binOp, run_equal_slice_nil w ty e _ _ _ hb, Sem.run_pure]; rfl, .bool _⟩
  · exfalso
    unfold binKind at hkd
    split at hkd <;> cases hkd
  · cases h

theorem ifc_sound {op : BinOp} {ty : TypeId} {ms : Array (String × TypeId)} {x y : AV} {vx vy : Value} {v : AV} (ht : P.underlying ty = some (.interface ms))
    (hx : VR μ F w x vx) (hy : VR μ F w y vy) (h : binA op .ifc x y = some v) {X Y : Operand} (hc : (isConst X || isConst Y) = true) :
    ∃ u, ((do eqGuard op ty X Y vx vy; binOp op ty vx vy) : Sem Value).run P w = .ok u w ∧ VR μ F w v u := by
  have hu := run_underlying (P := P) ht
  have g1 : ∀ op, (eqGuard op ty X Y .nilIface .nilIface).run P w = .ok () w := by
    intro op
    unfold eqGuard
    cases op <;> cases X <;> cases Y <;> first | rfl | (simp [isConst] at hc; done)
  have g2 : ∀ op t z, (eqGuard op ty X Y .nilIface (.iface t z)).run P w = .ok () w := fun op t z => by unfold eqGuard; cases op <;> rfl
  have g3 : ∀ op t z, (eqGuard op ty X Y (.iface t z) .nilIface).run P w = .ok () w := fun op t z => by unfold eqGuard; cases op <;> rfl
  have k1 : ∀ d, (Op.equalIn (d + 1) ty .nilIface .nilIface).run P w = .ok true w := fun d => by simp [Op.equalIn, hu]
  have k2 : ∀ d t z, (Op.equalIn (d + 1) ty .nilIface (.iface t z)).run P w = .ok false w := fun d t z => by simp [Op.equalIn, hu]
  have k3 : ∀ d t z, (Op.equalIn (d + 1) ty (.iface t z) .nilIface).run P w = .ok false w := fun d t z => by simp [Op.equalIn, hu]
  have q1 : (Op.equal ty .nilIface .nilIface).run P w = .ok true w := k1 9999
  have q2 : ∀ t z, (Op.equal ty .nilIface (.iface t z)).run P w = .ok false w := k2 9999
  have q3 : ∀ t z, (Op.equal ty (.iface t z) .nilIface).run P w = .ok false w := k3 9999
  simp only [binA] at h
  split at h <;> first | (cases h; done) | skip
  all_goals
    simp only [Option.map_eq_some_iff] at h
    obtain ⟨b, hb, rfl⟩ := h
    unfold nilIfc at hb
    split at hb <;> first | (cases hb; done) | skip
    all_goals
      cases hb
      cases hx
      cases hy
      refine ⟨_, ?_, .bool _⟩
      first
        | (simp only [Sem.run_bind, g1, q1, binOp, Result.andThen_ok, Sem.run_pure]; done)
        | (simp only [Sem.run_bind, g2, q2, binOp, Result.andThen_ok, Sem.run_pure]; done)
        | (simp only [Sem.run_bind, g3, q3, binOp, Result.andThen_ok, Sem.run_pure]; done)
        | (simp only [Sem.run_bind, g1, q1, binOp, Result.andThen_ok, Sem.run_pure]; rfl)
        | (simp only [Sem.run_bind, g2, q2, binOp, Result.andThen_ok, Sem.run_pure]; rfl)
        | (simp only [Sem.run_bind, g3, q3, binOp, Result.andThen_ok, Sem.run_pure]; rfl)

theorem eqTwo_inv {as bs : List AV} {r : Bool} (h : eqTwo as bs = some r) : ∃ a b c d, as = [.bool a, .bool b] ∧ bs = [.bool c, .bool d] ∧ r = (a == c && b == d) := by
  unfold eqTwo at h
  split at h
  · cases h; exact ⟨_, _, _, _, rfl, rfl, rfl⟩
  · cases h

theorem lr_two {b c : Bool} {us : Array Value} (h : LR μ F w [.bool b, .bool c] us.toList) : us = #[.bool b, .bool c] := by
  obtain ⟨l⟩ := us
  obtain ⟨hl, hv⟩ := h
  match l, hl with
  | [x, y], _ =>
    have h0 := hv 0 _ x rfl rfl
    have h1 := hv 1 _ y rfl rfl
    cases h0; cases h1
    rfl

theorem equal_two (d : Nat) {t e : TypeId} (ht : P.underlying t = some (.array 2 e)) (he : P.underlying e = some .bool) (hs : sizeOf? P e = some 1) (a b c f : Bool) :
    (Op.equalIn (d + 2) t (.agg #[.bool a, .bool b]) (.agg #[.bool c, .bool f])).run P w = .ok (a == c && b == f) w := by
  have hag : (isAgg e).run P w = .ok false w := by simp [isAgg, run_underlying he]
  have hp : ∀ (x y : Bool) (i : Nat) (z : Bool), #[Value.bool x, Value.bool y][i]? = some (.bool z) → (part e #[.bool x, .bool y] i).run P w = .ok (.bool z) w := by
    intro x y i z h
    simp [part, hag, h]
  have hq := fun (x y : Bool) => run_equalIn_bool (P := P) w d e x y he
  unfold Op.equalIn
  simp only [Sem.run_bind, run_underlying ht, Result.andThen_ok, run_size hs]
  simp only [Std.Legacy.Range.forIn_eq_forIn_range', Std.Legacy.Range.size]
  simp [List.range', hp, hq]
  cases a <;> cases b <;> cases c <;> cases f <;> simp

theorem eqTwo_sound {ty : TypeId} {as bs : List AV} {us vs : Array Value} {r : Bool} (hty : isTwoBools P ty = true) (ha : LR μ F w as us.toList) (hb : LR μ F w bs vs.toList) (h : eqTwo as bs = some r) (X Y : Operand) :
    ((do eqGuard .eql ty X Y (.agg us) (.agg vs); binOp .eql ty (.agg us) (.agg vs)) : Sem Value).run P w = .ok (.bool r) w ∧
    ((do eqGuard .neq ty X Y (.agg us) (.agg vs); binOp .neq ty (.agg us) (.agg vs)) : Sem Value).run P w = .ok (.bool !r) w := by
  obtain ⟨a, b, c, d, rfl, rfl, rfl⟩ := eqTwo_inv h
  obtain rfl := lr_two ha
  obtain rfl := lr_two hb
  unfold isTwoBools at hty
  split at hty
  · rename_i e he
    simp only [Bool.and_eq_true, beq_iff_eq] at hty
    obtain ⟨h1, hs⟩ := hty
    split at h1
    · rename_i hbool
      have hg : P.eqGuardType P.depth ty = false := by
        have : P.depth = (2 * (P.types.size + Made.depth)) + 2 := rfl
        rw [this]
        simp [Program.eqGuardType, he, hbool]
      have hk : ∀ op, (eqGuard op ty X Y (.agg #[.bool a, .bool b]) (.agg #[.bool c, .bool d])).run P w = .ok () w := by
        intro op
        unfold eqGuard
        cases op <;> simp [hg]
      have he2 := equal_two (w := w) 9998 he hbool hs a b c d
      refine ⟨?_, ?_⟩
      · simp only [Sem.run_bind, hk, Result.andThen_ok, binOp, Op.equal, Op.maxDepth, he2, Sem.run_pure]
      · simp only [Sem.run_bind, hk, Result.andThen_ok, binOp, Op.equal, Op.maxDepth, he2, Sem.run_pure]
    · cases h1
  · cases hty

end
end Go.Proofs.YtedembbgeljdkaaGreatDoor.Ev
