/- The evaluator, a part. -/
import Derived.Test.YtopigipibioclaaGreatDoorEvRel
import Derived.Laws.Small
import Derived.Laws.StructEq
import Derived.Laws.Cover3
namespace Go.Proofs.YtopigipibioclaaGreatDoor.Ev
open Go
set_option linter.all false
section
variable {P : Program} {μ : Mu} {F : Nat → Prop} {w : World} {T : Tm} {a : Act}
theorem cW {s : Sem Value} {v : Value} {w' : World} (h : s.run P w = .ok v w') : ((do pure (Next.value (← s))) : Sem Next).run P w = .ok (.value v) w' := by
 simp [h]
theorem xJ {t : TypeId} {i : TypeInfo} (h : P.info? t = some i) (w : World) : (typeInfo t).run P w = .ok i w := by
 simp [typeInfo, h]
theorem lH {t : TypeId} {n : Nat} (h : gz P t = some n) (w : World) : (Go.sizeOf t).run P w = .ok n w := by
 simp only [gz, Option.map_eq_some_iff] at h
 obtain ⟨i, hi, rfl⟩ := h
 simp [Go.sizeOf, xJ hi]
theorem ao4 {t : TypeId} {n : Nat} (h : qP P t = some n) (w : World) : ∃ i, (typeInfo t).run P w = .ok i w ∧ i.bytes = n := by
 simp only [qP, Option.map_eq_some_iff] at h
 obtain ⟨i, hi, rfl⟩ := h
 exact ⟨i, xJ hi w, rfl⟩
theorem XL {t : TypeId} {z : List AV} (h : l9 P t = some z) (w : World) : ∃ v, (zeroValue t).run P w = .ok v w ∧ ∀ μ F W, LR μ F W z v.cells.toList := by
 simp only [l9, Option.bind_eq_bind, bN] at h
 obtain ⟨i, hi, zv, hz, h⟩ := h
 exact ⟨zv, by simp [zeroValue, xJ hi, hz], fun μ F W => XE h⟩
theorem ag2 {t : TypeId} (h : iy P t = some none) (w : World) : (isAgg t).run P w = .ok false w := by
 simp only [iy, Option.bind_eq_bind, bN] at h
 obtain ⟨d, hd, h⟩ := h
 split at h
 ·simp at h
 ·simp at h
 ·rename_i h1 h2
  simp only [isAgg, Sem.run_bind, run_underlying hd, Result.andThen_ok]
  cases d <;> first | rfl | (exact absurd rfl (h1 _)) | (exact absurd rfl (h2 _ _))
theorem ag7 {t : TypeId} {n : Nat} (h : iy P t = some (some n)) (w : World) : (isAgg t).run P w = .ok true w ∧ (Go.sizeOf t).run P w = .ok n w := by
 simp only [iy, Option.bind_eq_bind, bN] at h
 obtain ⟨d, hd, h⟩ := h
 split at h
 ·simp only [Option.map_eq_some_iff] at h
  obtain ⟨m, hm, h⟩ := h
  cases h
  exact ⟨by simp [isAgg, run_underlying hd], lH hm w⟩
 ·simp only [Option.map_eq_some_iff] at h
  obtain ⟨m, hm, h⟩ := h
  cases h
  exact ⟨by simp [isAgg, run_underlying hd], lH hm w⟩
 ·cases h
theorem agp {cs : List AV} {vs : Array Value} {off : Nat} {k : Option Nat} {t : TypeId} {v : AV} (hk : iy P t = some k) (hl : LR μ F w cs vs.toList) (h : pA cs off k = some v) :
  ∃ u, (part t vs off).run P w = .ok u w ∧ VR μ F w v u := by
 cases k with
 | none =>
  obtain ⟨u, a, hr⟩ := hl.get h
  have b : vs[off]? = some u := by simpa using a
  exact ⟨u, by simp [part, ag2 hk, b], hr⟩
 | some n =>
  simp only [pA] at h
  split at h
  ·rename_i d
   cases h
   obtain ⟨h1, h2⟩ := ag7 hk w
   refine ⟨.agg (vs.extract off (off + n)), by simp [part, h1, h2], ?_⟩
   have hlen := hl.1
   simp at hlen
   refine .agg _ _ (by simp; omega) fun i c v hc hv => ?_
   rw [List.getElem?_take] at hc
   split at hc
   ·rename_i hi
    rw [List.getElem?_drop] at hc
    refine hl.2 _ c v hc ?_
    rw [Array.getElem?_extract] at hv
    split at hv
    ·simpa using hv
    ·cases hv
   ·cases hc
  ·cases h
theorem adl (op : BinOp) (ty : TypeId) (X Y : Operand) (j k : IntKind) (m n : Int) : (eqGuard op ty X Y (.int j m) (.int k n)).run P w = .ok () w := by
 unfold eqGuard; cases op <;> rfl
theorem afa (op : BinOp) (ty : TypeId) (X Y : Operand) (b c : Bool) : (eqGuard op ty X Y (.bool b) (.bool c)).run P w = .ok () w := by
 unfold eqGuard; cases op <;> rfl
theorem adn (op : BinOp) (ty : TypeId) (X Y : Operand) (b c : ByteArray) : (eqGuard op ty X Y (.string b) (.string c)).run P w = .ok () w := by
 unfold eqGuard; cases op <;> rfl
theorem yr (op : BinOp) (ty : TypeId) (X Y : Operand) (x : Value) (b : Option Addr) (m n : Nat) : (eqGuard op ty X Y x (.slice b m n)).run P w = .ok () w := by
 unfold eqGuard; cases op <;> cases x <;> rfl
theorem ae7 {op : BinOp} {k yk : IntKind} {x y : Int} {v : AV} (h : Ym op k x y = some v) : ∃ u, (Op.shift op k x yk y).run P w = .ok u w ∧ VR μ F w v u := by
 unfold Ym at h
 split at h
 ·cases h
 ·rename_i hy
  unfold Op.shift
  cases op <;> simp at h <;> subst h <;> simp [hy] <;> exact .int _ _
theorem ai6 {op : BinOp} {ty : TypeId} {k : IntKind} {x y : Int} {v : AV} (h : qL op k x y = some v) : ∃ u, (binOp op ty (.int k x) (.int k y)).run P w = .ok u w ∧ VR μ F w v u := by
 unfold qL at h
 cases op
 case quo => simp at h; obtain ⟨h0, h⟩ := h; subst h; exact ⟨_, by simp [binOp, Op.intDiv, h0], .int _ _⟩
 case rem => simp at h; obtain ⟨h0, h⟩ := h; subst h; exact ⟨_, by simp [binOp, Op.intDiv, h0], .int _ _⟩
 case shl => cases h
 case shr => cases h
 all_goals (injection h with h; subst h; cases k <;> first | exact ⟨_, rfl, .int _ _⟩ | exact ⟨_, rfl, .bool _⟩)
theorem anb {op : BinOp} {kd : BK} {ty : TypeId} {x y : AV} {g i : Value} {v : AV} (d : t8 P ty = some kd)
  (hx : VR μ F w x g) (hy : VR μ F w y i) (h : jz op kd x y = some v) (X Y : Operand) :
  ∃ u, ((do eqGuard op ty X Y g i; binOp op ty g i) : Sem Value).run P w = .ok u w ∧ VR μ F w v u := by
 unfold jz at h
 split at h
 ·cases hx; cases hy
  rename_i k1 a1 k2 b1
  split at h
  ·obtain ⟨u, f, hr⟩ := ae7 (P := P) (μ := μ) (F := F) (w := w) (yk := k2) h
   exact ⟨u, by simp [adl, binOp, f], hr⟩
  ·obtain ⟨u, f, hr⟩ := ae7 (P := P) (μ := μ) (F := F) (w := w) (yk := k2) h
   exact ⟨u, by simp [adl, binOp, f], hr⟩
  ·split at h
   ·rename_i hk
    subst hk
    obtain ⟨u, f, hr⟩ := ai6 (P := P) (μ := μ) (F := F) (w := w) (ty := ty) h
    exact ⟨u, by simp [adl, f], hr⟩
   ·cases h
 ·cases hx; cases hy
  rename_i b c _ _ 
  have hb : P.underlying ty = some .bool := by
   unfold t8 at d; split at d <;> first | assumption | (cases d)
  split at h <;> first | (cases h; done) | skip
  ·cases h; exact ⟨_, by simp only [Sem.run_bind, afa, Result.andThen_ok]; exact run_eql_bool w ty _ _ hb, .bool _⟩
  ·cases h; exact ⟨_, by simp only [Sem.run_bind, afa, Result.andThen_ok]; exact run_neq_bool w ty _ _ hb, .bool _⟩
 ·cases hx; cases hy
  split at h <;> first | (cases h; done) | skip
  ·cases h; exact ⟨_, by simp [adn, binOp, Op.stringOp], .bool _⟩
  ·cases h; exact ⟨_, by simp [adn, binOp, Op.stringOp], .bool _⟩
  ·split at h
   ·cases h
   ·rename_i j
    cases h; exact ⟨_, by simp only [Sem.run_bind, adn, Result.andThen_ok, binOp, Op.stringOp]; rw [if_neg j]; rfl, .str _⟩
 ·cases hy
  have hb : ∃ e, P.underlying ty = some (.slice e) := by
   unfold t8 at d; split at d <;> first | (cases d; done) | exact ⟨_, by assumption⟩
  obtain ⟨e, hb⟩ := hb
  split at h <;> first | (cases h; done) | skip
  ·simp only [Option.map_eq_some_iff] at h
   obtain ⟨b, a, rfl⟩ := h
   unfold Yx at a
   split at a <;> first | (cases a; done) | skip
   ·cases a; cases hx
    exact ⟨_, by simp only [Sem.run_bind, yr, Result.andThen_ok, binOp, run_equal_slice_nil w ty e _ _ _ hb, Sem.run_pure]; rfl, .bool _⟩
   ·cases a; cases hx
    exact ⟨_, by simp only [Sem.run_bind, yr, Result.andThen_ok, binOp, run_equal_slice_nil w ty e _ _ _ hb, Sem.run_pure]; rfl, .bool _⟩
   ·cases a; cases hx
    ·exact ⟨_, by simp only [Sem.run_bind, yr, Result.andThen_ok, binOp, run_equal_slice_nil w ty e _ _ _ hb, Sem.run_pure]; rfl, .bool _⟩
    ·exact ⟨_, by simp only [Sem.run_bind, yr, Result.andThen_ok, binOp, run_equal_slice_nil w ty e _ _ _ hb, Sem.run_pure]; rfl, .bool _⟩
  ·simp only [Option.map_eq_some_iff] at h
   obtain ⟨b, a, rfl⟩ := h
   unfold Yx at a
   split at a <;> first | (cases a; done) | skip
   ·cases a; cases hx
    exact ⟨_, by simp only [Sem.run_bind, yr, Result.andThen_ok, binOp, run_equal_slice_nil w ty e _ _ _ hb, Sem.run_pure]; rfl, .bool _⟩
   ·cases a; cases hx
    exact ⟨_, by simp only [Sem.run_bind, yr, Result.andThen_ok, binOp, run_equal_slice_nil w ty e _ _ _ hb, Sem.run_pure]; rfl, .bool _⟩
   ·cases a; cases hx
    ·exact ⟨_, by simp only [Sem.run_bind, yr, Result.andThen_ok, binOp, run_equal_slice_nil w ty e _ _ _ hb, Sem.run_pure]; rfl, .bool _⟩
    ·exact ⟨_, by simp only [Sem.run_bind, yr, Result.andThen_ok, binOp, run_equal_slice_nil w ty e _ _ _ hb, Sem.run_pure]; rfl, .bool _⟩
 ·exfalso
  unfold t8 at d
  split at d <;> cases d
 ·cases h
theorem aoh {op : BinOp} {ty : TypeId} {m : Array (String × TypeId)} {x y : AV} {c e : Value} {v : AV} (ht : P.underlying ty = some (.interface m))
  (hx : VR μ F w x c) (hy : VR μ F w y e) (h : jz op .ifc x y = some v) {X Y : Operand} (hc : (XB X || XB Y) = true) :
  ∃ u, ((do eqGuard op ty X Y c e; binOp op ty c e) : Sem Value).run P w = .ok u w ∧ VR μ F w v u := by
 have a := run_underlying (P := P) ht
 have f : ∀ op, (eqGuard op ty X Y .nilIface .nilIface).run P w = .ok () w := by
  intro op
  unfold eqGuard
  cases op <;> cases X <;> cases Y <;> first | rfl | (simp [XB] at hc; done)
 have g : ∀ op t z, (eqGuard op ty X Y .nilIface (.iface t z)).run P w = .ok () w := fun op t z => by unfold eqGuard; cases op <;> rfl
 have i : ∀ op t z, (eqGuard op ty X Y (.iface t z) .nilIface).run P w = .ok () w := fun op t z => by unfold eqGuard; cases op <;> rfl
 have k1 : ∀ d, (Op.equalIn (d + 1) ty .nilIface .nilIface).run P w = .ok true w := fun d => by simp [Op.equalIn, a]
 have k2 : ∀ d t z, (Op.equalIn (d + 1) ty .nilIface (.iface t z)).run P w = .ok false w := fun d t z => by simp [Op.equalIn, a]
 have k3 : ∀ d t z, (Op.equalIn (d + 1) ty (.iface t z) .nilIface).run P w = .ok false w := fun d t z => by simp [Op.equalIn, a]
 have j : (Op.equal ty .nilIface .nilIface).run P w = .ok true w := k1 9999
 have k : ∀ t z, (Op.equal ty .nilIface (.iface t z)).run P w = .ok false w := k2 9999
 have l : ∀ t z, (Op.equal ty (.iface t z) .nilIface).run P w = .ok false w := k3 9999
 simp only [jz] at h
 split at h <;> first | (cases h; done) | skip
 all_goals
  simp only [Option.map_eq_some_iff] at h
  obtain ⟨b, hb, rfl⟩ := h
  unfold ao6 at hb
  split at hb <;> first | (cases hb; done) | skip
  all_goals
   cases hb
   cases hx
   cases hy
   refine ⟨_, ?_, .bool _⟩
   first
    | (simp only [Sem.run_bind, f, j, binOp, Result.andThen_ok, Sem.run_pure]; done)
    | (simp only [Sem.run_bind, g, k, binOp, Result.andThen_ok, Sem.run_pure]; done)
    | (simp only [Sem.run_bind, i, l, binOp, Result.andThen_ok, Sem.run_pure]; done)
    | (simp only [Sem.run_bind, f, j, binOp, Result.andThen_ok, Sem.run_pure]; rfl)
    | (simp only [Sem.run_bind, g, k, binOp, Result.andThen_ok, Sem.run_pure]; rfl)
    | (simp only [Sem.run_bind, i, l, binOp, Result.andThen_ok, Sem.run_pure]; rfl)
theorem ano {as bs : List AV} {r : Bool} (h : pj as bs = some r) : ∃ a b c d, as = [.bool a, .bool b] ∧ bs = [.bool c, .bool d] ∧ r = (a == c && b == d) := by
 unfold pj at h
 split at h
 ·cases h; exact ⟨_, _, _, _, rfl, rfl, rfl⟩
 ·cases h
theorem rN {b c : Bool} {us : Array Value} (h : LR μ F w [.bool b, .bool c] us.toList) : us = #[.bool b, .bool c] := by
 obtain ⟨l⟩ := us
 obtain ⟨hl, hv⟩ := h
 match l, hl with
 | [x, y], _ =>
  have h0 := hv 0 _ x rfl rfl
  have h1 := hv 1 _ y rfl rfl
  cases h0; cases h1
  rfl
theorem aor (d : Nat) {t e : TypeId} (ht : P.underlying t = some (.array 2 e)) (he : P.underlying e = some .bool) (hs : gz P e = some 1) (a b c f : Bool) :
  (Op.equalIn (d + 2) t (.agg #[.bool a, .bool b]) (.agg #[.bool c, .bool f])).run P w = .ok (a == c && b == f) w := by
 have g : (isAgg e).run P w = .ok false w := by simp [isAgg, run_underlying he]
 have hp : ∀ (x y : Bool) (i : Nat) (z : Bool), #[Value.bool x, Value.bool y][i]? = some (.bool z) → (part e #[.bool x, .bool y] i).run P w = .ok (.bool z) w := by
  intro x y i z h
  simp [part, g, h]
 have hq := fun (x y : Bool) => run_equalIn_bool (P := P) w d e x y he
 unfold Op.equalIn
 simp only [Sem.run_bind, run_underlying ht, Result.andThen_ok, lH hs]
 simp only [Std.Legacy.Range.forIn_eq_forIn_range', Std.Legacy.Range.size]
 simp [List.range', hp, hq]
 cases a <;> cases b <;> cases c <;> cases f <;> simp
theorem akp {ty : TypeId} {as bs : List AV} {us vs : Array Value} {r : Bool} (hty : aeu P ty = true) (ha : LR μ F w as us.toList) (hb : LR μ F w bs vs.toList) (h : pj as bs = some r) (X Y : Operand) :
  ((do eqGuard .eql ty X Y (.agg us) (.agg vs); binOp .eql ty (.agg us) (.agg vs)) : Sem Value).run P w = .ok (.bool r) w ∧
  ((do eqGuard .neq ty X Y (.agg us) (.agg vs); binOp .neq ty (.agg us) (.agg vs)) : Sem Value).run P w = .ok (.bool !r) w := by
 obtain ⟨a, b, c, d, rfl, rfl, rfl⟩ := ano h
 obtain rfl := rN ha
 obtain rfl := rN hb
 unfold aeu at hty
 split at hty
 ·rename_i e he
  simp only [Bool.and_eq_true, beq_iff_eq] at hty
  obtain ⟨h1, hs⟩ := hty
  split at h1
  ·rename_i f
   have hg : P.eqGuardType P.depth ty = false := by
    have : P.depth = (2 * (P.types.size + Made.depth)) + 2 := rfl
    rw [this]
    simp [Program.eqGuardType, he, f]
   have hk : ∀ op, (eqGuard op ty X Y (.agg #[.bool a, .bool b]) (.agg #[.bool c, .bool d])).run P w = .ok () w := by
    intro op
    unfold eqGuard
    cases op <;> simp [hg]
   have g := aor (w := w) 9998 he f hs a b c d
   refine ⟨?_, ?_⟩
   ·simp only [Sem.run_bind, hk, Result.andThen_ok, binOp, Op.equal, Op.maxDepth, g, Sem.run_pure]
   ·simp only [Sem.run_bind, hk, Result.andThen_ok, binOp, Op.equal, Op.maxDepth, g, Sem.run_pure]
  ·cases h1
 ·cases hty
theorem ae9 (d : Nat) (xs c : Array Value) : ∀ (fs : List Field) (i : Nat) (as bs : List AV) (r : Bool), (∀ j f, fs[j]? = some f → f.name ≠ "_" ∧ f.offset = i + j ∧ ∃ k, P.underlying f.type = some (.int k)) →
  (∀ j k a, as[j]? = some (.int k a) → xs[i + j]? = some (.int k a)) → (∀ j k a, bs[j]? = some (.int k a) → c[i + j]? = some (.int k a)) → Ca fs.length as bs = some r →
  (Op.eqFields (d + 1) xs c fs).run P w = .ok r w
 | [], i, as, bs, r, hf, ha, hb, h => by
  unfold Ca at h
  split at h
  ·cases h; simp [Op.eqFields]
  ·rename_i e; cases e
  ·cases h
 | f :: fs, i, as, bs, r, hf, ha, hb, h => by
  unfold Ca at h
  split at h
  ·rename_i e; cases e
  ·rename_i n k a m v b o e
   injection e with e
   split at h
   ·rename_i hk
    subst hk
    simp only [Option.map_eq_some_iff] at h
    obtain ⟨t, l, rfl⟩ := h
    obtain ⟨hn, s, q, hq⟩ := hf 0 f rfl
    have p : (isAgg f.type).run P w = .ok false w := by simp [isAgg, run_underlying hq]
    have hp : ∀ (zs : Array Value) (z : Value), zs[i]? = some z → (part f.type zs f.offset).run P w = .ok z w := by
     intro zs z hz
     rw [s]
     simp [part, p, hz]
    have hx := hp xs _ (ha 0 k a rfl)
    have hy := hp c _ (hb 0 k b rfl)
    have ih := ae9 d xs c fs (i + 1) m o t (fun j g hg => by have := hf (j + 1) g hg; exact ⟨this.1, by omega, this.2.2⟩) (fun j k a hj => by have := ha (j + 1) k a hj; rwa [show i + 1 + j = i + (j + 1) by omega]) (fun j k a hj => by have := hb (j + 1) k a hj; rwa [show i + 1 + j = i + (j + 1) by omega]) (by rw [← e] at l; exact l)
    simp only [Op.eqFields, hn, ne_eq, not_false_eq_true, if_true, Sem.run_bind, hx, hy, Result.andThen_ok, run_equalIn_int w d f.type k q a b hq]
    cases u : (a == b)
    ·simp
    ·simpa using ih
   ·cases h
  ·cases h
theorem agw {ty : TypeId} {as bs : List AV} {us vs : Array Value} {r : Bool} (hty : Ck P ty ≠ 0) (ha : LR μ F w as us.toList) (hb : LR μ F w bs vs.toList) (h : Ca (Ck P ty) as bs = some r) (X Y : Operand) :
  ((do eqGuard .eql ty X Y (.agg us) (.agg vs); binOp .eql ty (.agg us) (.agg vs)) : Sem Value).run P w = .ok (.bool r) w ∧
  ((do eqGuard .neq ty X Y (.agg us) (.agg vs); binOp .neq ty (.agg us) (.agg vs)) : Sem Value).run P w = .ok (.bool !r) w := by
 unfold Ck at hty h
 split at hty
 rotate_left
 ·exact absurd rfl hty
 rename_i fs b
 simp only [b] at h
 split at hty
 rotate_left
 ·exact absurd rfl hty
 rename_i hc
 simp only [hc, if_true] at h
 simp only [Bool.and_eq_true, Bool.not_eq_true', List.all_eq_true, bne_iff_ne, ne_eq, beq_iff_eq] at hc
 obtain ⟨l, hst⟩ := hc
 have g : P.fieldsOf ty = fs := by simp [Program.fieldsOf, b]
 have hf : ∀ j f, fs.toList[j]? = some f → f.name ≠ "_" ∧ f.offset = 0 + j ∧ ∃ k, P.underlying f.type = some (.int k) := by
  intro j f hj
  have hm : (f, j) ∈ fs.toList.zipIdx := by
   rw [List.mem_zipIdx_iff_getElem?]; exact hj
  have := l _ hm
  refine ⟨this.1, by simpa using this.2.1, ?_⟩
  have h3 := this.2.2
  split at h3
  ·exact ⟨_, by assumption⟩
  ·cases h3
 have d : ∀ {c : List AV} {zs : Array Value}, LR μ F w c zs.toList → ∀ j k a, c[j]? = some (.int k a) → zs[0 + j]? = some (.int k a) := by
  intro c zs hl j k a hj
  obtain ⟨hlen, hv⟩ := hl
  have n : j < c.length := (List.getElem?_eq_some_iff.1 hj).1
  have hz : zs.toList[j]? = some (zs.toList[j]'(by omega)) := List.getElem?_eq_getElem _
  have i := hv j _ _ hj hz
  generalize o : zs.toList[j]'(by omega) = z at i hz
  cases i
  rw [Nat.zero_add, ← Array.getElem?_toList]
  exact hz
 have hg : P.eqGuardType P.depth ty = false := by
  have : P.depth = (2 * (P.types.size + Made.depth)) + 2 := rfl
  rw [this]
  simp only [Program.eqGuardType, b]
  rw [← Array.any_toList, List.any_eq_false]
  intro f m
  obtain ⟨j, hj⟩ := List.mem_iff_getElem?.1 m
  obtain ⟨-, -, k, hk⟩ := hf j f hj
  simp [hk]
 have he := ae9 (w := w) 9998 us vs fs.toList 0 as bs r hf (d ha) (d hb) (by simpa using h)
 have e : (Op.equalIn 10000 ty (.agg us) (.agg vs)).run P w = .ok r w := by
  rw [run_equalIn_struct w 9999 ty us vs (by rw [g]; exact b) hst, g]
  exact he
 refine ⟨?_, ?_⟩
 ·simp only [Sem.run_bind, run_eqGuard_agg w _ _ _ _ _ _ hg, Result.andThen_ok, run_eql_struct, e]
 ·simp only [Sem.run_bind, run_eqGuard_agg w _ _ _ _ _ _ hg, Result.andThen_ok, run_neq_struct, e]
end
end Go.Proofs.YtopigipibioclaaGreatDoor.Ev

namespace Go.Proofs.YtopigipibioclaaGreatDoor.Ev
open Go
set_option linter.all false
section
variable {P : Program} {μ : Mu} {F : Nat → Prop} {w : World} {T : Tm} {a : Act}
theorem ao3 {op : UnOp} {x : AV} {a : Value} {v : AV} (hx : VR μ F w x a) (h : Zh op x = some v) : ∃ u, (Op.unary op a).run P w = .ok u w ∧ VR μ F w v u := by
 unfold Zh at h
 split at h
 ·cases h; cases hx; exact ⟨_, rfl, .int _ _⟩
 ·cases h; cases hx; exact ⟨_, rfl, .int _ _⟩
 ·cases h; cases hx; exact ⟨_, rfl, .bool _⟩
 ·cases h
def OR (μ : Mu) (F : Nat → Prop) (w : World) (x : Option AV) (v : Option Value) : Prop :=
 match x, v with
 | none, none => True
 | some x, some v => VR μ F w x v
 | _, _ => False
theorem xI (k : IntKind) (n y : Nat) (code : BoundsCode) (h : n ≤ y) : (Instr.sliceBound (.int k (n : Int)) y code).run P w = .ok n w := by
 simp [Instr.sliceBound, asIntOf, h]
theorem aek {len cap m h l : Nat} {k1 k2 : IntKind} {lo : Option Value} (hl : (lo = none ∧ l = 0) ∨ ∃ k, lo = some (.int k (l : Int))) (h1 : m ≤ cap) (h2 : h ≤ m) (h3 : l ≤ h) :
  (Instr.sliceBounds true len cap lo (some (.int k1 (h : Int))) (some (.int k2 (m : Int)))).run P w = .ok (l, h, m) w := by
 rcases hl with ⟨rfl, rfl⟩ | ⟨k, rfl⟩
 ·simp [Instr.sliceBounds, xI k2 m cap _ h1, xI k1 h m _ h2]
 ·simp [Instr.sliceBounds, xI k2 m cap _ h1, xI k1 h m _ h2, xI k l h _ h3]
theorem YS {s : Bool} {len cap h l : Nat} {lo hi : Option Value} (hl : (lo = none ∧ l = 0) ∨ ∃ k, lo = some (.int k (l : Int))) (hh : (hi = none ∧ h = len) ∨ ∃ k, hi = some (.int k (h : Int))) (h2 : h ≤ cap) (h3 : l ≤ h) :
  (Instr.sliceBounds s len cap lo hi none).run P w = .ok (l, h, cap) w := by
 rcases hl with ⟨rfl, rfl⟩ | ⟨k, rfl⟩ <;> rcases hh with ⟨rfl, rfl⟩ | ⟨a, rfl⟩
 ·simp [Instr.sliceBounds]
 ·simp [Instr.sliceBounds, xI a h cap _ h2]
 ·simp [Instr.sliceBounds, xI k l h _ h3]
 ·simp [Instr.sliceBounds, xI a h cap _ h2, xI k l h _ h3]
theorem tZ {x : Option AV} {v : Option Value} {n d : Nat} (h : OR μ F w x v) (hn : (x.map i7).getD (some d) = some n) : (v = none ∧ n = d) ∨ ∃ k, v = some (.int k (n : Int)) := by
 cases x with
 | none =>
  cases v with
  | none => simp at hn; exact .inl ⟨rfl, hn.symm⟩
  | some v => exact h.elim
 | some x =>
  cases v with
  | none => exact h.elim
  | some v =>
   simp at hn
   obtain ⟨k, hk⟩ := pC hn h
   exact .inr ⟨k, by rw [hk]⟩
theorem uj (b o k : Nat) : (⟨b, o, none⟩ : Addr).add k = ⟨b, o + k, none⟩ := by
 unfold Addr.add; split <;> simp_all
theorem CM {t e : TypeId} {size : Nat} (ht : P.underlying t = some (.slice e)) (hs : gz P e = some size) {a : Option Addr} {len cap l h m : Nat} {lo hi mx : Option Value}
  (hb : (Instr.sliceBounds true len cap lo hi mx).run P w = .ok (l, h, m) w) :
  (Instr.sliceAt t (.slice a len cap) lo hi mx).run P w = .ok (.slice (if m = l then a else a.map (·.add (l * size))) (h - l) (m - l)) w := by
 simp [Instr.sliceAt, Instr.slice, run_underlying ht, hb, lH hs]
theorem ai3 {size : Nat} {t e : TypeId} {x : AV} {p : Value} {lo hi mx : Option AV} {C k vmx : Option Value} {v : AV} 
  (ht : P.underlying t = some (.slice e)) (hs : gz P e = some size)
  (hx : VR μ F w x p) (J : ∀ s, x ≠ .str s) (o : OR μ F w lo C) (f : OR μ F w hi k) (g : OR μ F w mx vmx) (h : CA size x lo hi mx = some v) :
  ∃ u, (Instr.sliceAt t p C k vmx).run P w = .ok u w ∧ VR μ F w v u := by
 unfold CA at h
 split at h
 ·rename_i b off n c sz ex
  split at h
  ·cases h
  rename_i hsz
  have hsz : sz = size := by simpa using hsz
  subst hsz
  cases hx with
  | own _ _ _ _ _ _ L cap h1 h2 h3 h4 h5 M =>
  split at h
  ·rename_i B h0 lo
   simp only [Option.bind_eq_bind, bN] at h
   obtain ⟨m, hm, h', hh, l, hl, h⟩ := h
   split at h
   ·rename_i hc
    obtain ⟨c1, c2, c3⟩ := hc
    obtain ⟨d, rfl⟩ : ∃ d, vmx = some d := by cases vmx with | none => exact g.elim | some d => exact ⟨_, rfl⟩
    obtain ⟨j, rfl⟩ : ∃ j, k = some j := by cases k with | none => exact f.elim | some d => exact ⟨_, rfl⟩
    obtain ⟨k2, rfl⟩ := pC hm g
    obtain ⟨k1, rfl⟩ := pC hh f
    have hb := aek (P := P) (w := w) (len := n) (cap := cap) (k1 := k1) (k2 := k2) (tZ o hl) (Nat.le_trans c1 h4) c2 c3
    refine ⟨_, CM ht hs hb, ?_⟩
    split at h
    ·rename_i e'
     cases h
     subst e'
     simp only [if_true, Nat.sub_self]
     have : h' - m = 0 := by omega
     rw [this]
     exact .own _ _ _ _ _ _ L 0 h1 h2 (Nat.le_refl _) (Nat.le_refl _) (fun _ => rfl) (by omega)
    ·rename_i e'
     cases h
     rw [if_neg e']
     simp only [Option.map_some, uj]
     refine .own _ _ _ _ _ _ L _ h1 h2 (by omega) (Nat.le_refl _) (fun _ => rfl) ?_
     have : l * sz + (m - l) * sz = m * sz := by rw [← Nat.add_mul]; congr 1; omega
     have G : m * sz ≤ cap * sz := Nat.mul_le_mul_right _ (by omega)
     omega
   ·cases h
  ·rename_i hi lo
   simp only [Option.bind_eq_bind, bN] at h
   obtain ⟨h', hh, l, hl, h⟩ := h
   obtain rfl : vmx = none := by cases vmx with | none => rfl | some d => exact g.elim
   split at h
   ·rename_i hc
    obtain ⟨c1, c2⟩ := hc
    have hb := YS (P := P) (w := w) (s := true) (len := n) (cap := cap) (tZ o hl) (tZ f hh) (by omega) c2
    refine ⟨_, CM ht hs hb, ?_⟩
    have G : (cap - l) * sz + l * sz ≤ cap * sz := by rw [← Nat.add_mul]; exact Nat.mul_le_mul_right _ (by omega)
    split at h
    ·rename_i e'
     cases h
     by_cases e2 : cap = l
     ·have H : l = 0 := by omega
      subst H
      simp only [e2, if_true, Nat.zero_mul, Nat.add_zero, Nat.sub_zero]
      subst e2
      exact .own _ _ _ _ _ _ L 0 h1 h2 (by omega) (by omega) (fun e => by have := h5 e; omega) (by omega)
     ·rw [if_neg e2]
      simp only [Option.map_some, uj]
      exact .own _ _ _ _ _ _ L _ h1 h2 (by omega) (by omega) (fun e => by have := h5 e; omega) (by omega)
    ·rename_i e'
     have I : l = c := by omega
     subst I
     split at h
     ·rename_i D
      cases h
      have := h5 D
      subst this
      rw [if_pos rfl]
      exact .own _ _ _ _ _ _ L _ h1 h2 (by omega) (by omega) (fun e => rfl) (by omega)
     ·cases h
      have : h' - l = 0 := by omega
      rw [this]
      split
      ·exact .sl0 _ _
      ·exact .sl0 _ _
   ·cases h
  ·cases h
 ·rename_i cs n
  have A : ∀ l h' m, h' ≤ n → l ≤ h' → h' ≤ m → h' * size ≤ cs.length → ∀ (a0 : Addr) (cap : Nat), VR μ F w (.sl cs n) (.slice (some a0) n cap) → m ≤ cap →
    VR μ F w (.sl ((cs.drop (l * size)).take ((h' - l) * size)) (h' - l)) (.slice (if m = l then some a0 else (some a0).map (·.add (l * size))) (h' - l) (m - l)) := by
   intro l h' m Q K R T a0 cap hv S
   by_cases e0 : h' = l
   ·subst e0
    simp only [Nat.sub_self, Nat.zero_mul, List.take_zero]
    split
    ·exact .sl0 _ _
    ·exact .sl0 _ _
   ·rw [if_neg (by omega)]
    cases hv with
    | sl0 => omega
    | sl _ _ _ blk off arr ty fr q r y E z =>
     simp only [Option.map_some, uj]
     have O : l * size ≤ h' * size := Nat.mul_le_mul_right _ K
     refine .sl _ _ _ blk _ arr ty fr q r (by omega) ?_ ?_
     ·simp only [List.length_take, List.length_drop]; omega
     ·intro i c v hc hv
      rw [List.getElem?_take] at hc
      split at hc
      ·rw [List.getElem?_drop] at hc
       exact z _ c v hc (by rw [← Nat.add_assoc]; exact hv)
      ·cases hc
  obtain ⟨a0, cap, rfl, N⟩ : ∃ a0 cap, p = .slice (some a0) n cap ∧ n ≤ cap := by
   cases hx with
   | sl0 a cap => exact ⟨_, _, rfl, Nat.zero_le _⟩
   | sl _ _ _ blk off arr ty fr q r y E z => exact ⟨_, _, rfl, y⟩
  split at h
  ·rename_i hi lo
   simp only [Option.bind_eq_bind, bN] at h
   obtain ⟨h', hh, l, hl, h⟩ := h
   obtain rfl : vmx = none := by cases vmx with | none => rfl | some d => exact g.elim
   split at h
   ·rename_i hc
    obtain ⟨c1, c2, c3⟩ := hc
    cases h
    have hb := YS (P := P) (w := w) (s := true) (len := n) (cap := cap) (tZ o hl) (tZ f hh) (by omega) c2
    exact ⟨_, CM ht hs hb, A l h' cap c1 c2 (by omega) c3 a0 cap hx (Nat.le_refl _)⟩
   ·cases h
  ·rename_i B h0 lo
   simp only [Option.bind_eq_bind, bN] at h
   obtain ⟨m, hm, h', hh, l, hl, h⟩ := h
   split at h
   ·rename_i hc
    obtain ⟨c1, c2, c3, c4⟩ := hc
    cases h
    obtain ⟨d, rfl⟩ : ∃ d, vmx = some d := by cases vmx with | none => exact g.elim | some d => exact ⟨_, rfl⟩
    obtain ⟨j, rfl⟩ : ∃ j, k = some j := by cases k with | none => exact f.elim | some d => exact ⟨_, rfl⟩
    obtain ⟨k2, rfl⟩ := pC hm g
    obtain ⟨k1, rfl⟩ := pC hh f
    have hb := aek (P := P) (w := w) (len := n) (cap := cap) (k1 := k1) (k2 := k2) (tZ o hl) (by omega) c2 c3
    exact ⟨_, CM ht hs hb, A l h' m (by omega) c3 c2 c4 a0 cap hx (by omega)⟩
   ·cases h
  ·cases h
 ·cases hx
  split at h
  ·rename_i B h0
   split at h
   ·rename_i hc
    obtain ⟨hm, hh, hl⟩ := hc
    cases h
    obtain ⟨d, rfl⟩ : ∃ d, vmx = some d := by cases vmx with | none => exact g.elim | some d => exact ⟨_, rfl⟩
    obtain ⟨j, rfl⟩ : ∃ j, k = some j := by cases k with | none => exact f.elim | some d => exact ⟨_, rfl⟩
    obtain ⟨k2, rfl⟩ := pC hm g
    obtain ⟨k1, rfl⟩ := pC hh f
    have hb := aek (P := P) (w := w) (len := 0) (cap := 0) (k1 := k1) (k2 := k2) (tZ o hl) (Nat.le_refl _) (Nat.le_refl _) (Nat.le_refl _)
    exact ⟨_, CM ht hs hb, .nilSl⟩
   ·cases h
  ·rename_i hi
   obtain rfl : vmx = none := by cases vmx with | none => rfl | some d => exact g.elim
   split at h
   ·rename_i hc
    obtain ⟨hh, hl⟩ := hc
    cases h
    have hb := YS (P := P) (w := w) (s := true) (len := 0) (cap := 0) (tZ o hl) (tZ f hh) (Nat.le_refl _) (Nat.le_refl _)
    exact ⟨_, CM ht hs hb, .nilSl⟩
   ·cases h
  ·cases h
 ·exact absurd rfl (J _)
 ·cases h
theorem agx {size : Nat} {t : TypeId} {s : ByteArray} {lo hi mx : Option AV} {b a vmx : Option Value} {v : AV} 
  (ht : P.underlying t = some .string) (d : OR μ F w lo b) (c : OR μ F w hi a) (e : OR μ F w mx vmx) (h : CA size (.str s) lo hi mx = some v) :
  ∃ u, (Instr.sliceAt t (.string s) b a vmx).run P w = .ok u w ∧ VR μ F w v u := by
 unfold CA at h
 simp only at h
 split at h
 ·simp only [Option.bind_eq_bind, bN] at h
  obtain ⟨h', hh, l, hl, h⟩ := h
  obtain rfl : vmx = none := by cases vmx with | none => rfl | some f => exact e.elim
  split at h
  ·rename_i hc
   simp only [Bool.and_eq_true, decide_eq_true_eq] at hc
   cases h
   have hb := YS (P := P) (w := w) (s := false) (len := s.size) (cap := s.size) (tZ d hl) (tZ c hh) hc.1 hc.2
   exact ⟨_, by simp [Instr.sliceAt, Instr.slice, run_underlying ht, hb], .str _⟩
  ·cases h
 ·cases h
end
end Go.Proofs.YtopigipibioclaaGreatDoor.Ev

namespace Go.Proofs.YtopigipibioclaaGreatDoor.Ev
open Go
set_option linter.all false
section
variable {P : Program} {μ : Mu} {F : Nat → Prop} {w : World} {T : Tm} {a : Act}
theorem XF (hT : LR μ F w T a.tmps.toList) {x : Option Operand} {s : Option Src} (h : lC x = some s) : OR μ F w (s.map (Src.ev T)) (x.map a.eval) := by
 cases x with
 | none => cases h; trivial
 | some x =>
  simp only [lC, Option.map_eq_some_iff] at h
  obtain ⟨y, hy, rfl⟩ := h
  exact fw hT hy
theorem yu {as : List AV} {vs : Array Value} (h : LR μ F w as vs.toList) : as.length = vs.size ∧ ∀ (i : Nat) (c : AV) (v : Value), as[i]? = some c → vs[i]? = some v → VR μ F w c v :=
 ⟨by simpa using h.1, fun i c v h1 h2 => h.2 i c v h1 (by simpa using h2)⟩
theorem am9 {o : Oper} {c x y : Operand} (d : o.op = .pick c x y) {b : Bool} (hc : a.eval c = .bool b) : (execOp a.eval o).run P w = .ok (.value (if b then a.eval x else a.eval y)) w := by
 simp [execOp, d, hc, asBool]
theorem al4 (k : IntKind) : ∀ (l : List AV) (vs : List Value) (m : Int) (r : AV), LR μ F w l vs → l.foldlM rJ (AV.int k m) = some r →
  ∃ u, (vs.foldlM Builtin.min2 (.int k m)).run P w = .ok u w ∧ VR μ F w r u
 | [], [], m, r, _, h => by simp at h; subst h; exact ⟨_, rfl, .int _ _⟩
 | [], _ :: _, _, _, hl, _ => by have := hl.1; simp at this
 | _ :: _, [], _, _, hl, _ => by have := hl.1; simp at this
 | x :: l, v :: vs, m, r, hl, h => by
  simp only [List.foldlM_cons, Option.bind_eq_bind, bN] at h
  obtain ⟨y, hy, h⟩ := h
  have hx := hl.head
  cases x <;> simp only [rJ] at hy <;> first | (cases hy; done) | skip
  cases hy
  cases hx
  obtain ⟨u, a, hr⟩ := al4 k l vs _ r hl.tail h
  exact ⟨u, by simp only [List.foldlM_cons, Sem.run_bind, Builtin.min2, Sem.run_pure, Result.andThen_ok]; exact a, hr⟩
theorem al9 (k : IntKind) : ∀ (l : List AV) (vs : List Value) (m : Int) (r : AV), LR μ F w l vs → l.foldlM rK (AV.int k m) = some r →
  ∃ u, (vs.foldlM Builtin.max2 (.int k m)).run P w = .ok u w ∧ VR μ F w r u
 | [], [], m, r, _, h => by simp at h; subst h; exact ⟨_, rfl, .int _ _⟩
 | [], _ :: _, _, _, hl, _ => by have := hl.1; simp at this
 | _ :: _, [], _, _, hl, _ => by have := hl.1; simp at this
 | x :: l, v :: vs, m, r, hl, h => by
  simp only [List.foldlM_cons, Option.bind_eq_bind, bN] at h
  obtain ⟨y, hy, h⟩ := h
  have hx := hl.head
  cases x <;> simp only [rK] at hy <;> first | (cases hy; done) | skip
  cases hy
  cases hx
  obtain ⟨u, a, hr⟩ := al9 k l vs _ r hl.tail h
  exact ⟨u, by simp only [List.foldlM_cons, Sem.run_bind, Builtin.max2, Sem.run_pure, Result.andThen_ok]; exact a, hr⟩
theorem ab9 (w : World) : ∀ (l : List Field) (pl : List (Nat × Nat)), (l.mapM fun f => (gz P f.type).map fun n => (f.offset, n)) = some pl →
  (l.mapM fun f => (do pure (f.offset, ← Go.sizeOf f.type) : Sem (Nat × Nat))).run P w = .ok pl w
 | [], pl, h => by simp at h; subst h; simp
 | f :: l, pl, h => by
  simp only [List.mapM_cons, Option.pure_def, Option.bind_eq_bind, bN, Option.map_eq_some_iff] at h
  obtain ⟨q, ⟨n, hn, rfl⟩, b, a, h⟩ := h
  cases h
  have := ab9 w l b a
  simp only [List.mapM_cons, Sem.run_bind, lH hn, Result.andThen_ok, this, Sem.run_pure]
theorem afd {fs : Array Field} {pl : List (Nat × Nat)} (h : ae6 P fs = some pl) (w : World) :
  (fs.mapM fun f => (do pure (f.offset, ← Go.sizeOf f.type) : Sem (Nat × Nat))).run P w = .ok pl.toArray w := by
 rw [Array.mapM_eq_mapM_toList]
 simp only [Sem.run_map, ab9 w fs.toList pl h, Result.andThen_ok]
theorem ac4 (parts : Array (Nat × Operand)) (ρ : Operand → Value) : (parts.map fun (x : Nat × Operand) => match x with | (i, x) => (i, ρ x)).toList = parts.toList.map fun p => (p.1, ρ p.2) := by
 simp
theorem alf {o : Oper} {ao : AOp} {v : AV} (hc : iA P o = some ao) (hp : bJ (Src.ev T) ao = some v) (hT : LR μ F w T a.tmps.toList) :
  ∃ u, (execOp a.eval o).run P w = .ok (.value u) w ∧ VR μ F w v u := by
 obtain ⟨dst, op, ty, pos, after, guard⟩ := o
 cases op <;> simp only [iA] at hc
 case move x =>
  simp only [Option.map_eq_some_iff] at hc; obtain ⟨s, hs, rfl⟩ := hc
  cases hp; exact ⟨_, rfl, fw hT hs⟩
 case assign x =>
  simp only [Option.map_eq_some_iff] at hc; obtain ⟨s, hs, rfl⟩ := hc
  cases hp; exact ⟨_, rfl, fw hT hs⟩
 case pick c x y =>
  simp only [Option.bind_eq_bind, bN] at hc
  obtain ⟨sc, ay, A, g, W, G, hc⟩ := hc; cases hc
  simp only [bJ] at hp
  split at hp
  ·rename_i t ht
   cases hp
   have := fw hT ay
   rw [ht] at this
   generalize aD : a.eval c = cv at this
   cases this
   refine ⟨_, am9 rfl aD, ?_⟩
   cases t
   ·exact fw hT G
   ·exact fw hT g
  ·cases hp
 case nilCheck x =>
  simp only [Option.map_eq_some_iff] at hc; obtain ⟨s, hs, rfl⟩ := hc
  have hx := fw hT hs
  simp only [bJ] at hp
  split at hp
  ·rename_i e; rw [e] at hx; cases hp; generalize hv : a.eval x = p at hx; cases hx; rename_i L hL
   exact ⟨_, by simp [execOp, hv], .ptr _ _ L hL⟩
  ·rename_i e; rw [e] at hx; cases hp; generalize hv : a.eval x = p at hx
   cases hx with
   | dp _ _ blk off arr ty fr M N R O => exact ⟨_, by simp [execOp, hv], .dp _ _ blk off arr ty fr M N R O⟩
  ·rename_i e; rw [e] at hx; cases hp; generalize hv : a.eval x = p at hx
   cases hx with
   | fn _ _ _ us vs h1 h2 h3 h4 => exact ⟨_, by simp [execOp, hv], .fn _ _ _ us vs h1 h2 h3 h4⟩
  ·rename_i e; rw [e] at hx; cases hp; generalize hv : a.eval x = p at hx; cases hx; rename_i L hL
   exact ⟨_, by simp [execOp, hv], .loopv _ L hL⟩
  ·cases hp
 case unOp op t x =>
  simp only [Option.bind_eq_bind, bN] at hc
  obtain ⟨s, hs, hc⟩ := hc; cases hc
  obtain ⟨u, j, hr⟩ := ao3 (P := P) (fw hT hs) hp
  exact ⟨u, cW j, hr⟩
 case extract x i =>
  simp only [Option.bind_eq_bind, bN] at hc
  obtain ⟨s, hs, hc⟩ := hc; cases hc
  have hx := fw hT hs
  simp only [bJ] at hp
  split at hp
  ·rename_i e; rw [e] at hx; generalize hv : a.eval x = p at hx
   cases hx with
   | tup cs vs h1 h2 =>
    obtain ⟨u, j, hr⟩ := (LR.of_agg h1 h2).get hp
    have aB : vs[i]? = some u := by simpa using j
    exact ⟨u, by simp [execOp, hv, Instr.extract, aB], hr⟩
  ·cases hp
 case makeFunc f first cap =>
  simp only [Option.bind_eq_bind, bN] at hc
  obtain ⟨fs, ap, cs, hcs, hc⟩ := hc; cases hc
  cases hp
  have h1 := yn hT ap
  have h2 := yn hT hcs
  refine ⟨.func f (first.map a.eval) (cap.map a.eval), by simp [execOp, Instr.makeFunc], ?_⟩
  have e1 : LR μ F w (fs.map (Src.ev T)) (first.map a.eval).toList := by simpa using h1
  have e2 : LR μ F w (cs.map (Src.ev T)) (cap.map a.eval).toList := by simpa using h2
  exact .fn _ _ _ _ _ (yu e1).1 (yu e1).2 (yu e2).1 (yu e2).2
 case build t parts =>
  simp only [Option.bind_eq_bind, bN] at hc
  obtain ⟨z, hz, d, hd, hc⟩ := hc
  obtain ⟨zv, U, aj⟩ := XL hz w
  split at hc
  ·rename_i fs
   simp only [bN] at hc
   obtain ⟨pl, hpl, ps, ab, hc⟩ := hc
   cases hc
   simp only [bJ, Option.bind_eq_bind, bN] at hp
   obtain ⟨cs, hcs, hp⟩ := hp
   cases hp
   obtain ⟨vs, H, hr⟩ := aj8 hT (pl[·]?) parts.toList ps z zv.cells cs ab (aj μ F w) hcs
   refine ⟨.agg vs, cW ?_, .agg _ _ (yu hr).1 (yu hr).2⟩
   simp only [Instr.build, Sem.run_bind, U, Result.andThen_ok, run_underlying hd, afd hpl, ac4]
   have : (fun x : Nat => pl.toArray[x]?) = (fun x : Nat => pl[x]?) := by funext x; simp
   rw [this, H]
   rfl
  ·rename_i m e
   simp only [bN] at hc
   obtain ⟨n, hn, ps, ab, hc⟩ := hc
   cases hc
   simp only [bJ, Option.bind_eq_bind, bN] at hp
   obtain ⟨cs, hcs, hp⟩ := hp
   cases hp
   obtain ⟨vs, H, hr⟩ := aj8 hT (fun i => some (i * n, n)) parts.toList ps z zv.cells cs ab (aj μ F w) hcs
   refine ⟨.agg vs, cW ?_, .agg _ _ (yu hr).1 (yu hr).2⟩
   simp only [Instr.build, Sem.run_bind, U, Result.andThen_ok, run_underlying hd, lH hn, ac4]
   rw [H]
   rfl
  ·cases hc
 case binOp op t x y yt =>
  split at hc
  ·rename_i hty
   split at hc
   all_goals first | (cases hc; done) | skip
   all_goals
    simp only [Option.bind_eq_bind, bN] at hc
    obtain ⟨A, g, W, G, hc⟩ := hc; cases hc
    have hx := fw hT g
    have hy := fw hT G
    simp only [bJ] at hp
    split at hp
    ·rename_i as bs e1 e2
     rw [e1] at hx; rw [e2] at hy
     simp only [Option.map_eq_some_iff] at hp
     obtain ⟨r, hr, rfl⟩ := hp
     generalize af : a.eval x = p at hx
     generalize ag : a.eval y = vy at hy
     cases hx with
     | agg _ us h1 h2 =>
     cases hy with
     | agg _ vs h3 h4 =>
     have := akp hty (LR.of_agg h1 h2) (LR.of_agg h3 h4) hr x y
     refine ⟨.bool _, cW (by rw [af, ag]; first | exact this.1 | exact this.2), .bool _⟩
    ·cases hp
  ·split at hc
   ·rename_i hty
    split at hc
    all_goals first | (cases hc; done) | skip
    all_goals
     simp only [Option.bind_eq_bind, bN] at hc
     obtain ⟨A, g, W, G, hc⟩ := hc; cases hc
     have hx := fw hT g
     have hy := fw hT G
     simp only [bJ] at hp
     split at hp
     ·rename_i as bs e1 e2
      rw [e1] at hx; rw [e2] at hy
      simp only [Option.map_eq_some_iff] at hp
      obtain ⟨r, hr, rfl⟩ := hp
      generalize af : a.eval x = p at hx
      generalize ag : a.eval y = vy at hy
      have ax : Ca (Ck P t) as bs = some r := by
       obtain ⟨n, hn⟩ := Nat.exists_eq_succ_of_ne_zero hty
       rw [hn] at hr ⊢
       exact hr
      cases hx with
      | agg _ us h1 h2 =>
      cases hy with
      | agg _ vs h3 h4 =>
      have := agw hty (LR.of_agg h1 h2) (LR.of_agg h3 h4) ax x y
      refine ⟨.bool _, cW (by rw [af, ag]; first | exact this.1 | exact this.2), .bool _⟩
     ·cases hp
   split at hc
   ·rename_i aa
    split at hc
    ·rename_i am
     simp only [Option.bind_eq_bind, bN] at hc
     obtain ⟨A, g, W, G, hc⟩ := hc; cases hc
     obtain ⟨ms, au⟩ : ∃ ms, P.underlying t = some (.interface ms) := by
      unfold x7 at aa
      split at aa
      ·exact ⟨_, by assumption⟩
      ·cases aa
     obtain ⟨u, j, hr⟩ := aoh au (fw hT g) (fw hT G) hp am
     exact ⟨u, cW j, hr⟩
    ·cases hc
   simp only [Option.bind_eq_bind, bN] at hc
   obtain ⟨kd, aq, A, g, W, G, hc⟩ := hc; cases hc
   obtain ⟨u, j, hr⟩ := anb aq (fw hT g) (fw hT G) hp x y
   exact ⟨u, cW j, hr⟩
 case convert s d x =>
  simp only [Option.bind_eq_bind, bN] at hc
  obtain ⟨ds, ai, dd, ah, hc⟩ := hc
  split at hc
  ·simp only [bN] at hc
   obtain ⟨A, g, hc⟩ := hc; cases hc
   have hx := fw hT g
   simp only [bJ] at hp
   split at hp
   ·rename_i e; rw [e] at hx; cases hp
    generalize hv : a.eval x = p at hx
    cases hx
    exact ⟨_, cW (by rw [hv]; simp [convert, run_underlying ai, run_underlying ah, Conv.intToInt]), .int _ _⟩
   ·cases hp
  ·simp only [bN] at hc
   obtain ⟨A, g, hc⟩ := hc; cases hc
   have hx := fw hT g
   simp only [bJ] at hp
   split at hp
   ·rename_i e; rw [e] at hx; cases hp
    generalize hv : a.eval x = p at hx
    cases hx
    exact ⟨_, cW (by rw [hv]; simp [convert, run_underlying ai, run_underlying ah]), .str _⟩
   ·cases hp
  ·simp only [bN] at hc
   obtain ⟨e, he, hc⟩ := hc
   split at hc
   ·simp only [bN] at hc
    obtain ⟨A, g, hc⟩ := hc; cases hc; cases hp
   ·cases hc
  ·simp only [bN] at hc
   obtain ⟨e, he, hc⟩ := hc
   split at hc
   ·simp only [bN] at hc
    obtain ⟨n, hn, hc⟩ := hc
    split at hc
    ·simp only [bN] at hc
     obtain ⟨A, g, hc⟩ := hc; cases hc; cases hp
    ·cases hc
   ·cases hc
  ·cases hc
 case makeInterface t x =>
  simp only [Option.bind_eq_bind, bN] at hc
  obtain ⟨d, hd, hc⟩ := hc
  split at hc
  ·cases hc
  ·rename_i hn
   simp only [bN] at hc
   obtain ⟨A, g, hc⟩ := hc; cases hc
   have hx := fw hT g
   simp only [bJ] at hp
   split at hp
   ·cases hp
   ·cases hp
    refine ⟨.iface t (a.eval x), cW ?_, .ifc _ _ _ hx⟩
    simp only [Instr.makeInterface, Sem.run_bind, run_underlying hd, Result.andThen_ok]
    cases d <;> first | rfl | (exact absurd rfl (hn _))
 case slice t x lo hi mx =>
  simp only [Option.bind_eq_bind, bN] at hc
  obtain ⟨d, hd, hc⟩ := hc
  split at hc
  ·simp only [bN] at hc
   obtain ⟨n, hn, A, g, sl, ae, sh, ad, sm, az, hc⟩ := hc; cases hc
   simp only [bJ] at hp
   split at hp
   ·cases hp
   ·rename_i aA
    obtain ⟨u, j, hr⟩ := ai3 hd hn (fw hT g) aA (XF hT ae) (XF hT ad) (XF hT az) hp
    exact ⟨u, cW j, hr⟩
  ·split at hc
   ·cases hc
   ·rename_i av
    simp only [bN] at hc
    obtain ⟨A, g, sl, ae, sh, ad, hc⟩ := hc; cases hc
    have hx := fw hT g
    simp only [bJ] at hp
    split at hp
    ·rename_i s e
     rw [e] at hx
     generalize hv : a.eval x = p at hx
     cases hx
     have hm : mx = none := by simpa using av
     subst hm
     obtain ⟨u, j, hr⟩ := agx (mx := none) (vmx := none) hd (XF hT ae) (XF hT ad) (show OR μ F w none none from trivial) hp
     exact ⟨u, cW (by rw [hv]; exact j), hr⟩
    ·cases hp
  ·cases hc
 case fieldAddr t x i =>
  simp only [Option.bind_eq_bind, bN] at hc
  obtain ⟨d, hd, hc⟩ := hc
  split at hc
  ·rename_i fs
   simp only [bN] at hc
   obtain ⟨f, hf, n, hn, hc⟩ := hc
   split at hc
   ·cases hc
   ·rename_i aw
    simp only [bN] at hc
    obtain ⟨A, g, hc⟩ := hc; cases hc
    have hx := fw hT g
    have q : ∀ b o, (Instr.fieldAt t (.pointer (some ⟨b, o, none⟩)) i).run P w = .ok (.pointer (some ⟨b, o + f.offset, none⟩)) w := by
     intro b o
     simp [Instr.fieldAt, run_underlying hd, hf, Instr.sureAddr, fieldPlace, lH hn, aw, uj]
    simp only [bJ] at hp
    split at hp
    ·rename_i b o e; rw [e] at hx; cases hp; generalize hv : a.eval x = p at hx; cases hx; rename_i L hL
     exact ⟨_, cW (by rw [hv]; exact q _ _), .ptr _ _ L hL⟩
    ·rename_i cs o e; rw [e] at hx; cases hp; generalize hv : a.eval x = p at hx
     cases hx with
     | dp _ _ blk off arr ty fr M N R O => 
      refine ⟨_, cW (by rw [hv]; exact q _ _), ?_⟩
      rw [Nat.add_assoc]
      exact .dp _ _ blk off arr ty fr M N R O
    ·cases hp
  ·cases hc
 case field t x i =>
  simp only [Option.bind_eq_bind, bN] at hc
  obtain ⟨d, hd, hc⟩ := hc
  split at hc
  ·rename_i fs
   simp only [bN] at hc
   obtain ⟨f, hf, k, hk, A, g, hc⟩ := hc; cases hc
   have hx := fw hT g
   simp only [bJ] at hp
   split at hp
   ·rename_i cs e; rw [e] at hx; generalize hv : a.eval x = p at hx
    cases hx with
    | agg _ vs h1 h2 =>
     obtain ⟨u, j, hr⟩ := agp hk (LR.of_agg h1 h2) hp
     exact ⟨u, cW (by rw [hv]; simp [Instr.field, run_underlying hd, hf, asAgg, j]), hr⟩
   ·cases hp
  ·cases hc
 case indexAddr t x i =>
  simp only [Option.bind_eq_bind, bN] at hc
  obtain ⟨d, hd, hc⟩ := hc
  split at hc
  ·rename_i e
   simp only [bN] at hc
   obtain ⟨n, hn, A, g, V, J, hc⟩ := hc; cases hc
   have hx := fw hT g
   have hi := fw hT J
   simp only [bJ, Option.bind_eq_bind, bN] at hp
   obtain ⟨I, Q, hp⟩ := hp
   obtain ⟨k, hk⟩ := pC Q hi
   have q : ∀ b o len cap, I < len → (Instr.indexAt t (.slice (some ⟨b, o, none⟩) len cap) (.int k (I : Int))).run P w = .ok (.pointer (some ⟨b, o + I * n, none⟩)) w := by
    intro b o len cap B
    simp [Instr.indexAt, asIntOf, run_underlying hd, lH hn, uj, B]
   split at hp
   ·rename_i b off m c sz ex e'; rw [e'] at hx; generalize hv : a.eval x = p at hx
    split at hp
    ·rename_i B
     cases hp
     cases hx with
     | own _ _ _ _ _ _ L cap h1 h2 h3 h4 h5 h6 =>
      exact ⟨_, cW (by rw [hv, hk]; exact q _ _ _ _ B.1), .ptr _ _ L h1⟩
    ·cases hp
   ·rename_i cs m e'; rw [e'] at hx; generalize hv : a.eval x = p at hx
    split at hp
    ·rename_i B
     cases hp
     cases hx with
     | sl0 => omega
     | sl _ _ _ blk off arr ty fr M N R O Z =>
      exact ⟨_, cW (by rw [hv, hk]; exact q _ _ _ _ B), .dp _ _ blk off arr ty fr M N O Z⟩
    ·cases hp
   ·cases hp
  ·rename_i len e
   split at hc
   ·simp only [bN] at hc
    obtain ⟨n, hn, V, J, hc⟩ := hc; cases hc; cases hp
   ·simp only [bN] at hc
    obtain ⟨n, hn, A, g, V, J, hc⟩ := hc; cases hc
    have hx := fw hT g
    have hi := fw hT J
    simp only [bJ, Option.bind_eq_bind, bN] at hp
    obtain ⟨I, Q, hp⟩ := hp
    obtain ⟨k, hk⟩ := pC Q hi
    have q : ∀ b o, I < len → (Instr.indexAt t (.pointer (some ⟨b, o, none⟩)) (.int k (I : Int))).run P w = .ok (.pointer (some ⟨b, o + I * n, none⟩)) w := by
     intro b o B
     simp [Instr.indexAt, Instr.sureAddr, asIntOf, run_underlying hd, lH hn, uj, B]
    split at hp
    ·rename_i b o e'; rw [e'] at hx; generalize hv : a.eval x = p at hx
     split at hp
     ·rename_i B
      cases hp
      cases hx with
      | ptr _ _ L h1 => exact ⟨_, cW (by rw [hv, hk]; exact q _ _ B), .ptr _ _ L h1⟩
     ·cases hp
    ·rename_i cs o e'; rw [e'] at hx; generalize hv : a.eval x = p at hx
     split at hp
     ·rename_i B
      cases hp
      cases hx with
      | dp _ _ blk off arr ty fr M N O Z =>
       refine ⟨_, cW (by rw [hv, hk]; exact q _ _ B), ?_⟩
       rw [Nat.add_assoc]
       exact .dp _ _ blk off arr ty fr M N O Z
     ·cases hp
    ·cases hp
  ·cases hc
 case index t x i =>
  simp only [Option.bind_eq_bind, bN] at hc
  obtain ⟨d, hd, hc⟩ := hc
  split at hc
  ·rename_i len e
   simp only [bN] at hc
   obtain ⟨n, hn, kk, ar, A, g, V, J, hc⟩ := hc; cases hc
   have hx := fw hT g
   have hi := fw hT J
   simp only [bJ, Option.bind_eq_bind, bN] at hp
   obtain ⟨I, Q, hp⟩ := hp
   obtain ⟨k, hk⟩ := pC Q hi
   split at hp
   ·rename_i cs e'; rw [e'] at hx; generalize hv : a.eval x = p at hx
    split at hp
    ·rename_i B
     cases hx with
     | agg _ vs h1 h2 =>
      obtain ⟨u, j, hr⟩ := agp ar (LR.of_agg h1 h2) hp
      exact ⟨u, cW (by rw [hv, hk]; simp [Instr.index, asIntOf, run_underlying hd, B, lH hn, j]), hr⟩
    ·cases hp
   ·cases hp
  ·simp only [bN] at hc
   obtain ⟨A, g, V, J, hc⟩ := hc; cases hc
   have hx := fw hT g
   have hi := fw hT J
   simp only [bJ, Option.bind_eq_bind, bN] at hp
   obtain ⟨I, Q, hp⟩ := hp
   obtain ⟨k, hk⟩ := pC Q hi
   split at hp
   ·rename_i s e'; rw [e'] at hx; generalize hv : a.eval x = p at hx
    simp only [Option.map_eq_some_iff] at hp
    obtain ⟨b, hb, rfl⟩ := hp
    cases hx
    exact ⟨_, cW (by rw [hv, hk]; simp [Instr.index, asIntOf, run_underlying hd, hb]), .int _ _⟩
   ·cases hp
  ·cases hc
 case call c =>
  simp only [Option.bind_eq_bind, bN] at hc
  obtain ⟨args, hargs, hc⟩ := hc
  have hl := yn hT hargs
  obtain ⟨callee, D, argTypes⟩ := c
  simp only at hc hl hargs
  cases callee with
  | value f =>
   simp only [bN] at hc
   obtain ⟨s, hs, hc⟩ := hc; cases hc; cases hp
  | invoke r m => cases hc
  | builtin b =>
   have q : ∀ (s : Sem Value) (u : Value), s.run P w = .ok u w → (∀ al, builtin b argTypes ty al (D.map a.eval) = (do pure (.value (← s)))) →
     (execOp a.eval ⟨dst, .call ⟨.builtin b, D, argTypes⟩, ty, pos, after, guard⟩).run P w = .ok (.value u) w := by
    intro s u h1 h2
    simp only [execOp, resolve, Sem.run_bind, Sem.run_pure, Result.andThen_ok, invoke]
    exact (congrArg (fun s => s.run P w) (h2 _)).trans (cW h1)
   have one : ∀ {x : Src}, args = [x] → ∃ v, D.map a.eval = #[v] ∧ VR μ F w (x.ev T) v := by
    intro x hx
    subst hx
    have h1 := hl.1
    simp only [List.map_cons, List.map_nil, List.length_cons, List.length_nil, List.length_map, Array.length_toList] at h1
    obtain ⟨l⟩ := D
    match l, h1 with
    | [y], _ => exact ⟨a.eval y, by simp, hl.2 0 _ _ rfl rfl⟩
   have Y : ∀ {t : TypeId}, argTypes.toList = [t] → argTypes = #[t] := by
    intro t ht
    obtain ⟨l⟩ := argTypes; simp at ht; subst ht; rfl
   simp only at hc
   split at hc
   ·rename_i x t 
    obtain ⟨v1, K, C⟩ := one rfl
    simp only [bN] at hc
    obtain ⟨d, hd, hc⟩ := hc
    split at hc
    ·rename_i e ht
     have E := Y (by assumption)
     cases hc
     simp only [bJ] at hp
     split at hp
     ·rename_i b off n c sz ex e'; rw [e'] at C; cases hp
      cases C
      exact ⟨_, q _ _ (by rw [K, E]; simp [Builtin.len_, run_underlying hd]; rfl) (fun _ => rfl), .int _ _⟩
     ·rename_i b off e'; rw [e'] at C; cases hp
      cases C
      ·exact ⟨_, q _ _ (by rw [K, E]; simp [Builtin.len_, run_underlying hd]; rfl) (fun _ => rfl), .int _ _⟩
      ·exact ⟨_, q _ _ (by rw [K, E]; simp [Builtin.len_, run_underlying hd]; rfl) (fun _ => rfl), .int _ _⟩
     ·rename_i e'; rw [e'] at C; cases hp
      cases C
      exact ⟨_, q _ _ (by rw [K, E]; simp [Builtin.len_, run_underlying hd]; rfl) (fun _ => rfl), .int _ _⟩
     ·cases hp
    ·rename_i ht
     have E := Y (by assumption)
     cases hc
     simp only [bJ] at hp
     split at hp
     ·rename_i s e'; rw [e'] at C; cases hp
      cases C
      exact ⟨_, q _ _ (by rw [K, E]; simp [Builtin.len_, run_underlying hd]; rfl) (fun _ => rfl), .int _ _⟩
     ·cases hp
    ·cases hc; cases hp
    ·cases hc
   ·rename_i x t
    obtain ⟨v1, K, C⟩ := one rfl
    simp only [bN] at hc
    obtain ⟨d, hd, hc⟩ := hc
    split at hc
    ·rename_i e ht
     have E := Y (by assumption)
     cases hc
     simp only [bJ] at hp
     split at hp
     ·rename_i b off n c sz e'; rw [e'] at C; cases hp
      cases C with
      | own _ _ _ _ _ _ L cap h1 h2 h3 h4 h5 h6 =>
      have := h5 rfl
      subst this
      exact ⟨_, q _ _ (by rw [K, E]; simp [Builtin.cap_, run_underlying hd]; rfl) (fun _ => rfl), .int _ _⟩
     ·rename_i e'; rw [e'] at C; cases hp
      cases C
      exact ⟨_, q _ _ (by rw [K, E]; simp [Builtin.cap_, run_underlying hd]; rfl) (fun _ => rfl), .int _ _⟩
     ·cases hp
    ·cases hc
   ·cases hc
    simp only [bJ] at hp
    rw [show D.toList.map a.eval = (D.map a.eval).toList by simp] at hl
    split at hp
    ·rename_i k m rest e'
     rw [e'] at hl
     obtain ⟨l, H⟩ : ∃ l, (D.map a.eval).toList = l := ⟨_, rfl⟩
     rw [H] at hl
     cases l with
     | nil => have := hl.1; simp at this
     | cons v vs =>
      have h0 := hl.head
      cases h0
      obtain ⟨u, j, hr⟩ := al4 (P := P) k rest vs m _ hl.tail hp
      exact ⟨u, q (Builtin.min_ argTypes ty (D.map a.eval)) u (by unfold Builtin.min_; rw [H]; exact j) (fun _ => rfl), hr⟩
    ·cases hp
   ·cases hc
    simp only [bJ] at hp
    rw [show D.toList.map a.eval = (D.map a.eval).toList by simp] at hl
    split at hp
    ·rename_i k m rest e'
     rw [e'] at hl
     obtain ⟨l, H⟩ : ∃ l, (D.map a.eval).toList = l := ⟨_, rfl⟩
     rw [H] at hl
     cases l with
     | nil => have := hl.1; simp at this
     | cons v vs =>
      have h0 := hl.head
      cases h0
      obtain ⟨u, j, hr⟩ := al9 (P := P) k rest vs m _ hl.tail hp
      exact ⟨u, q (Builtin.max_ argTypes ty (D.map a.eval)) u (by unfold Builtin.max_; rw [H]; exact j) (fun _ => rfl), hr⟩
    ·cases hp
   all_goals (try simp only [bN] at hc)
   all_goals (repeat' (first | (cases hc; done) | (obtain ⟨_, _, hc⟩ := hc) | (simp only [bN] at hc) | (split at hc)))
   all_goals first | (cases hp; done) | (cases hc; cases hp; done)
 case typeAssert x X t ok =>
  simp only [Option.bind_eq_bind, bN] at hc
  obtain ⟨d, hd, hc⟩ := hc
  split at hc
  ·cases hc
  ·rename_i S
   simp only [bN] at hc
   obtain ⟨zv, U, z, hz, A, g, hc⟩ := hc
   cases hc
   have hx := fw hT g
   obtain ⟨i, hi, aC⟩ := U
   have ak : (zeroValue t).run P w = .ok zv w := by simp [zeroValue, typeInfo, hi, aC]
   have j := run_underlying (P := P) hd
   simp only [bJ] at hp
   have two : ∀ {x : AV} {u : Value} {b : Bool}, VR μ F w x u → VR μ F w (.tup [x, .bool b]) (.tuple #[u, .bool b]) := fun {x u b} h => by
    refine .tup _ _ rfl fun i c v hc hv => ?_
    have : i = 0 ∨ i = 1 ∨ 2 ≤ i := by omega
    rcases this with rfl | rfl | h2
    ·simp at hc hv; subst hc; subst hv; exact h
    ·simp at hc hv; subst hc; subst hv; exact .bool _
    ·rw [List.getElem?_eq_none (by simpa using h2)] at hc; cases hc
   split at hp
   ·rename_i t' y e; rw [e] at hx; generalize hv : a.eval x = p at hx
    cases hx with
    | ifc _ _ u hy =>
    split at hp
    ·rename_i ht
     cases hp
     subst ht
     cases ok
     ·refine ⟨_, cW (?_ : (Instr.typeAssert (a.eval x) X t' false).run P w = .ok u w), hy⟩
      rw [hv]; unfold Instr.typeAssert
      cases d <;> first | exact absurd rfl (S _) | simp [j]
     ·refine ⟨_, cW (?_ : (Instr.typeAssert (a.eval x) X t' true).run P w = .ok (.tuple #[u, .bool true]) w), two hy⟩
      rw [hv]; unfold Instr.typeAssert
      cases d <;> first | exact absurd rfl (S _) | simp [j]
    ·rename_i ht
     split at hp
     ·rename_i hok
      cases hp
      subst hok
      refine ⟨_, cW (?_ : (Instr.typeAssert (a.eval x) X t true).run P w = .ok (.tuple #[zv, .bool false]) w), two (YT hz)⟩
      rw [hv]; unfold Instr.typeAssert
      cases d <;> first | exact absurd rfl (S _) | simp [j, ht, ak]
     ·cases hp
   ·rename_i e; rw [e] at hx; generalize hv : a.eval x = p at hx
    cases hx
    split at hp
    ·rename_i hok
     cases hp
     subst hok
     refine ⟨_, cW (?_ : (Instr.typeAssert (a.eval x) X t true).run P w = .ok (.tuple #[zv, .bool false]) w), two (YT hz)⟩
     rw [hv]; unfold Instr.typeAssert
     cases d <;> first | exact absurd rfl (S _) | simp [j, ak]
    ·cases hp
   ·cases hp
 case load t x =>
  split at hc
  ·simp only [Option.bind_eq_bind, bN] at hc
   obtain ⟨_, _, hc⟩ := hc
   cases hc; cases hp
  ·simp only [Option.bind_eq_bind, bN] at hc
   obtain ⟨_, _, _, _, hc⟩ := hc
   cases hc; cases hp
 case next x sb =>
  split at hc
  ·simp only [Option.map_eq_some_iff] at hc
   obtain ⟨_, _, hc⟩ := hc
   cases hc; cases hp
  ·cases hc
 all_goals (try simp only [Option.bind_eq_bind, bN, Option.map_eq_some_iff] at hc)
 all_goals (repeat' (first | (cases hc; done) | (obtain ⟨_, _, hc⟩ := hc) | (simp only [bN] at hc) | (split at hc)))
 all_goals first | (cases hp; done) | (cases hc; cases hp; done)
end
end Go.Proofs.YtopigipibioclaaGreatDoor.Ev
