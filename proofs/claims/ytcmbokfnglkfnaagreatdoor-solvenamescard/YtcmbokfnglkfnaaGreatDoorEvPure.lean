/- The evaluator, a part. -/
import Derived.Test.YtcmbokfnglkfnaaGreatDoorEvRel
import Derived.Laws.Small
import Derived.Laws.Cover3
namespace Go.Proofs.YtcmbokfnglkfnaaGreatDoor.Ev
open Go
set_option linter.all false
section
variable {P : Program} {μ : Mu} {F : Nat → Prop} {w : World} {T : Tm} {a : Act}
theorem run_v {s : Sem Value} {v : Value} {w' : World} (h : s.run P w = .ok v w') : ((do pure (Next.value (← s))) : Sem Next).run P w = .ok (.value v) w' := by
 simp [h]
theorem abf {t : TypeId} {i : TypeInfo} (h : P.info? t = some i) (w : World) : (typeInfo t).run P w = .ok i w := by
 simp [typeInfo, h]
theorem aaj {t : TypeId} {n : Nat} (h : aac P t = some n) (w : World) : (Go.sizeOf t).run P w = .ok n w := by
 simp only [aac, Option.map_eq_some_iff] at h
 obtain ⟨i, hi, rfl⟩ := h
 simp [Go.sizeOf, abf hi]
theorem aot {t : TypeId} {n : Nat} (h : aa1 P t = some n) (w : World) : ∃ i, (typeInfo t).run P w = .ok i w ∧ i.bytes = n := by
 simp only [aa1, Option.map_eq_some_iff] at h
 obtain ⟨i, hi, rfl⟩ := h
 exact ⟨i, abf hi w, rfl⟩
theorem adw {t : TypeId} {z : List AV} (h : aaf P t = some z) (w : World) : ∃ v, (zeroValue t).run P w = .ok v w ∧ ∀ μ F W, LR μ F W z v.cells.toList := by
 simp only [aaf, Option.bind_eq_bind, bes] at h
 obtain ⟨i, hi, zv, hz, h⟩ := h
 exact ⟨zv, by simp [zeroValue, abf hi, hz], fun μ F W => afu h⟩
theorem ahd {t : TypeId} (h : loadK P t = some none) (w : World) : (isAgg t).run P w = .ok false w := by
 simp only [loadK, Option.bind_eq_bind, bes] at h
 obtain ⟨d, hd, h⟩ := h
 split at h
 ·simp at h
 ·simp at h
 ·rename_i h1 h2
  simp only [isAgg, Sem.run_bind, run_underlying hd, Result.andThen_ok]
  cases d <;> first | rfl | (exact absurd rfl (h1 _)) | (exact absurd rfl (h2 _ _))
theorem ag3 {t : TypeId} {n : Nat} (h : loadK P t = some (some n)) (w : World) : (isAgg t).run P w = .ok true w ∧ (Go.sizeOf t).run P w = .ok n w := by
 simp only [loadK, Option.bind_eq_bind, bes] at h
 obtain ⟨d, hd, h⟩ := h
 split at h
 ·simp only [Option.map_eq_some_iff] at h
  obtain ⟨m, hm, h⟩ := h
  cases h
  exact ⟨by simp [isAgg, run_underlying hd], aaj hm w⟩
 ·simp only [Option.map_eq_some_iff] at h
  obtain ⟨m, hm, h⟩ := h
  cases h
  exact ⟨by simp [isAgg, run_underlying hd], aaj hm w⟩
 ·cases h
theorem agc {cs : List AV} {vs : Array Value} {off : Nat} {k : Option Nat} {t : TypeId} {v : AV} (hk : loadK P t = some k) (hl : LR μ F w cs vs.toList) (h : abv cs off k = some v) :
  ∃ u, (part t vs off).run P w = .ok u w ∧ VR μ F w v u := by
 cases k with
 | none =>
  obtain ⟨u, hu, hr⟩ := hl.get h
  have hu' : vs[off]? = some u := by simpa using hu
  exact ⟨u, by simp [part, ahd hk, hu'], hr⟩
 | some n =>
  simp only [abv] at h
  split at h
  ·rename_i hle
   cases h
   obtain ⟨h1, h2⟩ := ag3 hk w
   refine ⟨.agg (vs.extract off (off + n)), by simp [part, h1, h2], ?_⟩
   have hlen := hl.1
   simp at hlen
   refine .agg _ _ (by simp; omega) fun i c v hc hv => ?_
   rw [List.getElem?_take] at hc
   split at hc
   ·rename_i hi
    rw [List.getElem?_drop] at hc
    refine hl.2 _ c v hc ?_
    rw [Array.getElem?_extract] at hv
    split at hv
    ·simpa using hv
    ·cases hv
   ·cases hc
  ·cases h
theorem adn (op : BinOp) (ty : TypeId) (X Y : Operand) (j k : IntKind) (m n : Int) : (eqGuard op ty X Y (.int j m) (.int k n)).run P w = .ok () w := by
 unfold eqGuard; cases op <;> rfl
theorem aez (op : BinOp) (ty : TypeId) (X Y : Operand) (b c : Bool) : (eqGuard op ty X Y (.bool b) (.bool c)).run P w = .ok () w := by
 unfold eqGuard; cases op <;> rfl
theorem adh (op : BinOp) (ty : TypeId) (X Y : Operand) (b c : ByteArray) : (eqGuard op ty X Y (.string b) (.string c)).run P w = .ok () w := by
 unfold eqGuard; cases op <;> rfl
theorem ac5 (op : BinOp) (ty : TypeId) (X Y : Operand) (x : Value) (b : Option Addr) (m n : Nat) : (eqGuard op ty X Y x (.slice b m n)).run P w = .ok () w := by
 unfold eqGuard; cases op <;> cases x <;> rfl
theorem ae8 {op : BinOp} {k yk : IntKind} {x y : Int} {v : AV} (h : alx op k x y = some v) : ∃ u, (Op.shift op k x yk y).run P w = .ok u w ∧ VR μ F w v u := by
 unfold alx at h
 split at h
 ·cases h
 ·rename_i hy
  unfold Op.shift
  cases op <;> simp at h <;> subst h <;> simp [hy] <;> exact .int _ _
theorem aj0 {op : BinOp} {ty : TypeId} {k : IntKind} {x y : Int} {v : AV} (h : acn op k x y = some v) : ∃ u, (binOp op ty (.int k x) (.int k y)).run P w = .ok u w ∧ VR μ F w v u := by
 unfold acn at h
 cases op
 case quo => simp at h; obtain ⟨h0, h⟩ := h; subst h; exact ⟨_, by simp [binOp, Op.intDiv, h0], .int _ _⟩
 case rem => simp at h; obtain ⟨h0, h⟩ := h; subst h; exact ⟨_, by simp [binOp, Op.intDiv, h0], .int _ _⟩
 case shl => cases h
 case shr => cases h
 all_goals (injection h with h; subst h; cases k <;> first | exact ⟨_, rfl, .int _ _⟩ | exact ⟨_, rfl, .bool _⟩)
theorem amm {op : BinOp} {kd : BK} {ty : TypeId} {x y : AV} {vx vy : Value} {v : AV} (hkd : abo P ty = some kd)
  (hx : VR μ F w x vx) (hy : VR μ F w y vy) (h : binA op kd x y = some v) (X Y : Operand) :
  ∃ u, ((do eqGuard op ty X Y vx vy; binOp op ty vx vy) : Sem Value).run P w = .ok u w ∧ VR μ F w v u := by
 unfold binA at h
 split at h
 ·cases hx; cases hy
  rename_i k1 a1 k2 b1
  split at h
  ·obtain ⟨u, hu, hr⟩ := ae8 (P := P) (μ := μ) (F := F) (w := w) (yk := k2) h
   exact ⟨u, by simp [adn, binOp, hu], hr⟩
  ·obtain ⟨u, hu, hr⟩ := ae8 (P := P) (μ := μ) (F := F) (w := w) (yk := k2) h
   exact ⟨u, by simp [adn, binOp, hu], hr⟩
  ·split at h
   ·rename_i hk
    subst hk
    obtain ⟨u, hu, hr⟩ := aj0 (P := P) (μ := μ) (F := F) (w := w) (ty := ty) h
    exact ⟨u, by simp [adn, hu], hr⟩
   ·cases h
 ·cases hx; cases hy
  rename_i b c _ _ 
  have hb : P.underlying ty = some .bool := by
   unfold abo at hkd; split at hkd <;> first | assumption | (cases hkd)
  split at h <;> first | (cases h; done) | skip
  ·cases h; exact ⟨_, by simp only [Sem.run_bind, aez, Result.andThen_ok]; exact run_eql_bool w ty _ _ hb, .bool _⟩
  ·cases h; exact ⟨_, by simp only [Sem.run_bind, aez, Result.andThen_ok]; exact run_neq_bool w ty _ _ hb, .bool _⟩
 ·cases hx; cases hy
  split at h <;> first | (cases h; done) | skip
  ·cases h; exact ⟨_, by simp [adh, binOp, Op.stringOp], .bool _⟩
  ·cases h; exact ⟨_, by simp [adh, binOp, Op.stringOp], .bool _⟩
  ·split at h
   ·cases h
   ·rename_i hle
    cases h; exact ⟨_, by simp only [Sem.run_bind, adh, Result.andThen_ok, binOp, Op.stringOp]; rw [if_neg hle]; rfl, .str _⟩
 ·cases hy
  have hb : ∃ e, P.underlying ty = some (.slice e) := by
   unfold abo at hkd; split at hkd <;> first | (cases hkd; done) | exact ⟨_, by assumption⟩
  obtain ⟨e, hb⟩ := hb
  split at h <;> first | (cases h; done) | skip
  ·simp only [Option.map_eq_some_iff] at h
   obtain ⟨b, hb1, rfl⟩ := h
   unfold ah0 at hb1
   split at hb1 <;> first | (cases hb1; done) | skip
   ·cases hb1; cases hx
    exact ⟨_, by simp only [Sem.run_bind, ac5, Result.andThen_ok, binOp, run_equal_slice_nil w ty e _ _ _ hb, Sem.run_pure]; rfl, .bool _⟩
   ·cases hb1; cases hx
    exact ⟨_, by simp only [Sem.run_bind, ac5, Result.andThen_ok, binOp, run_equal_slice_nil w ty e _ _ _ hb, Sem.run_pure]; rfl, .bool _⟩
  ·simp only [Option.map_eq_some_iff] at h
   obtain ⟨b, hb1, rfl⟩ := h
   unfold ah0 at hb1
   split at hb1 <;> first | (cases hb1; done) | skip
   ·cases hb1; cases hx
    exact ⟨_, by simp only [Sem.run_bind, ac5, Result.andThen_ok, binOp, run_equal_slice_nil w ty e _ _ _ hb, Sem.run_pure]; rfl, .bool _⟩
   ·cases hb1; cases hx
    exact ⟨_, by simp only [Sem.run_bind, ac5, Result.andThen_ok, binOp, run_equal_slice_nil w ty e _ _ _ hb, Sem.run_pure]; rfl, .bool _⟩
 ·exfalso
  unfold abo at hkd
  split at hkd <;> cases hkd
 ·cases h
theorem anm {op : BinOp} {ty : TypeId} {ms : Array (String × TypeId)} {x y : AV} {vx vy : Value} {v : AV} (ht : P.underlying ty = some (.interface ms))
  (hx : VR μ F w x vx) (hy : VR μ F w y vy) (h : binA op .ifc x y = some v) {X Y : Operand} (hc : (agp X || agp Y) = true) :
  ∃ u, ((do eqGuard op ty X Y vx vy; binOp op ty vx vy) : Sem Value).run P w = .ok u w ∧ VR μ F w v u := by
 have hu := run_underlying (P := P) ht
 have g1 : ∀ op, (eqGuard op ty X Y .nilIface .nilIface).run P w = .ok () w := by
  intro op
  unfold eqGuard
  cases op <;> cases X <;> cases Y <;> first | rfl | (simp [agp] at hc; done)
 have g2 : ∀ op t z, (eqGuard op ty X Y .nilIface (.iface t z)).run P w = .ok () w := fun op t z => by unfold eqGuard; cases op <;> rfl
 have g3 : ∀ op t z, (eqGuard op ty X Y (.iface t z) .nilIface).run P w = .ok () w := fun op t z => by unfold eqGuard; cases op <;> rfl
 have k1 : ∀ d, (Op.equalIn (d + 1) ty .nilIface .nilIface).run P w = .ok true w := fun d => by simp [Op.equalIn, hu]
 have k2 : ∀ d t z, (Op.equalIn (d + 1) ty .nilIface (.iface t z)).run P w = .ok false w := fun d t z => by simp [Op.equalIn, hu]
 have k3 : ∀ d t z, (Op.equalIn (d + 1) ty (.iface t z) .nilIface).run P w = .ok false w := fun d t z => by simp [Op.equalIn, hu]
 have q1 : (Op.equal ty .nilIface .nilIface).run P w = .ok true w := k1 9999
 have q2 : ∀ t z, (Op.equal ty .nilIface (.iface t z)).run P w = .ok false w := k2 9999
 have q3 : ∀ t z, (Op.equal ty (.iface t z) .nilIface).run P w = .ok false w := k3 9999
 simp only [binA] at h
 split at h <;> first | (cases h; done) | skip
 all_goals
  simp only [Option.map_eq_some_iff] at h
  obtain ⟨b, hb, rfl⟩ := h
  unfold apa at hb
  split at hb <;> first | (cases hb; done) | skip
  all_goals
   cases hb
   cases hx
   cases hy
   refine ⟨_, ?_, .bool _⟩
   first
    | (simp only [Sem.run_bind, g1, q1, binOp, Result.andThen_ok, Sem.run_pure]; done)
    | (simp only [Sem.run_bind, g2, q2, binOp, Result.andThen_ok, Sem.run_pure]; done)
    | (simp only [Sem.run_bind, g3, q3, binOp, Result.andThen_ok, Sem.run_pure]; done)
    | (simp only [Sem.run_bind, g1, q1, binOp, Result.andThen_ok, Sem.run_pure]; rfl)
    | (simp only [Sem.run_bind, g2, q2, binOp, Result.andThen_ok, Sem.run_pure]; rfl)
    | (simp only [Sem.run_bind, g3, q3, binOp, Result.andThen_ok, Sem.run_pure]; rfl)
theorem aoi {as bs : List AV} {r : Bool} (h : eqTwo as bs = some r) : ∃ a b c d, as = [.bool a, .bool b] ∧ bs = [.bool c, .bool d] ∧ r = (a == c && b == d) := by
 unfold eqTwo at h
 split at h
 ·cases h; exact ⟨_, _, _, _, rfl, rfl, rfl⟩
 ·cases h
theorem lr_two {b c : Bool} {us : Array Value} (h : LR μ F w [.bool b, .bool c] us.toList) : us = #[.bool b, .bool c] := by
 obtain ⟨l⟩ := us
 obtain ⟨hl, hv⟩ := h
 match l, hl with
 | [x, y], _ =>
  have h0 := hv 0 _ x rfl rfl
  have h1 := hv 1 _ y rfl rfl
  cases h0; cases h1
  rfl
theorem aos (d : Nat) {t e : TypeId} (ht : P.underlying t = some (.array 2 e)) (he : P.underlying e = some .bool) (hs : aac P e = some 1) (a b c f : Bool) :
  (Op.equalIn (d + 2) t (.agg #[.bool a, .bool b]) (.agg #[.bool c, .bool f])).run P w = .ok (a == c && b == f) w := by
 have hag : (isAgg e).run P w = .ok false w := by simp [isAgg, run_underlying he]
 have hp : ∀ (x y : Bool) (i : Nat) (z : Bool), #[Value.bool x, Value.bool y][i]? = some (.bool z) → (part e #[.bool x, .bool y] i).run P w = .ok (.bool z) w := by
  intro x y i z h
  simp [part, hag, h]
 have hq := fun (x y : Bool) => run_equalIn_bool (P := P) w d e x y he
 unfold Op.equalIn
 simp only [Sem.run_bind, run_underlying ht, Result.andThen_ok, aaj hs]
 simp only [Std.Legacy.Range.forIn_eq_forIn_range', Std.Legacy.Range.size]
 simp [List.range', hp, hq]
 cases a <;> cases b <;> cases c <;> cases f <;> simp
theorem aj2 {ty : TypeId} {as bs : List AV} {us vs : Array Value} {r : Bool} (hty : aen P ty = true) (ha : LR μ F w as us.toList) (hb : LR μ F w bs vs.toList) (h : eqTwo as bs = some r) (X Y : Operand) :
  ((do eqGuard .eql ty X Y (.agg us) (.agg vs); binOp .eql ty (.agg us) (.agg vs)) : Sem Value).run P w = .ok (.bool r) w ∧
  ((do eqGuard .neq ty X Y (.agg us) (.agg vs); binOp .neq ty (.agg us) (.agg vs)) : Sem Value).run P w = .ok (.bool !r) w := by
 obtain ⟨a, b, c, d, rfl, rfl, rfl⟩ := aoi h
 obtain rfl := lr_two ha
 obtain rfl := lr_two hb
 unfold aen at hty
 split at hty
 ·rename_i e he
  simp only [Bool.and_eq_true, beq_iff_eq] at hty
  obtain ⟨h1, hs⟩ := hty
  split at h1
  ·rename_i hbool
   have hg : P.eqGuardType P.depth ty = false := by
    have : P.depth = (2 * (P.types.size + Made.depth)) + 2 := rfl
    rw [this]
    simp [Program.eqGuardType, he, hbool]
   have hk : ∀ op, (eqGuard op ty X Y (.agg #[.bool a, .bool b]) (.agg #[.bool c, .bool d])).run P w = .ok () w := by
    intro op
    unfold eqGuard
    cases op <;> simp [hg]
   have he2 := aos (w := w) 9998 he hbool hs a b c d
   refine ⟨?_, ?_⟩
   ·simp only [Sem.run_bind, hk, Result.andThen_ok, binOp, Op.equal, Op.maxDepth, he2, Sem.run_pure]
   ·simp only [Sem.run_bind, hk, Result.andThen_ok, binOp, Op.equal, Op.maxDepth, he2, Sem.run_pure]
  ·cases h1
 ·cases hty
end
end Go.Proofs.YtcmbokfnglkfnaaGreatDoor.Ev

namespace Go.Proofs.YtcmbokfnglkfnaaGreatDoor.Ev
open Go
set_option linter.all false
section
variable {P : Program} {μ : Mu} {F : Nat → Prop} {w : World} {T : Tm} {a : Act}
theorem aok {op : UnOp} {x : AV} {vx : Value} {v : AV} (hx : VR μ F w x vx) (h : unA op x = some v) : ∃ u, (Op.unary op vx).run P w = .ok u w ∧ VR μ F w v u := by
 unfold unA at h
 split at h
 ·cases h; cases hx; exact ⟨_, rfl, .int _ _⟩
 ·cases h; cases hx; exact ⟨_, rfl, .int _ _⟩
 ·cases h; cases hx; exact ⟨_, rfl, .bool _⟩
 ·cases h
def OR (μ : Mu) (F : Nat → Prop) (w : World) (x : Option AV) (v : Option Value) : Prop :=
 match x, v with
 | none, none => True
 | some x, some v => VR μ F w x v
 | _, _ => False
theorem abh (k : IntKind) (n y : Nat) (code : BoundsCode) (h : n ≤ y) : (Instr.sliceBound (.int k (n : Int)) y code).run P w = .ok n w := by
 simp [Instr.sliceBound, asIntOf, h]
theorem aep {len cap m h l : Nat} {k1 k2 : IntKind} {lo : Option Value} (hl : (lo = none ∧ l = 0) ∨ ∃ k, lo = some (.int k (l : Int))) (h1 : m ≤ cap) (h2 : h ≤ m) (h3 : l ≤ h) :
  (Instr.sliceBounds true len cap lo (some (.int k1 (h : Int))) (some (.int k2 (m : Int)))).run P w = .ok (l, h, m) w := by
 rcases hl with ⟨rfl, rfl⟩ | ⟨k, rfl⟩
 ·simp [Instr.sliceBounds, abh k2 m cap _ h1, abh k1 h m _ h2]
 ·simp [Instr.sliceBounds, abh k2 m cap _ h1, abh k1 h m _ h2, abh k l h _ h3]
theorem ade {s : Bool} {len cap h l : Nat} {lo hi : Option Value} (hl : (lo = none ∧ l = 0) ∨ ∃ k, lo = some (.int k (l : Int))) (hh : (hi = none ∧ h = len) ∨ ∃ k, hi = some (.int k (h : Int))) (h2 : h ≤ cap) (h3 : l ≤ h) :
  (Instr.sliceBounds s len cap lo hi none).run P w = .ok (l, h, cap) w := by
 rcases hl with ⟨rfl, rfl⟩ | ⟨k, rfl⟩ <;> rcases hh with ⟨rfl, rfl⟩ | ⟨k', rfl⟩
 ·simp [Instr.sliceBounds]
 ·simp [Instr.sliceBounds, abh k' h cap _ h2]
 ·simp [Instr.sliceBounds, abh k l h _ h3]
 ·simp [Instr.sliceBounds, abh k' h cap _ h2, abh k l h _ h3]
theorem acq {x : Option AV} {v : Option Value} {n d : Nat} (h : OR μ F w x v) (hn : (x.map asN).getD (some d) = some n) : (v = none ∧ n = d) ∨ ∃ k, v = some (.int k (n : Int)) := by
 cases x with
 | none =>
  cases v with
  | none => simp at hn; exact .inl ⟨rfl, hn.symm⟩
  | some v => exact h.elim
 | some x =>
  cases v with
  | none => exact h.elim
  | some v =>
   simp at hn
   obtain ⟨k, hk⟩ := aa6 hn h
   exact .inr ⟨k, by rw [hk]⟩
theorem abk (b o k : Nat) : (⟨b, o, none⟩ : Addr).add k = ⟨b, o + k, none⟩ := by
 unfold Addr.add; split <;> simp_all
theorem aa7 {t e : TypeId} {size : Nat} (ht : P.underlying t = some (.slice e)) (hs : aac P e = some size) {a : Option Addr} {len cap l h m : Nat} {lo hi mx : Option Value}
  (hb : (Instr.sliceBounds true len cap lo hi mx).run P w = .ok (l, h, m) w) :
  (Instr.sliceAt t (.slice a len cap) lo hi mx).run P w = .ok (.slice (if m = l then a else a.map (·.add (l * size))) (h - l) (m - l)) w := by
 simp [Instr.sliceAt, Instr.slice, run_underlying ht, hb, aaj hs]
theorem ajh {size : Nat} {t e : TypeId} {x : AV} {vx : Value} {lo hi mx : Option AV} {vlo vhi vmx : Option Value} {v : AV} 
  (ht : P.underlying t = some (.slice e)) (hs : aac P e = some size)
  (hx : VR μ F w x vx) (hstr : ∀ s, x ≠ .str s) (hlo : OR μ F w lo vlo) (hhi : OR μ F w hi vhi) (hmx : OR μ F w mx vmx) (h : ahr size x lo hi mx = some v) :
  ∃ u, (Instr.sliceAt t vx vlo vhi vmx).run P w = .ok u w ∧ VR μ F w v u := by
 unfold ahr at h
 split at h
 ·rename_i b off n c sz ex
  split at h
  ·cases h
  rename_i hsz
  have hsz : sz = size := by simpa using hsz
  subst hsz
  cases hx with
  | own _ _ _ _ _ _ L cap h1 h2 h3 h4 h5 h6 =>
  split at h
  ·rename_i m0 h0 lo
   simp only [Option.bind_eq_bind, bes] at h
   obtain ⟨m, hm, h', hh, l, hl, h⟩ := h
   split at h
   ·rename_i hc
    obtain ⟨c1, c2, c3⟩ := hc
    obtain ⟨vm, rfl⟩ : ∃ vm, vmx = some vm := by cases vmx with | none => exact hmx.elim | some vm => exact ⟨_, rfl⟩
    obtain ⟨vh, rfl⟩ : ∃ vh, vhi = some vh := by cases vhi with | none => exact hhi.elim | some vm => exact ⟨_, rfl⟩
    obtain ⟨k2, rfl⟩ := aa6 hm hmx
    obtain ⟨k1, rfl⟩ := aa6 hh hhi
    have hb := aep (P := P) (w := w) (len := n) (cap := cap) (k1 := k1) (k2 := k2) (acq hlo hl) (Nat.le_trans c1 h4) c2 c3
    refine ⟨_, aa7 ht hs hb, ?_⟩
    split at h
    ·rename_i e'
     cases h
     subst e'
     simp only [if_true, Nat.sub_self]
     have : h' - m = 0 := by omega
     rw [this]
     exact .own _ _ _ _ _ _ L 0 h1 h2 (Nat.le_refl _) (Nat.le_refl _) (fun _ => rfl) (by omega)
    ·rename_i e'
     cases h
     rw [if_neg e']
     simp only [Option.map_some, abk]
     refine .own _ _ _ _ _ _ L _ h1 h2 (by omega) (Nat.le_refl _) (fun _ => rfl) ?_
     have : l * sz + (m - l) * sz = m * sz := by rw [← Nat.add_mul]; congr 1; omega
     have h7 : m * sz ≤ cap * sz := Nat.mul_le_mul_right _ (by omega)
     omega
   ·cases h
  ·rename_i hi lo
   simp only [Option.bind_eq_bind, bes] at h
   obtain ⟨h', hh, l, hl, h⟩ := h
   obtain rfl : vmx = none := by cases vmx with | none => rfl | some vm => exact hmx.elim
   split at h
   ·rename_i hc
    obtain ⟨c1, c2⟩ := hc
    have hb := ade (P := P) (w := w) (s := true) (len := n) (cap := cap) (acq hlo hl) (acq hhi hh) (by omega) c2
    refine ⟨_, aa7 ht hs hb, ?_⟩
    have h7 : (cap - l) * sz + l * sz ≤ cap * sz := by rw [← Nat.add_mul]; exact Nat.mul_le_mul_right _ (by omega)
    split at h
    ·rename_i e'
     cases h
     by_cases e2 : cap = l
     ·have hl0 : l = 0 := by omega
      subst hl0
      simp only [e2, if_true, Nat.zero_mul, Nat.add_zero, Nat.sub_zero]
      subst e2
      exact .own _ _ _ _ _ _ L 0 h1 h2 (by omega) (by omega) (fun e => by have := h5 e; omega) (by omega)
     ·rw [if_neg e2]
      simp only [Option.map_some, abk]
      exact .own _ _ _ _ _ _ L _ h1 h2 (by omega) (by omega) (fun e => by have := h5 e; omega) (by omega)
    ·rename_i e'
     have hlc : l = c := by omega
     subst hlc
     split at h
     ·rename_i e3
      cases h
      have := h5 e3
      subst this
      rw [if_pos rfl]
      exact .own _ _ _ _ _ _ L _ h1 h2 (by omega) (by omega) (fun e => rfl) (by omega)
     ·cases h
      have : h' - l = 0 := by omega
      rw [this]
      exact .sl0 _ _
   ·cases h
  ·cases h
 ·rename_i cs n
  have hsl : ∀ l h' m, h' ≤ n → l ≤ h' → h' ≤ m → h' * size ≤ cs.length → ∀ (a0 : Option Addr) (cap : Nat), VR μ F w (.sl cs n) (.slice a0 n cap) → m ≤ cap →
    VR μ F w (.sl ((cs.drop (l * size)).take ((h' - l) * size)) (h' - l)) (.slice (if m = l then a0 else a0.map (·.add (l * size))) (h' - l) (m - l)) := by
   intro l h' m q1 q2 q3 q5 a0 cap hv q4
   by_cases e0 : h' = l
   ·subst e0
    simp only [Nat.sub_self, Nat.zero_mul, List.take_zero]
    exact .sl0 _ _
   ·rw [if_neg (by omega)]
    cases hv with
    | sl0 => omega
    | sl _ _ _ blk off arr ty fr g1 g2 g3 g4 g5 =>
     simp only [Option.map_some, abk]
     have hle : l * size ≤ h' * size := Nat.mul_le_mul_right _ q2
     refine .sl _ _ _ blk _ arr ty fr g1 g2 (by omega) ?_ ?_
     ·simp only [List.length_take, List.length_drop]; omega
     ·intro i c v hc hv
      rw [List.getElem?_take] at hc
      split at hc
      ·rw [List.getElem?_drop] at hc
       exact g5 _ c v hc (by rw [← Nat.add_assoc]; exact hv)
      ·cases hc
  obtain ⟨a0, cap, rfl, hcap⟩ : ∃ a0 cap, vx = .slice a0 n cap ∧ n ≤ cap := by
   cases hx with
   | sl0 a cap => exact ⟨_, _, rfl, Nat.zero_le _⟩
   | sl _ _ _ blk off arr ty fr g1 g2 g3 g4 g5 => exact ⟨_, _, rfl, g3⟩
  split at h
  ·rename_i hi lo
   simp only [Option.bind_eq_bind, bes] at h
   obtain ⟨h', hh, l, hl, h⟩ := h
   obtain rfl : vmx = none := by cases vmx with | none => rfl | some vm => exact hmx.elim
   split at h
   ·rename_i hc
    obtain ⟨c1, c2, c3⟩ := hc
    cases h
    have hb := ade (P := P) (w := w) (s := true) (len := n) (cap := cap) (acq hlo hl) (acq hhi hh) (by omega) c2
    exact ⟨_, aa7 ht hs hb, hsl l h' cap c1 c2 (by omega) c3 a0 cap hx (Nat.le_refl _)⟩
   ·cases h
  ·rename_i m0 h0 lo
   simp only [Option.bind_eq_bind, bes] at h
   obtain ⟨m, hm, h', hh, l, hl, h⟩ := h
   split at h
   ·rename_i hc
    obtain ⟨c1, c2, c3, c4⟩ := hc
    cases h
    obtain ⟨vm, rfl⟩ : ∃ vm, vmx = some vm := by cases vmx with | none => exact hmx.elim | some vm => exact ⟨_, rfl⟩
    obtain ⟨vh, rfl⟩ : ∃ vh, vhi = some vh := by cases vhi with | none => exact hhi.elim | some vm => exact ⟨_, rfl⟩
    obtain ⟨k2, rfl⟩ := aa6 hm hmx
    obtain ⟨k1, rfl⟩ := aa6 hh hhi
    have hb := aep (P := P) (w := w) (len := n) (cap := cap) (k1 := k1) (k2 := k2) (acq hlo hl) (by omega) c2 c3
    exact ⟨_, aa7 ht hs hb, hsl l h' m (by omega) c3 c2 c4 a0 cap hx (by omega)⟩
   ·cases h
  ·cases h
 ·cases hx
  split at h
  ·rename_i m0 h0
   split at h
   ·rename_i hc
    obtain ⟨hm, hh, hl⟩ := hc
    cases h
    obtain ⟨vm, rfl⟩ : ∃ vm, vmx = some vm := by cases vmx with | none => exact hmx.elim | some vm => exact ⟨_, rfl⟩
    obtain ⟨vh, rfl⟩ : ∃ vh, vhi = some vh := by cases vhi with | none => exact hhi.elim | some vm => exact ⟨_, rfl⟩
    obtain ⟨k2, rfl⟩ := aa6 hm hmx
    obtain ⟨k1, rfl⟩ := aa6 hh hhi
    have hb := aep (P := P) (w := w) (len := 0) (cap := 0) (k1 := k1) (k2 := k2) (acq hlo hl) (Nat.le_refl _) (Nat.le_refl _) (Nat.le_refl _)
    exact ⟨_, aa7 ht hs hb, .nilSl⟩
   ·cases h
  ·rename_i hi
   obtain rfl : vmx = none := by cases vmx with | none => rfl | some vm => exact hmx.elim
   split at h
   ·rename_i hc
    obtain ⟨hh, hl⟩ := hc
    cases h
    have hb := ade (P := P) (w := w) (s := true) (len := 0) (cap := 0) (acq hlo hl) (acq hhi hh) (Nat.le_refl _) (Nat.le_refl _)
    exact ⟨_, aa7 ht hs hb, .nilSl⟩
   ·cases h
  ·cases h
 ·exact absurd rfl (hstr _)
 ·cases h
theorem ags {size : Nat} {t : TypeId} {s : ByteArray} {lo hi mx : Option AV} {vlo vhi vmx : Option Value} {v : AV} 
  (ht : P.underlying t = some .string) (hlo : OR μ F w lo vlo) (hhi : OR μ F w hi vhi) (hmx : OR μ F w mx vmx) (h : ahr size (.str s) lo hi mx = some v) :
  ∃ u, (Instr.sliceAt t (.string s) vlo vhi vmx).run P w = .ok u w ∧ VR μ F w v u := by
 unfold ahr at h
 simp only at h
 split at h
 ·simp only [Option.bind_eq_bind, bes] at h
  obtain ⟨h', hh, l, hl, h⟩ := h
  obtain rfl : vmx = none := by cases vmx with | none => rfl | some vm => exact hmx.elim
  split at h
  ·rename_i hc
   simp only [Bool.and_eq_true, decide_eq_true_eq] at hc
   cases h
   have hb := ade (P := P) (w := w) (s := false) (len := s.size) (cap := s.size) (acq hlo hl) (acq hhi hh) hc.1 hc.2
   exact ⟨_, by simp [Instr.sliceAt, Instr.slice, run_underlying ht, hb], .str _⟩
  ·cases h
 ·cases h
end
end Go.Proofs.YtcmbokfnglkfnaaGreatDoor.Ev

namespace Go.Proofs.YtcmbokfnglkfnaaGreatDoor.Ev
open Go
set_option linter.all false
section
variable {P : Program} {μ : Mu} {F : Nat → Prop} {w : World} {T : Tm} {a : Act}
theorem afp (hT : LR μ F w T a.tmps.toList) {x : Option Operand} {s : Option Src} (h : cOSrc x = some s) : OR μ F w (s.map (Src.ev T)) (x.map a.eval) := by
 cases x with
 | none => cases h; trivial
 | some x =>
  simp only [cOSrc, Option.map_eq_some_iff] at h
  obtain ⟨y, hy, rfl⟩ := h
  exact aad hT hy
theorem aa4 {as : List AV} {vs : Array Value} (h : LR μ F w as vs.toList) : as.length = vs.size ∧ ∀ (i : Nat) (c : AV) (v : Value), as[i]? = some c → vs[i]? = some v → VR μ F w c v :=
 ⟨by simpa using h.1, fun i c v h1 h2 => h.2 i c v h1 (by simpa using h2)⟩
theorem amx {o : Oper} {c x y : Operand} (ho : o.op = .pick c x y) {b : Bool} (hc : a.eval c = .bool b) : (execOp a.eval o).run P w = .ok (.value (if b then a.eval x else a.eval y)) w := by
 simp [execOp, ho, hc, asBool]
theorem al0 (k : IntKind) : ∀ (l : List AV) (vs : List Value) (m : Int) (r : AV), LR μ F w l vs → l.foldlM min2A (AV.int k m) = some r →
  ∃ u, (vs.foldlM Builtin.min2 (.int k m)).run P w = .ok u w ∧ VR μ F w r u
 | [], [], m, r, _, h => by simp at h; subst h; exact ⟨_, rfl, .int _ _⟩
 | [], _ :: _, _, _, hl, _ => by have := hl.1; simp at this
 | _ :: _, [], _, _, hl, _ => by have := hl.1; simp at this
 | x :: l, v :: vs, m, r, hl, h => by
  simp only [List.foldlM_cons, Option.bind_eq_bind, bes] at h
  obtain ⟨y, hy, h⟩ := h
  have hx := hl.head
  cases x <;> simp only [min2A] at hy <;> first | (cases hy; done) | skip
  cases hy
  cases hx
  obtain ⟨u, hu, hr⟩ := al0 k l vs _ r hl.tail h
  exact ⟨u, by simp only [List.foldlM_cons, Sem.run_bind, Builtin.min2, Sem.run_pure, Result.andThen_ok]; exact hu, hr⟩
theorem al6 (k : IntKind) : ∀ (l : List AV) (vs : List Value) (m : Int) (r : AV), LR μ F w l vs → l.foldlM max2A (AV.int k m) = some r →
  ∃ u, (vs.foldlM Builtin.max2 (.int k m)).run P w = .ok u w ∧ VR μ F w r u
 | [], [], m, r, _, h => by simp at h; subst h; exact ⟨_, rfl, .int _ _⟩
 | [], _ :: _, _, _, hl, _ => by have := hl.1; simp at this
 | _ :: _, [], _, _, hl, _ => by have := hl.1; simp at this
 | x :: l, v :: vs, m, r, hl, h => by
  simp only [List.foldlM_cons, Option.bind_eq_bind, bes] at h
  obtain ⟨y, hy, h⟩ := h
  have hx := hl.head
  cases x <;> simp only [max2A] at hy <;> first | (cases hy; done) | skip
  cases hy
  cases hx
  obtain ⟨u, hu, hr⟩ := al6 k l vs _ r hl.tail h
  exact ⟨u, by simp only [List.foldlM_cons, Sem.run_bind, Builtin.max2, Sem.run_pure, Result.andThen_ok]; exact hu, hr⟩
theorem ab1 (w : World) : ∀ (l : List Field) (pl : List (Nat × Nat)), (l.mapM fun f => (aac P f.type).map fun n => (f.offset, n)) = some pl →
  (l.mapM fun f => (do pure (f.offset, ← Go.sizeOf f.type) : Sem (Nat × Nat))).run P w = .ok pl w
 | [], pl, h => by simp at h; subst h; simp
 | f :: l, pl, h => by
  simp only [List.mapM_cons, Option.pure_def, Option.bind_eq_bind, bes, Option.map_eq_some_iff] at h
  obtain ⟨q, ⟨n, hn, rfl⟩, qs, hqs, h⟩ := h
  cases h
  have := ab1 w l qs hqs
  simp only [List.mapM_cons, Sem.run_bind, aaj hn, Result.andThen_ok, this, Sem.run_pure]
theorem afd {fs : Array Field} {pl : List (Nat × Nat)} (h : ae1 P fs = some pl) (w : World) :
  (fs.mapM fun f => (do pure (f.offset, ← Go.sizeOf f.type) : Sem (Nat × Nat))).run P w = .ok pl.toArray w := by
 rw [Array.mapM_eq_mapM_toList]
 simp only [Sem.run_map, ab1 w fs.toList pl h, Result.andThen_ok]
theorem acu (parts : Array (Nat × Operand)) (ρ : Operand → Value) : (parts.map fun (x : Nat × Operand) => match x with | (i, x) => (i, ρ x)).toList = parts.toList.map fun p => (p.1, ρ p.2) := by
 simp
theorem aku {o : Oper} {ao : AOp} {v : AV} (hc : cOp P o = some ao) (hp : pureA (Src.ev T) ao = some v) (hT : LR μ F w T a.tmps.toList) :
  ∃ u, (execOp a.eval o).run P w = .ok (.value u) w ∧ VR μ F w v u := by
 obtain ⟨dst, op, ty, pos, after, guard⟩ := o
 cases op <;> simp only [cOp] at hc
 case move x =>
  simp only [Option.map_eq_some_iff] at hc; obtain ⟨s, hs, rfl⟩ := hc
  cases hp; exact ⟨_, rfl, aad hT hs⟩
 case assign x =>
  simp only [Option.map_eq_some_iff] at hc; obtain ⟨s, hs, rfl⟩ := hc
  cases hp; exact ⟨_, rfl, aad hT hs⟩
 case pick c x y =>
  simp only [Option.bind_eq_bind, bes] at hc
  obtain ⟨sc, hsc, sx, hsx, sy, hsy, hc⟩ := hc; cases hc
  simp only [pureA] at hp
  split at hp
  ·rename_i t ht
   cases hp
   have := aad hT hsc
   rw [ht] at this
   generalize hcv : a.eval c = cv at this
   cases this
   refine ⟨_, amx rfl hcv, ?_⟩
   cases t
   ·exact aad hT hsy
   ·exact aad hT hsx
  ·cases hp
 case nilCheck x =>
  simp only [Option.map_eq_some_iff] at hc; obtain ⟨s, hs, rfl⟩ := hc
  have hx := aad hT hs
  simp only [pureA] at hp
  split at hp
  ·rename_i e; rw [e] at hx; cases hp; generalize hv : a.eval x = vx at hx; cases hx; rename_i L hL
   exact ⟨_, by simp [execOp, hv], .ptr _ _ L hL⟩
  ·rename_i e; rw [e] at hx; cases hp; generalize hv : a.eval x = vx at hx
   cases hx with
   | dp _ _ blk off arr ty fr g1 g2 g3 g4 => exact ⟨_, by simp [execOp, hv], .dp _ _ blk off arr ty fr g1 g2 g3 g4⟩
  ·rename_i e; rw [e] at hx; cases hp; generalize hv : a.eval x = vx at hx
   cases hx with
   | fn _ _ _ us vs h1 h2 h3 h4 => exact ⟨_, by simp [execOp, hv], .fn _ _ _ us vs h1 h2 h3 h4⟩
  ·rename_i e; rw [e] at hx; cases hp; generalize hv : a.eval x = vx at hx; cases hx; rename_i L hL
   exact ⟨_, by simp [execOp, hv], .loopv _ L hL⟩
  ·cases hp
 case unOp op t x =>
  simp only [Option.bind_eq_bind, bes] at hc
  obtain ⟨s, hs, hc⟩ := hc; cases hc
  obtain ⟨u, hu, hr⟩ := aok (P := P) (aad hT hs) hp
  exact ⟨u, run_v hu, hr⟩
 case extract x i =>
  simp only [Option.bind_eq_bind, bes] at hc
  obtain ⟨s, hs, hc⟩ := hc; cases hc
  have hx := aad hT hs
  simp only [pureA] at hp
  split at hp
  ·rename_i e; rw [e] at hx; generalize hv : a.eval x = vx at hx
   cases hx with
   | tup cs vs h1 h2 =>
    obtain ⟨u, hu, hr⟩ := (LR.of_agg h1 h2).get hp
    have hu' : vs[i]? = some u := by simpa using hu
    exact ⟨u, by simp [execOp, hv, Instr.extract, hu'], hr⟩
  ·cases hp
 case makeFunc f first cap =>
  simp only [Option.bind_eq_bind, bes] at hc
  obtain ⟨fs, hfs, cs, hcs, hc⟩ := hc; cases hc
  cases hp
  have h1 := acv hT hfs
  have h2 := acv hT hcs
  refine ⟨.func f (first.map a.eval) (cap.map a.eval), by simp [execOp, Instr.makeFunc], ?_⟩
  have e1 : LR μ F w (fs.map (Src.ev T)) (first.map a.eval).toList := by simpa using h1
  have e2 : LR μ F w (cs.map (Src.ev T)) (cap.map a.eval).toList := by simpa using h2
  exact .fn _ _ _ _ _ (aa4 e1).1 (aa4 e1).2 (aa4 e2).1 (aa4 e2).2
 case build t parts =>
  simp only [Option.bind_eq_bind, bes] at hc
  obtain ⟨z, hz, d, hd, hc⟩ := hc
  obtain ⟨zv, hzv, hzl⟩ := adw hz w
  split at hc
  ·rename_i fs
   simp only [bes] at hc
   obtain ⟨pl, hpl, ps, hps, hc⟩ := hc
   cases hc
   simp only [pureA, Option.bind_eq_bind, bes] at hp
   obtain ⟨cs, hcs, hp⟩ := hp
   cases hp
   obtain ⟨vs, hvs, hr⟩ := aj5 hT (pl[·]?) parts.toList ps z zv.cells cs hps (hzl μ F w) hcs
   refine ⟨.agg vs, run_v ?_, .agg _ _ (aa4 hr).1 (aa4 hr).2⟩
   simp only [Instr.build, Sem.run_bind, hzv, Result.andThen_ok, run_underlying hd, afd hpl, acu]
   have : (fun x : Nat => pl.toArray[x]?) = (fun x : Nat => pl[x]?) := by funext x; simp
   rw [this, hvs]
   rfl
  ·rename_i m e
   simp only [bes] at hc
   obtain ⟨n, hn, ps, hps, hc⟩ := hc
   cases hc
   simp only [pureA, Option.bind_eq_bind, bes] at hp
   obtain ⟨cs, hcs, hp⟩ := hp
   cases hp
   obtain ⟨vs, hvs, hr⟩ := aj5 hT (fun i => some (i * n, n)) parts.toList ps z zv.cells cs hps (hzl μ F w) hcs
   refine ⟨.agg vs, run_v ?_, .agg _ _ (aa4 hr).1 (aa4 hr).2⟩
   simp only [Instr.build, Sem.run_bind, hzv, Result.andThen_ok, run_underlying hd, aaj hn, acu]
   rw [hvs]
   rfl
  ·cases hc
 case binOp op t x y yt =>
  split at hc
  ·rename_i hty
   split at hc
   all_goals first | (cases hc; done) | skip
   all_goals
    simp only [Option.bind_eq_bind, bes] at hc
    obtain ⟨sx, hsx, sy, hsy, hc⟩ := hc; cases hc
    have hx := aad hT hsx
    have hy := aad hT hsy
    simp only [pureA] at hp
    split at hp
    ·rename_i as bs e1 e2
     rw [e1] at hx; rw [e2] at hy
     simp only [Option.map_eq_some_iff] at hp
     obtain ⟨r, hr, rfl⟩ := hp
     generalize hvx : a.eval x = vx at hx
     generalize hvy : a.eval y = vy at hy
     cases hx with
     | agg _ us h1 h2 =>
     cases hy with
     | agg _ vs h3 h4 =>
     have := aj2 hty (LR.of_agg h1 h2) (LR.of_agg h3 h4) hr x y
     refine ⟨.bool _, run_v (by rw [hvx, hvy]; first | exact this.1 | exact this.2), .bool _⟩
    ·cases hp
  ·split at hc
   ·rename_i hifc
    split at hc
    ·rename_i hcst
     simp only [Option.bind_eq_bind, bes] at hc
     obtain ⟨sx, hsx, sy, hsy, hc⟩ := hc; cases hc
     obtain ⟨ms, hms⟩ : ∃ ms, P.underlying t = some (.interface ms) := by
      unfold isIfc at hifc
      split at hifc
      ·exact ⟨_, by assumption⟩
      ·cases hifc
     obtain ⟨u, hu, hr⟩ := anm hms (aad hT hsx) (aad hT hsy) hp hcst
     exact ⟨u, run_v hu, hr⟩
    ·cases hc
   simp only [Option.bind_eq_bind, bes] at hc
   obtain ⟨kd, hkd, sx, hsx, sy, hsy, hc⟩ := hc; cases hc
   obtain ⟨u, hu, hr⟩ := amm hkd (aad hT hsx) (aad hT hsy) hp x y
   exact ⟨u, run_v hu, hr⟩
 case convert s d x =>
  simp only [Option.bind_eq_bind, bes] at hc
  obtain ⟨ds, hds, dd, hdd, hc⟩ := hc
  split at hc
  ·simp only [bes] at hc
   obtain ⟨sx, hsx, hc⟩ := hc; cases hc
   have hx := aad hT hsx
   simp only [pureA] at hp
   split at hp
   ·rename_i e; rw [e] at hx; cases hp
    generalize hv : a.eval x = vx at hx
    cases hx
    exact ⟨_, run_v (by rw [hv]; simp [convert, run_underlying hds, run_underlying hdd, Conv.intToInt]), .int _ _⟩
   ·cases hp
  ·simp only [bes] at hc
   obtain ⟨sx, hsx, hc⟩ := hc; cases hc
   have hx := aad hT hsx
   simp only [pureA] at hp
   split at hp
   ·rename_i e; rw [e] at hx; cases hp
    generalize hv : a.eval x = vx at hx
    cases hx
    exact ⟨_, run_v (by rw [hv]; simp [convert, run_underlying hds, run_underlying hdd]), .str _⟩
   ·cases hp
  ·simp only [bes] at hc
   obtain ⟨e, he, hc⟩ := hc
   split at hc
   ·simp only [bes] at hc
    obtain ⟨sx, hsx, hc⟩ := hc; cases hc; cases hp
   ·cases hc
  ·simp only [bes] at hc
   obtain ⟨e, he, hc⟩ := hc
   split at hc
   ·simp only [bes] at hc
    obtain ⟨n, hn, hc⟩ := hc
    split at hc
    ·simp only [bes] at hc
     obtain ⟨sx, hsx, hc⟩ := hc; cases hc; cases hp
    ·cases hc
   ·cases hc
  ·cases hc
 case makeInterface t x =>
  simp only [Option.bind_eq_bind, bes] at hc
  obtain ⟨d, hd, hc⟩ := hc
  split at hc
  ·cases hc
  ·rename_i hn
   simp only [bes] at hc
   obtain ⟨sx, hsx, hc⟩ := hc; cases hc
   have hx := aad hT hsx
   simp only [pureA] at hp
   split at hp
   ·cases hp
   ·cases hp
    refine ⟨.iface t (a.eval x), run_v ?_, .ifc _ _ _ hx⟩
    simp only [Instr.makeInterface, Sem.run_bind, run_underlying hd, Result.andThen_ok]
    cases d <;> first | rfl | (exact absurd rfl (hn _))
 case slice t x lo hi mx =>
  simp only [Option.bind_eq_bind, bes] at hc
  obtain ⟨d, hd, hc⟩ := hc
  split at hc
  ·simp only [bes] at hc
   obtain ⟨n, hn, sx, hsx, sl, hsl, sh, hsh, sm, hsm, hc⟩ := hc; cases hc
   simp only [pureA] at hp
   split at hp
   ·cases hp
   ·rename_i hstr
    obtain ⟨u, hu, hr⟩ := ajh hd hn (aad hT hsx) hstr (afp hT hsl) (afp hT hsh) (afp hT hsm) hp
    exact ⟨u, run_v hu, hr⟩
  ·split at hc
   ·cases hc
   ·rename_i hmx
    simp only [bes] at hc
    obtain ⟨sx, hsx, sl, hsl, sh, hsh, hc⟩ := hc; cases hc
    have hx := aad hT hsx
    simp only [pureA] at hp
    split at hp
    ·rename_i s e
     rw [e] at hx
     generalize hv : a.eval x = vx at hx
     cases hx
     have hm : mx = none := by simpa using hmx
     subst hm
     obtain ⟨u, hu, hr⟩ := ags (mx := none) (vmx := none) hd (afp hT hsl) (afp hT hsh) (show OR μ F w none none from trivial) hp
     exact ⟨u, run_v (by rw [hv]; exact hu), hr⟩
    ·cases hp
  ·cases hc
 case fieldAddr t x i =>
  simp only [Option.bind_eq_bind, bes] at hc
  obtain ⟨d, hd, hc⟩ := hc
  split at hc
  ·rename_i fs
   simp only [bes] at hc
   obtain ⟨f, hf, n, hn, hc⟩ := hc
   split at hc
   ·cases hc
   ·rename_i hn0
    simp only [bes] at hc
    obtain ⟨sx, hsx, hc⟩ := hc; cases hc
    have hx := aad hT hsx
    have hrun : ∀ b o, (Instr.fieldAt t (.pointer (some ⟨b, o, none⟩)) i).run P w = .ok (.pointer (some ⟨b, o + f.offset, none⟩)) w := by
     intro b o
     simp [Instr.fieldAt, run_underlying hd, hf, Instr.sureAddr, fieldPlace, aaj hn, hn0, abk]
    simp only [pureA] at hp
    split at hp
    ·rename_i b o e; rw [e] at hx; cases hp; generalize hv : a.eval x = vx at hx; cases hx; rename_i L hL
     exact ⟨_, run_v (by rw [hv]; exact hrun _ _), .ptr _ _ L hL⟩
    ·rename_i cs o e; rw [e] at hx; cases hp; generalize hv : a.eval x = vx at hx
     cases hx with
     | dp _ _ blk off arr ty fr g1 g2 g3 g4 => 
      refine ⟨_, run_v (by rw [hv]; exact hrun _ _), ?_⟩
      rw [Nat.add_assoc]
      exact .dp _ _ blk off arr ty fr g1 g2 g3 g4
    ·cases hp
  ·cases hc
 case field t x i =>
  simp only [Option.bind_eq_bind, bes] at hc
  obtain ⟨d, hd, hc⟩ := hc
  split at hc
  ·rename_i fs
   simp only [bes] at hc
   obtain ⟨f, hf, k, hk, sx, hsx, hc⟩ := hc; cases hc
   have hx := aad hT hsx
   simp only [pureA] at hp
   split at hp
   ·rename_i cs e; rw [e] at hx; generalize hv : a.eval x = vx at hx
    cases hx with
    | agg _ vs h1 h2 =>
     obtain ⟨u, hu, hr⟩ := agc hk (LR.of_agg h1 h2) hp
     exact ⟨u, run_v (by rw [hv]; simp [Instr.field, run_underlying hd, hf, asAgg, hu]), hr⟩
   ·cases hp
  ·cases hc
 case indexAddr t x i =>
  simp only [Option.bind_eq_bind, bes] at hc
  obtain ⟨d, hd, hc⟩ := hc
  split at hc
  ·rename_i e
   simp only [bes] at hc
   obtain ⟨n, hn, sx, hsx, si, hsi, hc⟩ := hc; cases hc
   have hx := aad hT hsx
   have hi := aad hT hsi
   simp only [pureA, Option.bind_eq_bind, bes] at hp
   obtain ⟨ix, hix, hp⟩ := hp
   obtain ⟨k, hk⟩ := aa6 hix hi
   have hrun : ∀ b o len cap, ix < len → (Instr.indexAt t (.slice (some ⟨b, o, none⟩) len cap) (.int k (ix : Int))).run P w = .ok (.pointer (some ⟨b, o + ix * n, none⟩)) w := by
    intro b o len cap hlt
    simp [Instr.indexAt, asIntOf, run_underlying hd, aaj hn, abk, hlt]
   split at hp
   ·rename_i b off m c sz ex e'; rw [e'] at hx; generalize hv : a.eval x = vx at hx
    split at hp
    ·rename_i hlt
     cases hp
     cases hx with
     | own _ _ _ _ _ _ L cap h1 h2 h3 h4 h5 h6 =>
      exact ⟨_, run_v (by rw [hv, hk]; exact hrun _ _ _ _ hlt.1), .ptr _ _ L h1⟩
    ·cases hp
   ·rename_i cs m e'; rw [e'] at hx; generalize hv : a.eval x = vx at hx
    split at hp
    ·rename_i hlt
     cases hp
     cases hx with
     | sl0 => omega
     | sl _ _ _ blk off arr ty fr g1 g2 g3 g4 g5 =>
      exact ⟨_, run_v (by rw [hv, hk]; exact hrun _ _ _ _ hlt), .dp _ _ blk off arr ty fr g1 g2 g4 g5⟩
    ·cases hp
   ·cases hp
  ·rename_i len e
   split at hc
   ·simp only [bes] at hc
    obtain ⟨n, hn, si, hsi, hc⟩ := hc; cases hc; cases hp
   ·simp only [bes] at hc
    obtain ⟨n, hn, sx, hsx, si, hsi, hc⟩ := hc; cases hc
    have hx := aad hT hsx
    have hi := aad hT hsi
    simp only [pureA, Option.bind_eq_bind, bes] at hp
    obtain ⟨ix, hix, hp⟩ := hp
    obtain ⟨k, hk⟩ := aa6 hix hi
    have hrun : ∀ b o, ix < len → (Instr.indexAt t (.pointer (some ⟨b, o, none⟩)) (.int k (ix : Int))).run P w = .ok (.pointer (some ⟨b, o + ix * n, none⟩)) w := by
     intro b o hlt
     simp [Instr.indexAt, Instr.sureAddr, asIntOf, run_underlying hd, aaj hn, abk, hlt]
    split at hp
    ·rename_i b o e'; rw [e'] at hx; generalize hv : a.eval x = vx at hx
     split at hp
     ·rename_i hlt
      cases hp
      cases hx with
      | ptr _ _ L h1 => exact ⟨_, run_v (by rw [hv, hk]; exact hrun _ _ hlt), .ptr _ _ L h1⟩
     ·cases hp
    ·rename_i cs o e'; rw [e'] at hx; generalize hv : a.eval x = vx at hx
     split at hp
     ·rename_i hlt
      cases hp
      cases hx with
      | dp _ _ blk off arr ty fr g1 g2 g4 g5 =>
       refine ⟨_, run_v (by rw [hv, hk]; exact hrun _ _ hlt), ?_⟩
       rw [Nat.add_assoc]
       exact .dp _ _ blk off arr ty fr g1 g2 g4 g5
     ·cases hp
    ·cases hp
  ·cases hc
 case index t x i =>
  simp only [Option.bind_eq_bind, bes] at hc
  obtain ⟨d, hd, hc⟩ := hc
  split at hc
  ·rename_i len e
   simp only [bes] at hc
   obtain ⟨n, hn, kk, hkk, sx, hsx, si, hsi, hc⟩ := hc; cases hc
   have hx := aad hT hsx
   have hi := aad hT hsi
   simp only [pureA, Option.bind_eq_bind, bes] at hp
   obtain ⟨ix, hix, hp⟩ := hp
   obtain ⟨k, hk⟩ := aa6 hix hi
   split at hp
   ·rename_i cs e'; rw [e'] at hx; generalize hv : a.eval x = vx at hx
    split at hp
    ·rename_i hlt
     cases hx with
     | agg _ vs h1 h2 =>
      obtain ⟨u, hu, hr⟩ := agc hkk (LR.of_agg h1 h2) hp
      exact ⟨u, run_v (by rw [hv, hk]; simp [Instr.index, asIntOf, run_underlying hd, hlt, aaj hn, hu]), hr⟩
    ·cases hp
   ·cases hp
  ·simp only [bes] at hc
   obtain ⟨sx, hsx, si, hsi, hc⟩ := hc; cases hc
   have hx := aad hT hsx
   have hi := aad hT hsi
   simp only [pureA, Option.bind_eq_bind, bes] at hp
   obtain ⟨ix, hix, hp⟩ := hp
   obtain ⟨k, hk⟩ := aa6 hix hi
   split at hp
   ·rename_i s e'; rw [e'] at hx; generalize hv : a.eval x = vx at hx
    simp only [Option.map_eq_some_iff] at hp
    obtain ⟨b, hb, rfl⟩ := hp
    cases hx
    exact ⟨_, run_v (by rw [hv, hk]; simp [Instr.index, asIntOf, run_underlying hd, hb]), .int _ _⟩
   ·cases hp
  ·cases hc
 case call c =>
  simp only [Option.bind_eq_bind, bes] at hc
  obtain ⟨args, hargs, hc⟩ := hc
  have hl := acv hT hargs
  obtain ⟨callee, cargs, argTypes⟩ := c
  simp only at hc hl hargs
  cases callee with
  | value f =>
   simp only [bes] at hc
   obtain ⟨s, hs, hc⟩ := hc; cases hc; cases hp
  | invoke r m => cases hc
  | builtin b =>
   have hrun : ∀ (s : Sem Value) (u : Value), s.run P w = .ok u w → (∀ consts, builtin b argTypes ty consts (cargs.map a.eval) = (do pure (.value (← s)))) →
     (execOp a.eval ⟨dst, .call ⟨.builtin b, cargs, argTypes⟩, ty, pos, after, guard⟩).run P w = .ok (.value u) w := by
    intro s u h1 h2
    simp only [execOp, resolve, Sem.run_bind, Sem.run_pure, Result.andThen_ok, invoke]
    exact (congrArg (fun s => s.run P w) (h2 _)).trans (run_v h1)
   have one : ∀ {x : Src}, args = [x] → ∃ v, cargs.map a.eval = #[v] ∧ VR μ F w (x.ev T) v := by
    intro x hx
    subst hx
    have h1 := hl.1
    simp only [List.map_cons, List.map_nil, List.length_cons, List.length_nil, List.length_map, Array.length_toList] at h1
    obtain ⟨l⟩ := cargs
    match l, h1 with
    | [y], _ => exact ⟨a.eval y, by simp, hl.2 0 _ _ rfl rfl⟩
   have aty : ∀ {t : TypeId}, argTypes.toList = [t] → argTypes = #[t] := by
    intro t ht
    obtain ⟨l⟩ := argTypes; simp at ht; subst ht; rfl
   simp only at hc
   split at hc
   ·rename_i x t 
    obtain ⟨v1, hv1, hr1⟩ := one rfl
    simp only [bes] at hc
    obtain ⟨d, hd, hc⟩ := hc
    split at hc
    ·rename_i e ht
     have hat := aty (by assumption)
     cases hc
     simp only [pureA] at hp
     split at hp
     ·rename_i b off n c sz ex e'; rw [e'] at hr1; cases hp
      cases hr1
      exact ⟨_, hrun _ _ (by rw [hv1, hat]; simp [Builtin.len_, run_underlying hd]; rfl) (fun _ => rfl), .int _ _⟩
     ·rename_i b off e'; rw [e'] at hr1; cases hp
      cases hr1
      ·exact ⟨_, hrun _ _ (by rw [hv1, hat]; simp [Builtin.len_, run_underlying hd]; rfl) (fun _ => rfl), .int _ _⟩
      ·exact ⟨_, hrun _ _ (by rw [hv1, hat]; simp [Builtin.len_, run_underlying hd]; rfl) (fun _ => rfl), .int _ _⟩
     ·rename_i e'; rw [e'] at hr1; cases hp
      cases hr1
      exact ⟨_, hrun _ _ (by rw [hv1, hat]; simp [Builtin.len_, run_underlying hd]; rfl) (fun _ => rfl), .int _ _⟩
     ·cases hp
    ·rename_i ht
     have hat := aty (by assumption)
     cases hc
     simp only [pureA] at hp
     split at hp
     ·rename_i s e'; rw [e'] at hr1; cases hp
      cases hr1
      exact ⟨_, hrun _ _ (by rw [hv1, hat]; simp [Builtin.len_, run_underlying hd]; rfl) (fun _ => rfl), .int _ _⟩
     ·cases hp
    ·cases hc; cases hp
    ·cases hc
   ·rename_i x t
    obtain ⟨v1, hv1, hr1⟩ := one rfl
    simp only [bes] at hc
    obtain ⟨d, hd, hc⟩ := hc
    split at hc
    ·rename_i e ht
     have hat := aty (by assumption)
     cases hc
     simp only [pureA] at hp
     split at hp
     ·rename_i b off n c sz e'; rw [e'] at hr1; cases hp
      cases hr1 with
      | own _ _ _ _ _ _ L cap h1 h2 h3 h4 h5 h6 =>
      have := h5 rfl
      subst this
      exact ⟨_, hrun _ _ (by rw [hv1, hat]; simp [Builtin.cap_, run_underlying hd]; rfl) (fun _ => rfl), .int _ _⟩
     ·rename_i e'; rw [e'] at hr1; cases hp
      cases hr1
      exact ⟨_, hrun _ _ (by rw [hv1, hat]; simp [Builtin.cap_, run_underlying hd]; rfl) (fun _ => rfl), .int _ _⟩
     ·cases hp
    ·cases hc
   ·cases hc
    simp only [pureA] at hp
    rw [show cargs.toList.map a.eval = (cargs.map a.eval).toList by simp] at hl
    split at hp
    ·rename_i k m rest e'
     rw [e'] at hl
     obtain ⟨l, hvs⟩ : ∃ l, (cargs.map a.eval).toList = l := ⟨_, rfl⟩
     rw [hvs] at hl
     cases l with
     | nil => have := hl.1; simp at this
     | cons v vs =>
      have h0 := hl.head
      cases h0
      obtain ⟨u, hu, hr⟩ := al0 (P := P) k rest vs m _ hl.tail hp
      exact ⟨u, hrun (Builtin.min_ argTypes ty (cargs.map a.eval)) u (by unfold Builtin.min_; rw [hvs]; exact hu) (fun _ => rfl), hr⟩
    ·cases hp
   ·cases hc
    simp only [pureA] at hp
    rw [show cargs.toList.map a.eval = (cargs.map a.eval).toList by simp] at hl
    split at hp
    ·rename_i k m rest e'
     rw [e'] at hl
     obtain ⟨l, hvs⟩ : ∃ l, (cargs.map a.eval).toList = l := ⟨_, rfl⟩
     rw [hvs] at hl
     cases l with
     | nil => have := hl.1; simp at this
     | cons v vs =>
      have h0 := hl.head
      cases h0
      obtain ⟨u, hu, hr⟩ := al6 (P := P) k rest vs m _ hl.tail hp
      exact ⟨u, hrun (Builtin.max_ argTypes ty (cargs.map a.eval)) u (by unfold Builtin.max_; rw [hvs]; exact hu) (fun _ => rfl), hr⟩
    ·cases hp
   all_goals (try simp only [bes] at hc)
   all_goals (repeat' (first | (cases hc; done) | (obtain ⟨_, _, hc⟩ := hc) | (simp only [bes] at hc) | (split at hc)))
   all_goals first | (cases hp; done) | (cases hc; cases hp; done)
 case typeAssert x xt t ok =>
  simp only [Option.bind_eq_bind, bes] at hc
  obtain ⟨d, hd, hc⟩ := hc
  split at hc
  ·cases hc
  ·rename_i hni
   simp only [bes] at hc
   obtain ⟨zv, hzv, z, hz, sx, hsx, hc⟩ := hc
   cases hc
   have hx := aad hT hsx
   obtain ⟨i, hi, hzi⟩ := hzv
   have hzr : (zeroValue t).run P w = .ok zv w := by simp [zeroValue, typeInfo, hi, hzi]
   have hu := run_underlying (P := P) hd
   simp only [pureA] at hp
   have two : ∀ {x : AV} {u : Value} {b : Bool}, VR μ F w x u → VR μ F w (.tup [x, .bool b]) (.tuple #[u, .bool b]) := fun {x u b} h => by
    refine .tup _ _ rfl fun i c v hc hv => ?_
    have : i = 0 ∨ i = 1 ∨ 2 ≤ i := by omega
    rcases this with rfl | rfl | h2
    ·simp at hc hv; subst hc; subst hv; exact h
    ·simp at hc hv; subst hc; subst hv; exact .bool _
    ·rw [List.getElem?_eq_none (by simpa using h2)] at hc; cases hc
   split at hp
   ·rename_i t' y e; rw [e] at hx; generalize hv : a.eval x = vx at hx
    cases hx with
    | ifc _ _ u hy =>
    split at hp
    ·rename_i ht
     cases hp
     subst ht
     cases ok
     ·refine ⟨_, run_v (?_ : (Instr.typeAssert (a.eval x) xt t' false).run P w = .ok u w), hy⟩
      rw [hv]; unfold Instr.typeAssert
      cases d <;> first | exact absurd rfl (hni _) | simp [hu]
     ·refine ⟨_, run_v (?_ : (Instr.typeAssert (a.eval x) xt t' true).run P w = .ok (.tuple #[u, .bool true]) w), two hy⟩
      rw [hv]; unfold Instr.typeAssert
      cases d <;> first | exact absurd rfl (hni _) | simp [hu]
    ·rename_i ht
     split at hp
     ·rename_i hok
      cases hp
      subst hok
      refine ⟨_, run_v (?_ : (Instr.typeAssert (a.eval x) xt t true).run P w = .ok (.tuple #[zv, .bool false]) w), two (ac8 hz)⟩
      rw [hv]; unfold Instr.typeAssert
      cases d <;> first | exact absurd rfl (hni _) | simp [hu, ht, hzr]
     ·cases hp
   ·rename_i e; rw [e] at hx; generalize hv : a.eval x = vx at hx
    cases hx
    split at hp
    ·rename_i hok
     cases hp
     subst hok
     refine ⟨_, run_v (?_ : (Instr.typeAssert (a.eval x) xt t true).run P w = .ok (.tuple #[zv, .bool false]) w), two (ac8 hz)⟩
     rw [hv]; unfold Instr.typeAssert
     cases d <;> first | exact absurd rfl (hni _) | simp [hu, hzr]
    ·cases hp
   ·cases hp
 case load t x =>
  split at hc
  ·simp only [Option.bind_eq_bind, bes] at hc
   obtain ⟨_, _, hc⟩ := hc
   cases hc; cases hp
  ·simp only [Option.bind_eq_bind, bes] at hc
   obtain ⟨_, _, _, _, hc⟩ := hc
   cases hc; cases hp
 case next x sb =>
  split at hc
  ·simp only [Option.map_eq_some_iff] at hc
   obtain ⟨_, _, hc⟩ := hc
   cases hc; cases hp
  ·cases hc
 all_goals (try simp only [Option.bind_eq_bind, bes, Option.map_eq_some_iff] at hc)
 all_goals (repeat' (first | (cases hc; done) | (obtain ⟨_, _, hc⟩ := hc) | (simp only [bes] at hc) | (split at hc)))
 all_goals first | (cases hp; done) | (cases hc; cases hp; done)
end
end Go.Proofs.YtcmbokfnglkfnaaGreatDoor.Ev
