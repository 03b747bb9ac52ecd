/-
  THE EVALUATOR's OPERATIONS are the model's: those on memory, all together.
-/
import Derived.Test.YtedembbgeljdkaaGreatDoorEvMap
import Derived.Laws.BytesString
namespace Go.Proofs.YtedembbgeljdkaaGreatDoor.Ev
open Go
set_option linter.all false

section
variable {I : Nat → Prop} {P : Program} {μ : Mu} {F : Nat → Prop} {H : Heap} {w : World} {T : Tm} {a : Act}

theorem run_u {s : Sem Unit} {w' : World} (h : s.run P w = .ok () w') : ((do s; pure Next.skip) : Sem Next).run P w = .ok .skip w' := by
  simp [h]

theorem zero_one {t : TypeId} {z : List AV} (h : zeroCells? P t = some z) : z.all AV.one = true := by
  simp only [zeroCells?, Option.bind_eq_bind, Option.bind_eq_some_iff] at h
  obtain ⟨i, hi, zv, hz, h⟩ := h
  exact mapM_one h

theorem clear_sound {t e ty : TypeId} {size : Nat} {z : List AV} {x : AV} {vx : Value} {H' : Heap} (ht : P.underlying t = some (.slice e)) (hs : sizeOf? P e = some size) (hz : zeroCells? P e = some z) (hH : HR P μ F H w) (hx : VR μ F w x vx)
    (h : clearA H size z x = some H') :
    ∃ u w', (Builtin.clear_ #[t] ty #[vx]).run P w = .ok u w' ∧ Done I P μ F H w (.tup []) H' u w' μ := by
  have hnil : VR μ F w (.tup []) (.tuple #[]) := .tup _ _ rfl fun i c v h => by simp at h
  have hnil' : ∀ w, VR μ F w (.tup []) (.tuple #[]) := fun w => .tup _ _ rfl fun i c v h => by simp at h
  cases x with
  | nilSl =>
    cases h; cases hx
    exact ⟨_, w, by simp [Builtin.clear_, run_underlying ht], ⟨hnil, hH, Stp.refl _ _ _ _ _ _⟩⟩
  | own b off n c sz ex =>
    cases hx with
    | own _ _ _ _ _ _ L cap h1 h2 h3 h4 h5 h6 =>
    simp only [clearA] at h
    split at h
    · rename_i cs ty' hb
      split at h
      · rename_i hn
        cases h
        subst hn
        exact ⟨_, w, by simp [Builtin.clear_, run_underlying ht], ⟨hnil, hH, Stp.refl _ _ _ _ _ _⟩⟩
      · rename_i hn
        split at h
        · rename_i hc
          obtain ⟨c1, c2, c3, c4⟩ := hc
          cases h
          subst c1
          obtain ⟨zv, hzv, hzr⟩ := run_zero hz w
          have hzs : zv.cells.size = sz := by have := (hzr μ F w).1; simp at this; omega
          have hrep := (hzr μ F w).rep n
          have hlen : ((List.replicate n z).flatten).length = n * sz := by simp [c3]
          have hall : ((List.replicate n z).flatten).all AV.one = true := by
            rw [List.all_eq_true] at c4 ⊢
            intro y hy
            simp only [List.mem_flatten, List.mem_replicate] at hy
            obtain ⟨l, ⟨_, rfl⟩, hy⟩ := hy
            exact c4 y hy
          obtain ⟨arr, fr, g1, g2, g3, g4, g5, g6, g7⟩ := ent_cells hH hb h1
          obtain ⟨w', hrun, q1, q2⟩ := put_cells (I := I) hH hb h1 (o := off) hrep hall (by omega) (by omega)
          rw [hlen] at q1 q2
          refine ⟨_, w', ?_, ⟨hnil' _, q1, q2⟩⟩
          have hzc : (Builtin.zeroCells zv.cells n).toList = (List.replicate n zv.cells.toList).flatten := by
            unfold Builtin.zeroCells
            exact range_map_toList _ _ rfl
          unfold Builtin.clear_
          simp only [List.getElem?_toArray, List.getElem?_cons_zero, Sem.run_bind, run_underlying ht, Result.andThen_ok]
          obtain ⟨k, rfl⟩ : ∃ k, n = k + 1 := ⟨n - 1, by omega⟩
          simp only [Sem.run_bind, hzv, Result.andThen_ok, hzc, hrun, Sem.run_pure]
        · cases h
    · cases h
  | _ => cases h

def Ends (P : Program) (a : Act) (w : World) (o : Oper) (u : Value) (w' : World) : Prop :=
  (execOp a.eval o).run P w = .ok (.value u) w' ∨ ((execOp a.eval o).run P w = .ok .skip w' ∧ u = undef)

theorem two_args {cargs : Array Operand} {x y : Src} (hT : LR μ F w T a.tmps.toList) (h : cargs.toList.mapM cSrc = some [x, y]) : ∃ vx vy, cargs.map a.eval = #[vx, vy] ∧ VR μ F w (x.ev T) vx ∧ VR μ F w (y.ev T) vy := by
  have hl := srcs_lr hT h
  have h1 := hl.1
  simp only [List.map_cons, List.map_nil, List.length_cons, List.length_nil, List.length_map, Array.length_toList] at h1
  obtain ⟨l⟩ := cargs
  match l, h1 with
  | [p, q], _ => exact ⟨a.eval p, a.eval q, by simp, hl.2 0 _ _ rfl rfl, hl.2 1 _ _ rfl rfl⟩

theorem one_arg {cargs : Array Operand} {x : Src} (hT : LR μ F w T a.tmps.toList) (h : cargs.toList.mapM cSrc = some [x]) : ∃ vx, cargs.map a.eval = #[vx] ∧ VR μ F w (x.ev T) vx := by
  have hl := srcs_lr hT h
  have h1 := hl.1
  simp only [List.map_cons, List.map_nil, List.length_cons, List.length_nil, List.length_map, Array.length_toList] at h1
  obtain ⟨l⟩ := cargs
  match l, h1 with
  | [p], _ => exact ⟨a.eval p, by simp, hl.2 0 _ _ rfl rfl⟩

theorem run_builtin {dst : Option Tmp} {ty : TypeId} {pos : String} {after : Array Edge} {guard : Option (Nat × Bool)} {b : Builtin} {cargs : Array Operand} {argTypes : Array TypeId} {s : Sem Value} {u : Value} {w' : World}
    (h1 : s.run P w = .ok u w') (h2 : ∀ consts, builtin b argTypes ty consts (cargs.map a.eval) = (do pure (.value (← s)))) :
    (execOp a.eval ⟨dst, .call ⟨.builtin b, cargs, argTypes⟩, ty, pos, after, guard⟩).run P w = .ok (.value u) w' := by
  simp only [execOp, resolve, Sem.run_bind, Sem.run_pure, Result.andThen_ok, invoke]
  exact (congrArg (fun s => s.run P w) (h2 _)).trans (run_v h1)

theorem slice_inv {x v : AV} {vx : Value} {id size bytes ty m : Nat} {news : List AV} {fr : Option Nat} {H' : Heap} (h : appendC H id size bytes ty x m news fr = some (v, H')) (hx : VR μ F w x vx) : ∃ base n cap, vx = .slice base n cap := by
  cases x with
  | nilSl => cases hx; exact ⟨_, _, _, rfl⟩
  | own b off n c sz ex => cases hx; exact ⟨_, _, _, rfl⟩
  | _ => cases h

theorem zero_info {t : TypeId} {z : List AV} (h : zeroCells? P t = some z) : ∃ i zv, P.info? t = some i ∧ i.zero = some zv ∧ cellsAV zv = some z := by
  simp only [zeroCells?, Option.bind_eq_bind, Option.bind_eq_some_iff] at h
  obtain ⟨i, hi, zv, hz, h⟩ := h
  exact ⟨i, zv, hi, hz, h⟩

theorem append_sound {t xt e ty n bytes id m : Nat} {z news : List AV} {x v y : AV} {vx vy : Value} {fr : Option Nat} {H' : Heap} (ht : P.underlying t = some (.slice e)) (hn : sizeOf? P e = some n) (hb : bytesOf? P e = some bytes) (hz : zeroCells? P e = some z) (hzl : z.length = n)
    (hpl : Plain P xt) (hH : HR P μ F H w) (hid : μ id = none) (hlt : id < H.next) (hI : I id) (hx : VR μ F w x vx) (hy : VR μ F w y vy) (hm : lenA y = some m) (hnews : firstC H n m y = some news)
    (h : appendC H id n bytes e x m news fr = some (v, H')) :
    ∃ u w' μ', (Builtin.append_ #[t, xt] ty #[vx, vy]).run P w = .ok u w' ∧ Done I P μ F H w v H' u w' μ' := by
  obtain ⟨i, zv, hi, hzv, hzc⟩ := zero_info hz
  have hzs : zv.cells.size = n := by
    have := (mapM_lr (μ := μ) (F := F) (w := w) hzc).1
    simp at this; omega
  have hib : i.bytes = bytes := by
    simp only [bytesOf?, hi, Option.map_some, Option.some.injEq] at hb; exact hb
  obtain ⟨base, k, cap, rfl⟩ := slice_inv h hx
  obtain ⟨hlen, nv, hnv, hnl⟩ := firstC_sound hH hy hnews
  refine appendC_sound (nv := nv.toArray) (zv := zv) hH hid hlt hI hn hzs hx (by simpa using hnl) hlen h ?_ ?_
  · intro base' n' cap' e1 hle
    cases e1
    exact append_in ht hn hpl (len_sound hy hm) (hnv w rfl) hle
  · intro base' n' cap' ov e1 hnle hB hN hov
    cases e1
    exact append_out ht hn hi hib hzv hpl (len_sound hy hm) hnv hov hnle hB hN


/-! ### append(s, make([]T, m)...) -/

theorem append_in_z {t xt e ty : TypeId} {size bytes n m cap : Nat} {base : Option Addr} {i : TypeInfo} {zv : Value} {kq kx : IntKind}
    (ht : P.underlying t = some (.slice e)) (hs : sizeOf? P e = some size) (hi : P.info? e = some i) (hib : i.bytes = bytes) (hz : i.zero = some zv) (hzs : zv.cells.size = size) (hx : P.underlying xt = some (.int kq))
    (hm : m < 2 ^ 62) (hmb : m * bytes ≤ 2 ^ 46) (hneed : n + m ≤ cap) :
    (Builtin.append_ #[t, xt] ty #[.slice base n cap, .int kx (m : Int)]).run P w = ((match base with | some a => storeCells (a.add (n * size)) (Builtin.zeroCells zv.cells m).toList | none => pure () : Sem Unit).run P w).andThen fun _ w' => .ok (.slice base (n + m) cap) w' := by
  have e1 := wrap_id (c := m) (by omega)
  have hneg : ¬ ((m : Int) < 0) := by omega
  have hbig : ¬ ((m : Int) * (i.bytes : Int) > 2 ^ 48) := by
    have : ((m * i.bytes : Nat) : Int) = (m : Int) * (i.bytes : Int) := by simp
    rw [← this, hib]; omega
  unfold Builtin.append_
  by_cases h0 : m * size = 0
  · have hz0 : Builtin.zeroCells zv.cells m = #[] := by
      have : (Builtin.zeroCells zv.cells m).size = 0 := by rw [zc_size, hzs, h0]
      exact Array.eq_empty_of_size_eq_zero this
    simp only [List.getElem?_toArray, List.getElem?_cons_zero, List.getElem?_cons_succ, Sem.run_bind, run_underlying ht, Result.andThen_ok, run_size hs, run_underlying hx, Sem.run_pure, if_true, asInt, asIntOf, e1, hneg, if_false, run_info hi, hbig, Int.toNat_natCast, Bool.not_true, Bool.false_eq_true, h0, hneed, hz0]
    cases base <;> simp
  · simp only [List.getElem?_toArray, List.getElem?_cons_zero, List.getElem?_cons_succ, Sem.run_bind, run_underlying ht, Result.andThen_ok, run_size hs, run_underlying hx, Sem.run_pure, if_true, asInt, asIntOf, e1, hneg, if_false, run_info hi, hbig, Int.toNat_natCast, Bool.not_true, Bool.false_eq_true, h0, hneed, zeroValue, hz]
    cases base <;> simp

theorem append_out_z {t xt e ty : TypeId} {size bytes n m cap : Nat} {base : Option Addr} {ov : Array Value} {i : TypeInfo} {zv : Value} {kq kx : IntKind}
    (ht : P.underlying t = some (.slice e)) (hs : sizeOf? P e = some size) (hi : P.info? e = some i) (hib : i.bytes = bytes) (hz : i.zero = some zv) (hzs : zv.cells.size = size) (hx : P.underlying xt = some (.int kq))
    (hm : m < 2 ^ 62) (hmb : m * bytes ≤ 2 ^ 46) (ho : ∀ w', w'.heap = w.heap → (Builtin.firstCells size n (.slice base n cap)).run P w' = .ok ov w')
    (hneed : ¬ n + m ≤ cap) (hb : (n + m) * bytes ≤ 2 ^ 46) (hn : n + m < 2 ^ 62) :
    ∃ cap', n + m ≤ cap' ∧ (Builtin.append_ #[t, xt] ty #[.slice base n cap, .int kx (m : Int)]).run P w =
      .ok (.slice (some ⟨w.heap.size, 0, none⟩) (n + m) cap') (({ w with drawn := w.drawn + 1 } : World).alloc (.cells (ov ++ Builtin.zeroCells zv.cells m ++ Builtin.zeroCells zv.cells (cap' - (n + m))) e)) := by
  have e1 := wrap_id (c := m) (by omega)
  have hneg : ¬ ((m : Int) < 0) := by omega
  have hbig : ¬ ((m : Int) * (i.bytes : Int) > 2 ^ 48) := by
    have : ((m * i.bytes : Nat) : Int) = (m : Int) * (i.bytes : Int) := by simp
    rw [← this, hib]; omega
  have hnext : ¬ Builtin.nextslicecap (n + m) cap * i.bytes > 2 ^ 48 := by
    have h1 := nextcap_le (need := n + m) (cap := cap) (by omega)
    have h2 : Builtin.nextslicecap (n + m) cap * bytes ≤ 2 * (n + m) * bytes := Nat.mul_le_mul_right _ h1
    rw [Nat.mul_assoc] at h2
    rw [hib]; omega
  have hmax : ¬ ((↑(n + m) : Int) > IntKind.i64.max ∧ (True ∨ i.bytes = 0)) := by
    rintro ⟨h1, _⟩
    have : IntKind.i64.max = 9223372036854775807 := by decide
    rw [this] at h1
    omega
  refine ⟨(Question.appendCap (n + m) cap e).cut (w.tape w.drawn (Question.appendCap (n + m) cap e)), by simp [Question.cut], ?_⟩
  have hq : (choose (Question.appendCap (n + m) cap e)).run P w = .ok ((Question.appendCap (n + m) cap e).cut (w.tape w.drawn (Question.appendCap (n + m) cap e))) { w with drawn := w.drawn + 1 } := by
    rw [run_choose, if_neg (by simp [Question.forced])]
  have ho' := ho { w with drawn := w.drawn + 1 } rfl
  generalize (Question.appendCap (n + m) cap e).cut (w.tape w.drawn (Question.appendCap (n + m) cap e)) = c at hq
  unfold Builtin.append_
  by_cases h0 : m * size = 0
  · have hz0 : Builtin.zeroCells zv.cells m = #[] := by
      have : (Builtin.zeroCells zv.cells m).size = 0 := by rw [zc_size, hzs, h0]
      exact Array.eq_empty_of_size_eq_zero this
    simp only [List.getElem?_toArray, List.getElem?_cons_zero, List.getElem?_cons_succ, Sem.run_bind, run_underlying ht, Result.andThen_ok, run_size hs, run_underlying hx, Sem.run_pure, if_true, asInt, asIntOf, e1, hneg, if_false, run_info hi, hbig, Int.toNat_natCast, Bool.not_true, Bool.false_eq_true, h0, hneed, hz0,
      hmax, hnext, hq, run_askRoom, ho', zeroValue, hz, run_newRow]
  · simp only [List.getElem?_toArray, List.getElem?_cons_zero, List.getElem?_cons_succ, Sem.run_bind, run_underlying ht, Result.andThen_ok, run_size hs, run_underlying hx, Sem.run_pure, if_true, asInt, asIntOf, e1, hneg, if_false, run_info hi, hbig, Int.toNat_natCast, Bool.not_true, Bool.false_eq_true, h0, hneed,
      hmax, hnext, hq, run_askRoom, ho', zeroValue, hz, run_newRow]

theorem appendZ_sound {t xt e ty n bytes id m : Nat} {z : List AV} {x v y : AV} {vx vy : Value} {fr : Option Nat} {H' : Heap} {kq : IntKind} (ht : P.underlying t = some (.slice e)) (hn : sizeOf? P e = some n) (hb : bytesOf? P e = some bytes) (hz : zeroCells? P e = some z) (hzl : z.length = n)
    (hxt : P.underlying xt = some (.int kq)) (hH : HR P μ F H w) (hid : μ id = none) (hlt : id < H.next) (hI : I id) (hx : VR μ F w x vx) (hy : VR μ F w y vy) (hm : asN y = some m) (hm1 : m * bytes ≤ 2 ^ 46) (hm2 : m < 2 ^ 62)
    (h : appendC H id n bytes e x m ((List.replicate m z).flatten) fr = some (v, H')) :
    ∃ u w' μ', (Builtin.append_ #[t, xt] ty #[vx, vy]).run P w = .ok u w' ∧ Done I P μ F H w v H' u w' μ' := by
  obtain ⟨i, zv, hi, hzv, hzc⟩ := zero_info hz
  have hzr := mapM_lr (μ := μ) (F := F) (w := w) hzc
  have hzs : zv.cells.size = n := by
    have := hzr.1
    simp at this; omega
  have hib : i.bytes = bytes := by
    simp only [bytesOf?, hi, Option.map_some, Option.some.injEq] at hb; exact hb
  obtain ⟨base, k, cap, rfl⟩ := slice_inv h hx
  obtain ⟨kx, rfl⟩ : ∃ kx, vy = .int kx (m : Int) := by
    cases y with
    | int kx q =>
      cases q with
      | ofNat q => simp only [asN, Option.some.injEq] at hm; subst hm; cases hy; exact ⟨kx, rfl⟩
      | negSucc q => simp [asN] at hm
    | _ => simp [asN] at hm
  have hzl2 : (Builtin.zeroCells zv.cells m).toList = (List.replicate m zv.cells.toList).flatten := by
    unfold Builtin.zeroCells
    exact range_map_toList _ _ rfl
  have hnl : LR μ F w ((List.replicate m z).flatten) (Builtin.zeroCells zv.cells m).toList := by rw [hzl2]; exact hzr.rep m
  refine appendC_sound (nv := Builtin.zeroCells zv.cells m) (zv := zv) hH hid hlt hI hn hzs hx hnl (by simp [hzl]) h ?_ ?_
  · intro base' n' cap' e1 hle
    cases e1
    exact append_in_z ht hn hi hib hzv hzs hxt hm2 hm1 hle
  · intro base' n' cap' ov e1 hnle hB hN hov
    cases e1
    exact append_out_z ht hn hi hib hzv hzs hxt hm2 hm1 hov hnle hB hN


/-! ### string(bytes) -/

theorem bytesA_ints : ∀ (cs : List AV) (s r : ByteArray) (nv : List Value), bytesA cs s = some r → LR μ F w cs nv → ∃ ns : List Int, nv = ns.map (Value.int .u8) ∧ r = ns.foldl (fun r n => r.push (UInt8.ofNat n.toNat)) s
  | [], s, r, nv, h, hl => by
    have := hl.1
    cases nv with
    | nil => cases h; exact ⟨[], rfl, rfl⟩
    | cons x nv => simp at this
  | c :: cs, s, r, nv, h, hl => by
    cases nv with
    | nil => have := hl.1; simp at this
    | cons x nv =>
      have hx := hl.head
      obtain ⟨q, rfl⟩ : ∃ q, c = .int .u8 q := by
        unfold bytesA at h
        split at h
        · rename_i e; cases e
        · rename_i e; cases e; exact ⟨_, rfl⟩
        · cases h
      simp only [bytesA] at h
      cases hx
      obtain ⟨ns, h1, h2⟩ := bytesA_ints cs _ r nv h hl.tail
      exact ⟨q :: ns, by rw [h1]; rfl, by rw [h2]; rfl⟩

theorem toStr_sound {src dst e : TypeId} {x : AV} {vx : Value} {s : ByteArray} (hs : P.underlying src = some (.slice e)) (he : P.underlying e = some (.int .u8)) (hd : P.underlying dst = some .string)
    (hH : HR P μ F H w) (hx : VR μ F w x vx) (h : toStrA H x = some s) : (convert src dst vx).run P w = .ok (.string s) w := by
  have hnostr : ∀ t, x ≠ .str t := fun t e => by subst e; simp [toStrA] at h
  have h' : (match lenA x with | none => none | some n => match firstC H 1 n x with | none => none | some cs => bytesA cs .empty) = some s := by
    unfold toStrA at h
    split at h
    · cases h
    · exact h
  split at h'
  · cases h'
  · rename_i n hn
    split at h'
    · cases h'
    · rename_i cs hcs
      obtain ⟨-, nv, hnv, hnl⟩ := firstC_sound (P := P) hH hx hcs
      obtain ⟨ns, hns, rfl⟩ := bytesA_ints _ _ _ _ h' hnl
      have hlen := len_sound (P := P) hx hn
      have hv := hnv w rfl
      subst hns
      obtain ⟨base, k, cap, rfl⟩ : ∃ base k cap, vx = .slice base k cap := by
        cases x <;> simp only [lenA] at hn <;> first | (cases hn; done) | skip
        · exact absurd rfl (hnostr _)
        · cases hx; exact ⟨_, _, _, rfl⟩
        · cases hx <;> exact ⟨_, _, _, rfl⟩
        · cases hx; exact ⟨_, _, _, rfl⟩
      rw [run_convert_bytes_string w src dst e base k cap hs he hd]
      have hk : k = n := by
        have e : (Builtin.lenOf (.slice base k cap)).run P w = .ok k w := rfl
        rw [e] at hlen
        cases hlen; rfl
      subst hk
      cases base with
      | none =>
        have : ns = [] := by
          have e : (Builtin.firstCells 1 k (.slice none k cap)).run P w = .ok #[] w := rfl
          rw [e] at hv
          cases ns with
          | nil => rfl
          | cons a l => simp at hv
        subst this
        simp [Conv.bytesToString]
      | some a =>
        simp only [Builtin.firstCells, Nat.mul_one] at hv
        exact run_bytesToString w a k cap ns hv


/-! ### []byte(text) -/

theorem freeze_alloc (w : World) (arr : Array Value) (ty : TypeId) : (w.alloc (.cells arr ty)).freeze ⟨w.heap.size, arr.size, none⟩ 1 = w.alloc (.cells arr ty (arr.size, arr.size + 1)) := by
  simp only [World.freeze, World.alloc]
  rw [if_neg (by omega)]
  congr 1
  apply Array.ext_getElem?
  intro j
  rw [Array.getElem?_modify]
  by_cases hj : w.heap.size = j
  · subst hj; simp
  · rw [if_neg hj, Array.getElem?_push, Array.getElem?_push, if_neg (Ne.symm hj), if_neg (Ne.symm hj)]

theorem toBytes_sound {src dst e : TypeId} {vx : Value} {s : ByteArray} {id : Nat} (hs : P.underlying src = some .string) (he : P.underlying e = some (.int .u8)) (hd : P.underlying dst = some (.slice e)) (hsz : sizeOf? P e = some 1)
    (hH : HR P μ F H w) (hid : μ id = none) (hlt : id < H.next) (hI : I id) (hx : VR μ F w (.str s) vx) :
    ∃ u w' μ', (convert src dst vx).run P w = .ok u w' ∧ Done I P μ F H w (.own id 0 s.size s.size 1 false) (H.put id (.cells (s.data.toList.map fun b => .int .u8 b.toNat) e false)) u w' μ' := by
  cases hx
  obtain ⟨cap, hcap, hq⟩ : ∃ cap, s.size ≤ cap ∧ (choose (Question.appendCap s.size 0 e)).run P w = .ok cap { w with drawn := w.drawn + 1 } :=
    ⟨(Question.appendCap s.size 0 e).cut (w.tape w.drawn (Question.appendCap s.size 0 e)), by simp [Question.cut], by rw [run_choose, if_neg (by simp [Question.forced])]⟩
  obtain ⟨arr, harr⟩ : ∃ arr : Array Value, arr = (s.data.map fun b => Value.int .u8 b.toNat) ++ Array.replicate (cap - s.size) (.int .u8 0) := ⟨_, rfl⟩
  have hsd : s.data.size = s.size := rfl
  have hasz : arr.size = cap := by rw [harr]; simp; omega
  have hrun : (convert src dst (.string s)).run P w = .ok (.slice (some ⟨w.heap.size, 0, none⟩) s.size cap) (({ w with drawn := w.drawn + 1 } : World).alloc (.cells arr e (arr.size, arr.size + 1))) := by
    have h1 : (convert src dst (.string s)).run P w = (Conv.stringToBytes e s).run P w := by
      simp [convert, run_underlying hs, run_underlying hd, run_underlying he]
    rw [h1]
    unfold Conv.stringToBytes
    simp only [Sem.run_bind, hq, Result.andThen_ok, ← harr, run_newRow, Sem.run_pure]
    have h2 : (markStringish ⟨w.heap.size, 0, none⟩).run P (({ w with drawn := w.drawn + 1 } : World).alloc (.cells arr e)) = .ok () ((({ w with drawn := w.drawn + 1 } : World).alloc (.cells arr e)).freeze ⟨w.heap.size, arr.size, none⟩ 1) := by
      have hh : (({ w with drawn := w.drawn + 1 } : World).alloc (.cells arr e)).heap[w.heap.size]? = some (.cells arr e) := by simp [World.alloc]
      have hsh : (({ w with drawn := w.drawn + 1 } : World).alloc (.cells arr e)).shape? w.heap.size = some (e, arr.size) := by simp only [World.shape?, hh]
      unfold markStringish
      simp only [Sem.run_bind, run_shape, hsh, Result.andThen_ok, run_freeze]
    have h3 := freeze_alloc ({ w with drawn := w.drawn + 1 } : World) arr e
    have h3 : (({ w with drawn := w.drawn + 1 } : World).alloc (.cells arr e)).freeze ⟨w.heap.size, arr.size, none⟩ 1 = ({ w with drawn := w.drawn + 1 } : World).alloc (.cells arr e (arr.size, arr.size + 1)) := h3
    rw [h3] at h2
    rw [h2]
    rfl
  obtain ⟨q1, q2⟩ := new_block (I := I) hH hid hlt (.cells arr e (arr.size, arr.size + 1)) (.cells (s.data.toList.map fun b => AV.int .u8 b.toNat) e false) arr.size 1 (fun w' hw hn hnF =>
    ⟨arr, (arr.size, arr.size + 1), hn, rfl, hsz, by simp [hasz]; omega, fun i c v hc hv => by
      rw [List.getElem?_map, Option.map_eq_some_iff] at hc
      obtain ⟨b, hb, rfl⟩ := hc
      have hi : i < s.data.size := by
        have := (List.getElem?_eq_some_iff.1 hb).1
        simpa using this
      rw [harr, Array.getElem?_append_left (by simpa using hi), Array.getElem?_map] at hv
      have hb' : s.data[i]? = some b := by simpa using hb
      rw [hb'] at hv
      cases hv
      exact .int _ _, fun h => (by cases h), fun _ => trivial⟩) hI ({ w with drawn := w.drawn + 1 } : World) rfl rfl rfl rfl
  exact ⟨_, _, _, hrun, .own id 0 s.size s.size 1 false _ cap (upd_same id _) rfl (Nat.le_refl _) hcap (fun h => by cases h) (by simp [hasz]), q1, q2⟩

end
end Go.Proofs.YtedembbgeljdkaaGreatDoor.Ev
