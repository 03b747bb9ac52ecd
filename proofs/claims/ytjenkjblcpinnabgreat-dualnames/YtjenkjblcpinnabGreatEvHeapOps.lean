/-
  THE EVALUATOR's OPERATIONS are the model's: those on memory, all together.
-/
import Derived.Test.YtjenkjblcpinnabGreatEvMap
namespace Go.Proofs.YtjenkjblcpinnabGreat.Ev
open Go

section
variable {I : Nat → Prop} {P : Program} {μ : Mu} {F : Nat → Prop} {H : Heap} {w : World} {T : Tm} {a : Act}

theorem run_u {s : Sem Unit} {w' : World} (h : s.run P w = .ok () w') : ((do s; pure Next.skip) : Sem Next).run P w = .ok .skip w' := by
  simp [h]

theorem zero_one {t : TypeId} {z : List AV} (h : zeroCells? P t = some z) : z.all AV.one = true := by
  simp only [zeroCells?, Option.bind_eq_bind, Option.bind_eq_some_iff] at h
  obtain ⟨i, hi, zv, hz, h⟩ := h
  exact mapM_one h

theorem clear_sound {t e ty : TypeId} {size : Nat} {z : List AV} {x : AV} {vx : Value} {H' : Heap} (ht : P.underlying t = some (.slice e)) (hs : sizeOf? P e = some size) (hz : zeroCells? P e = some z) (hH : HR P μ F H w) (hx : VR μ F w x vx)
    (h : clearA H size z x = some H') :
    ∃ u w', (Builtin.clear_ #[t] ty #[vx]).run P w = .ok u w' ∧ Done I P μ F H w (.tup []) H' u w' μ := by
  have hnil : VR μ F w (.tup []) (.tuple #[]) := .tup _ _ rfl fun i c v h => by simp at h
  have hnil' : ∀ w, VR μ F w (.tup []) (.tuple #[]) := fun w => .tup _ _ rfl fun i c v h => by simp at h
  cases x with
  | nilSl =>
    cases h; cases hx
    exact ⟨_, w, by simp [Builtin.clear_, run_underlying ht], ⟨hnil, hH, Stp.refl _ _ _ _ _ _⟩⟩
  | own b off n c sz ex =>
    cases hx with
    | own _ _ _ _ _ _ L cap h1 h2 h3 h4 h5 h6 =>
    simp only [clearA] at h
    split at h
    · rename_i cs ty' hb
      split at h
      · rename_i hn
        cases h
        subst hn
        exact ⟨_, w, by simp [Builtin.clear_, run_underlying ht], ⟨hnil, hH, Stp.refl _ _ _ _ _ _⟩⟩
      · rename_i hn
        split at h
        · rename_i hc
          obtain ⟨c1, c2, c3, c4⟩ := hc
          cases h
          subst c1
          obtain ⟨zv, hzv, hzr⟩ := run_zero hz w
          have hzs : zv.cells.size = sz := by have := (hzr μ F w).1; simp at this; omega
          have hrep := (hzr μ F w).rep n
          have hlen : ((List.replicate n z).flatten).length = n * sz := by simp [c3]
          have hall : ((List.replicate n z).flatten).all AV.one = true := by
            rw [List.all_eq_true] at c4 ⊢
            intro y hy
            simp only [List.mem_flatten, List.mem_replicate] at hy
            obtain ⟨l, ⟨_, rfl⟩, hy⟩ := hy
            exact c4 y hy
          obtain ⟨arr, fr, g1, g2, g3, g4, g5, g6, g7⟩ := ent_cells hH hb h1
          obtain ⟨w', hrun, q1, q2⟩ := put_cells (I := I) hH hb h1 (o := off) hrep hall (by omega) (by omega)
          rw [hlen] at q1 q2
          refine ⟨_, w', ?_, ⟨hnil' _, q1, q2⟩⟩
          have hzc : (Builtin.zeroCells zv.cells n).toList = (List.replicate n zv.cells.toList).flatten := by
            unfold Builtin.zeroCells
            exact range_map_toList _ _ rfl
          unfold Builtin.clear_
          simp only [List.getElem?_toArray, List.getElem?_cons_zero, Sem.run_bind, run_underlying ht, Result.andThen_ok]
          obtain ⟨k, rfl⟩ : ∃ k, n = k + 1 := ⟨n - 1, by omega⟩
          simp only [Sem.run_bind, hzv, Result.andThen_ok, hzc, hrun, Sem.run_pure]
        · cases h
    · cases h
  | _ => cases h

/-- Ends of a run of an operation: a value, or nothing. -/
def Ends (P : Program) (a : Act) (w : World) (o : Oper) (u : Value) (w' : World) : Prop :=
  (execOp a.eval o).run P w = .ok (.value u) w' ∨ ((execOp a.eval o).run P w = .ok .skip w' ∧ u = undef)

theorem two_args {cargs : Array Operand} {x y : Src} (hT : LR μ F w T a.tmps.toList) (h : cargs.toList.mapM cSrc = some [x, y]) : ∃ vx vy, cargs.map a.eval = #[vx, vy] ∧ VR μ F w (x.ev T) vx ∧ VR μ F w (y.ev T) vy := by
  have hl := srcs_lr hT h
  have h1 := hl.1
  simp only [List.map_cons, List.map_nil, List.length_cons, List.length_nil, List.length_map, Array.length_toList] at h1
  obtain ⟨l⟩ := cargs
  match l, h1 with
  | [p, q], _ => exact ⟨a.eval p, a.eval q, by simp, hl.2 0 _ _ rfl rfl, hl.2 1 _ _ rfl rfl⟩

theorem one_arg {cargs : Array Operand} {x : Src} (hT : LR μ F w T a.tmps.toList) (h : cargs.toList.mapM cSrc = some [x]) : ∃ vx, cargs.map a.eval = #[vx] ∧ VR μ F w (x.ev T) vx := by
  have hl := srcs_lr hT h
  have h1 := hl.1
  simp only [List.map_cons, List.map_nil, List.length_cons, List.length_nil, List.length_map, Array.length_toList] at h1
  obtain ⟨l⟩ := cargs
  match l, h1 with
  | [p], _ => exact ⟨a.eval p, by simp, hl.2 0 _ _ rfl rfl⟩

theorem run_builtin {dst : Option Tmp} {ty : TypeId} {pos : String} {after : Array Edge} {guard : Option (Nat × Bool)} {b : Builtin} {cargs : Array Operand} {argTypes : Array TypeId} {s : Sem Value} {u : Value} {w' : World}
    (h1 : s.run P w = .ok u w') (h2 : ∀ consts, builtin b argTypes ty consts (cargs.map a.eval) = (do pure (.value (← s)))) :
    (execOp a.eval ⟨dst, .call ⟨.builtin b, cargs, argTypes⟩, ty, pos, after, guard⟩).run P w = .ok (.value u) w' := by
  simp only [execOp, resolve, Sem.run_bind, Sem.run_pure, Result.andThen_ok, invoke]
  exact (congrArg (fun s => s.run P w) (h2 _)).trans (run_v h1)

theorem slice_inv {x v : AV} {vx : Value} {id size bytes ty m : Nat} {news : List AV} {fr : Option Nat} {H' : Heap} (h : appendC H id size bytes ty x m news fr = some (v, H')) (hx : VR μ F w x vx) : ∃ base n cap, vx = .slice base n cap := by
  cases x with
  | nilSl => cases hx; exact ⟨_, _, _, rfl⟩
  | own b off n c sz ex => cases hx; exact ⟨_, _, _, rfl⟩
  | _ => cases h

theorem zero_info {t : TypeId} {z : List AV} (h : zeroCells? P t = some z) : ∃ i zv, P.info? t = some i ∧ i.zero = some zv ∧ cellsAV zv = some z := by
  simp only [zeroCells?, Option.bind_eq_bind, Option.bind_eq_some_iff] at h
  obtain ⟨i, hi, zv, hz, h⟩ := h
  exact ⟨i, zv, hi, hz, h⟩

theorem append_sound {t xt e ty n bytes id m : Nat} {z news : List AV} {x v y : AV} {vx vy : Value} {fr : Option Nat} {H' : Heap} (ht : P.underlying t = some (.slice e)) (hn : sizeOf? P e = some n) (hb : bytesOf? P e = some bytes) (hz : zeroCells? P e = some z) (hzl : z.length = n)
    (hpl : Plain P xt) (hH : HR P μ F H w) (hid : μ id = none) (hlt : id < H.next) (hI : I id) (hx : VR μ F w x vx) (hy : VR μ F w y vy) (hm : lenA y = some m) (hnews : firstC H n m y = some news)
    (h : appendC H id n bytes e x m news fr = some (v, H')) :
    ∃ u w' μ', (Builtin.append_ #[t, xt] ty #[vx, vy]).run P w = .ok u w' ∧ Done I P μ F H w v H' u w' μ' := by
  obtain ⟨i, zv, hi, hzv, hzc⟩ := zero_info hz
  have hzs : zv.cells.size = n := by
    have := (mapM_lr (μ := μ) (F := F) (w := w) hzc).1
    simp at this; omega
  have hib : i.bytes = bytes := by
    simp only [bytesOf?, hi, Option.map_some, Option.some.injEq] at hb; exact hb
  obtain ⟨base, k, cap, rfl⟩ := slice_inv h hx
  obtain ⟨hlen, nv, hnv, hnl⟩ := firstC_sound hH hy hnews
  refine appendC_sound (nv := nv.toArray) (zv := zv) hH hid hlt hI hn hzs hx (by simpa using hnl) hlen h ?_ ?_
  · intro base' n' cap' e1 hle
    cases e1
    exact append_in ht hn hpl (len_sound hy hm) (hnv w rfl) hle
  · intro base' n' cap' ov e1 hnle hB hN hov
    cases e1
    exact append_out ht hn hi hib hzv hpl (len_sound hy hm) hnv hov hnle hB hN

end
end Go.Proofs.YtjenkjblcpinnabGreat.Ev
