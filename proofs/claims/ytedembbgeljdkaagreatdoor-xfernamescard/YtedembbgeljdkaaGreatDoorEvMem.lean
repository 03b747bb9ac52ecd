/-
  THE EVALUATOR's OPERATIONS ON MEMORY are the model's: loads, stores, new variables, arrays, slices.
-/
import Derived.Test.YtedembbgeljdkaaGreatDoorEvHeap
namespace Go.Proofs.YtedembbgeljdkaaGreatDoor.Ev
open Go
set_option linter.all false

structure Done (I : Nat → Prop) (P : Program) (μ : Mu) (F : Nat → Prop) (H : Heap) (w : World) (v : AV) (H' : Heap) (u : Value) (w' : World) (μ' : Mu) : Prop where
  val : VR μ' F w' v u
  heap : HR P μ' F H' w'
  stp : Stp I P μ F H w μ' F H' w'

section
variable {I : Nat → Prop} {P : Program} {μ : Mu} {F : Nat → Prop} {H : Heap} {w : World} {T : Tm} {a : Act}

theorem cell_at {blk : Nat} {arr : Array Value} {ty : TypeId} {fr : Nat × Nat} (h : w.heap[blk]? = some (.cells arr ty fr)) (o : Nat) : w.cell? ⟨blk, o, none⟩ = arr[o]? := by
  simp [World.cell?, h]

theorem load_at {blk off o : Nat} {arr : Array Value} {ty t : TypeId} {fr : Nat × Nat} {cs : List AV} {k : Option Nat} {v : AV} (h : w.heap[blk]? = some (.cells arr ty fr)) (hl : off + cs.length ≤ arr.size)
    (hv : ∀ (i : Nat) (c : AV) (v : Value), cs[i]? = some c → arr[off + i]? = some v → VR μ F w c v) (hk : loadK P t = some k) (ht : takeAt cs o k = some v) :
    ∃ u, (loadVar t ⟨blk, off + o, none⟩).run P w = .ok u w ∧ VR μ F w v u := by
  cases k with
  | none =>
    simp only [takeAt] at ht
    have ho : o < cs.length := (List.getElem?_eq_some_iff.1 ht).1
    have ha : arr[off + o]? = some arr[off + o] := Array.getElem?_eq_getElem (by omega)
    refine ⟨arr[off + o], ?_, hv o v _ ht ha⟩
    simp [loadVar, loadK_none hk, cell_at h, ha]
  | some n =>
    simp only [takeAt] at ht
    split at ht
    · rename_i hle
      cases ht
      obtain ⟨h1, h2⟩ := loadK_some hk w
      have hrun := run_loadCells_list (P := P) w ⟨blk, off + o, none⟩ ((arr.toList.drop (off + o)).take n) (fun j v hj => by
        rw [add_off, cell_at h]
        rw [List.getElem?_take] at hj
        split at hj
        · rw [List.getElem?_drop] at hj; simpa using hj
        · cases hj)
      have hlen : ((arr.toList.drop (off + o)).take n).length = n := by simp; omega
      rw [hlen] at hrun
      refine ⟨.agg ((arr.toList.drop (off + o)).take n).toArray, by simp only [loadVar, Sem.run_bind, h1, Result.andThen_ok, if_true, h2, hrun, Sem.run_pure], ?_⟩
      refine .agg _ _ (by simp; omega) fun i c v hc hv' => ?_
      rw [List.getElem?_take] at hc
      split at hc
      · rename_i hi
        rw [List.getElem?_drop] at hc
        refine hv _ c v hc ?_
        simp only [List.getElem?_toArray] at hv'
        rw [List.getElem?_take, if_pos hi, List.getElem?_drop] at hv'
        rw [← Nat.add_assoc]; simpa using hv'
      · cases hc
    · cases ht

theorem ptr_inv {b o : Nat} {v : Value} (h : VR μ F w (.ptr b o) v) : ∃ L, μ b = some L ∧ v = .pointer (some ⟨L.blk, o, none⟩) := by
  cases h with
  | ptr _ _ L hL => exact ⟨L, hL, rfl⟩

theorem ent_cells (hH : HR P μ F H w) {b : Nat} {L : Loc} {cs : List AV} {ty : Nat} {rw : Bool} (hb : H.get b = some (.cells cs ty rw)) (hL : μ b = some L) :
    ∃ arr fr, w.heap[L.blk]? = some (.cells arr ty fr) ∧ arr.size = L.N ∧ (P.info? ty).map (·.size) = some L.sz ∧ cs.length ≤ arr.size ∧
      (∀ (i : Nat) (c : AV) (v : Value), cs[i]? = some c → arr[i]? = some v → VR μ F w c v) ∧ (rw = true → ¬ F L.blk ∧ fr = (0, 0)) ∧ (rw = false → True) := by
  obtain ⟨L', hL', hE⟩ := hH.ent b _ hb
  rw [hL] at hL'; cases hL'
  exact hE

theorem load_sound {t : TypeId} {k : Option Nat} {x : AV} {vx : Value} {v : AV} (hH : HR P μ F H w) (hk : loadK P t = some k) (hx : VR μ F w x vx)
    (h : loadA H k x = some v) : ∃ u, (Instr.loadAt t vx).run P w = .ok u w ∧ VR μ F w v u := by
  cases x with
  | ptr b o =>
    obtain ⟨L, hL, rfl⟩ := ptr_inv hx
    simp only [loadA] at h
    split at h
    · rename_i cs ty rw hb
      obtain ⟨arr, fr, h1, h2, h3, h4, h5, h6, h7⟩ := ent_cells hH hb hL
      obtain ⟨u, hu, hr⟩ := load_at (o := o) (off := 0) h1 (by omega) (by simpa using h5) hk h
      refine ⟨u, ?_, hr⟩
      rw [Nat.zero_add] at hu
      simp [Instr.loadAt, Instr.sureAddr, hu]
    · cases h
  | dp cs o =>
    simp only [loadA] at h
    cases hx with
    | dp _ _ blk off arr ty fr g1 g2 g3 g4 =>
      obtain ⟨u, hu, hr⟩ := load_at g2 g3 g4 hk h
      exact ⟨u, by simp [Instr.loadAt, Instr.sureAddr, hu], hr⟩
  | _ => cases h

theorem new_cells (hH : HR P μ F H w) {id : Nat} (hid : μ id = none) (hlt : id < H.next) (hI : I id) {arr : Array Value} {cs : List AV} {ty sz : Nat} (hty : sizeOf? P ty = some sz)
    (hle : cs.length ≤ arr.size) (hcs : ∀ (i : Nat) (c : AV) (v : Value), cs[i]? = some c → arr[i]? = some v → VR μ F w c v)
    (w1 : World) (h1 : w1.heap = w.heap) (ht : w1.tape = w.tape) (hos : w1.os = w.os) (hout : w1.output = w.output) :
    HR P (μ.upd id ⟨w.heap.size, arr.size, sz⟩) F (H.put id (.cells cs ty true)) (w1.alloc (.cells arr ty)) ∧ Stp I P μ F H w (μ.upd id ⟨w.heap.size, arr.size, sz⟩) F (H.put id (.cells cs ty true)) (w1.alloc (.cells arr ty)) := by
  refine new_block hH hid hlt _ _ arr.size sz (fun w' hw hn hnF => ?_) hI w1 h1 ht hos hout
  exact ⟨arr, (0, 0), hn, rfl, hty, hle, fun i c v hc hv => (hcs i c v hc hv).mono (upd_ext hid) (fun _ h => h) hw, fun _ => ⟨hnF, rfl⟩, fun h => by cases h⟩

theorem run_newVar (t : TypeId) (v : Value) (w : World) : (newVar t v).run P w = .ok ⟨w.heap.size, 0, none⟩ (w.alloc (.cells v.cells t)) := by
  simp [newVar, newRow]
theorem run_newRow (t : TypeId) (cs : Array Value) (w : World) : (newRow t cs).run P w = .ok ⟨w.heap.size, 0, none⟩ (w.alloc (.cells cs t)) := by
  simp [newRow]

theorem zero_size {t : TypeId} {z : List AV} (h : zeroCells? P t = some z) : ∃ n, sizeOf? P t = some n := by
  simp only [zeroCells?, Option.bind_eq_bind, Option.bind_eq_some_iff] at h
  obtain ⟨i, hi, _⟩ := h
  exact ⟨i.size, by simp [sizeOf?, hi]⟩

theorem alloc_sound {e : TypeId} {z : List AV} (hz : zeroCells? P e = some z) (hH : HR P μ F H w) {id : Nat} (hid : μ id = none) (hlt : id < H.next) (hI : I id) :
    ∃ u w' μ', (Instr.alloc e true (.tuple #[])).run P w = .ok u w' ∧ Done I P μ F H w (.ptr id 0) (H.put id (.cells z e true)) u w' μ' := by
  obtain ⟨n, hn⟩ := zero_size hz
  obtain ⟨zv, hzv, hzl⟩ := run_zero hz w
  have hl := hzl μ F w
  obtain ⟨h1, h2⟩ := new_cells hH hid hlt hI hn (arr := zv.cells) (cs := z) (by have := hl.1; simp at this; omega) (fun i c v hc hv => hl.2 i c v hc (by simpa using hv)) w rfl rfl rfl rfl
  refine ⟨_, _, _, ?_, ⟨.ptr id 0 _ (upd_same id _), h1, h2⟩⟩
  simp [Instr.alloc, hzv, run_newVar]

theorem box_sound {e : TypeId} {n : Nat} {x : AV} {vx : Value} (hn : sizeOf? P e = some n) (hx : VR μ F w x vx) (h1 : x.cells.all AV.one = true) (hH : HR P μ F H w) {id : Nat} (hid : μ id = none) (hlt : id < H.next) (hI : I id) :
    ∃ u w' μ', (Instr.box e vx).run P w = .ok u w' ∧ Done I P μ F H w (.ptr id 0) (H.put id (.cells x.cells e true)) u w' μ' := by
  have hl := cells_lr hx h1
  obtain ⟨g1, g2⟩ := new_cells hH hid hlt hI hn (arr := vx.cells) (cs := x.cells) (by have := hl.1; simp at this; omega) (fun i c v hc hv => hl.2 i c v hc (by simpa using hv)) w rfl rfl rfl rfl
  refine ⟨_, _, _, ?_, ⟨.ptr id 0 _ (upd_same id _), g1, g2⟩⟩
  simp [Instr.box, run_newVar]

theorem splice_get (cs : List AV) (vs : List Value) (news : List AV) (nv : List Value) (o n : Nat) (hcs : ∀ (i : Nat) (c : AV) (v : Value), cs[i]? = some c → vs[i]? = some v → VR μ F w c v) (hn : LR μ F w news nv) (hlen : news.length = n)
    (hle : cs.length ≤ vs.length) (ho : o ≤ cs.length) :
    ∀ (i : Nat) (c : AV) (v : Value), (cs.take o ++ news ++ cs.drop (o + n))[i]? = some c → (vs.take o ++ nv ++ vs.drop (o + nv.length))[i]? = some v → VR μ F w c v := by
  intro i c v hc hv
  have hnl : nv.length = n := hn.1 ▸ hlen
  rw [List.append_assoc] at hc hv
  by_cases h1 : i < o
  · rw [List.getElem?_append_left (by simp; omega), List.getElem?_take, if_pos h1] at hc
    rw [List.getElem?_append_left (by simp; omega), List.getElem?_take, if_pos h1] at hv
    exact hcs i c v hc hv
  · rw [List.getElem?_append_right (by simp; omega)] at hc hv
    simp only [List.length_take] at hc hv
    have e1 : min o cs.length = o := by omega
    have e2 : min o vs.length = o := by omega
    rw [e1] at hc; rw [e2] at hv
    by_cases h2 : i - o < n
    · rw [List.getElem?_append_left (by omega)] at hc hv
      exact hn.2 _ c v hc hv
    · rw [List.getElem?_append_right (by omega)] at hc hv
      rw [List.getElem?_drop] at hc hv
      rw [hlen] at hc; rw [hnl] at hv
      exact hcs _ c v hc hv

theorem put_cells (hH : HR P μ F H w) {b : Nat} {L : Loc} {cs : List AV} {ty : Nat} (hb : H.get b = some (.cells cs ty true)) (hL : μ b = some L) {o : Nat} {news : List AV} {nv : List Value} (hn : LR μ F w news nv) (h1 : news.all AV.one = true)
    (hle : o ≤ cs.length) (hN : o + news.length ≤ L.N) :
    ∃ w', (storeCells ⟨L.blk, o, none⟩ nv).run P w = .ok () w' ∧ HR P μ F (H.put b (.cells (cs.take o ++ news ++ cs.drop (o + news.length)) ty true)) w' ∧
      Stp I P μ F H w μ F (H.put b (.cells (cs.take o ++ news ++ cs.drop (o + news.length)) ty true)) w' := by
  obtain ⟨arr, fr, g1, g2, g3, g4, g5, g6, g7⟩ := ent_cells hH hb hL
  obtain ⟨_, rfl⟩ := g6 rfl
  have hnl := hn.1
  have hrun := run_storeCells_at (P := P) L.blk o ty nv 0 arr w g1 (by omega) (hn.one h1)
  simp only [Nat.add_zero] at hrun
  refine ⟨_, hrun, put_block hH hb rfl hL _ (fun c hc => setRow_other w _ _ _ hc) (setRow_size _ _ _) rfl rfl rfl (fun hw => ?_) rfl⟩
  refine ⟨_, (0, 0), setRow_heap w L.blk arr _ ty _ g1, ?_, g3, ?_, ?_, fun _ => ⟨(g6 rfl).1, rfl⟩, fun h => by cases h⟩
  · simp; omega
  · simp; omega
  · intro i c v hc hv
    refine VR.mono (fun _ _ h => h) (fun _ h => h) hw (splice_get cs arr.toList news nv o news.length (fun i c v hc hv => g5 i c v hc (by simpa using hv)) hn rfl (by simpa using g4) (by omega) i c v hc (by simpa using hv))

theorem store_sound {t : TypeId} {n : Nat} {x y : AV} {vx vy : Value} {H' : Heap} (hn : sizeOf? P t = some n) (hH : HR P μ F H w) (hx : VR μ F w x vx) (hy : VR μ F w y vy)
    (h : storeA H n x y = some H') :
    ∃ w', (Instr.storeAt t vx vy).run P w = .ok () w' ∧ Done I P μ F H w .undef H' undef w' μ := by
  cases x with
  | ptr b o =>
    obtain ⟨L, hL, rfl⟩ := ptr_inv hx
    simp only [storeA] at h
    split at h
    · rename_i cs ty hb
      split at h
      · rename_i hc
        obtain ⟨c1, c2, c3⟩ := hc
        cases h
        have hl := cells_lr hy c3
        obtain ⟨arr, fr, g1, g2, g3, g4, _⟩ := ent_cells hH hb hL
        obtain ⟨w', hrun, q1, q2⟩ := put_cells (I := I) hH hb hL (o := o) hl c3 (by omega) (by omega)
        rw [c1] at q1 q2
        refine ⟨w', ?_, ⟨.undef _, q1, q2⟩⟩
        have hsz : vy.cells.size = n := by have := hl.1; simp at this; omega
        simp [Instr.storeAt, Instr.sureAddr, storeVar, run_size hn, hsz, hrun]
      · cases h
    · cases h
  | _ => cases h

end
end Go.Proofs.YtedembbgeljdkaaGreatDoor.Ev
