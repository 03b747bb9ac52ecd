/-
  THE EVALUATOR's OPERATIONS ON MEMORY are the model's: append, copy, clear, make.
-/
import Derived.Test.YtedembbgeljdkaaGreatDoorEvMem
namespace Go.Proofs.YtedembbgeljdkaaGreatDoor.Ev
open Go
set_option linter.all false

section
variable {I : Nat → Prop} {P : Program} {μ : Mu} {F : Nat → Prop} {H : Heap} {w : World} {T : Tm} {a : Act}

theorem len_sound {y : AV} {vy : Value} {m : Nat} (hy : VR μ F w y vy) (h : lenA y = some m) : (Builtin.lenOf vy).run P w = .ok m w := by
  cases y <;> simp only [lenA] at h <;> first | (cases h; done) | skip
  · cases h; cases hy; rfl
  · cases h; cases hy; rfl
  · cases h; cases hy <;> rfl
  · cases h; cases hy; rfl

theorem loads_at {blk off n : Nat} {arr : Array Value} {ty : TypeId} {fr : Nat × Nat} {cs : List AV} (h : w.heap[blk]? = some (.cells arr ty fr)) (hl : off + cs.length ≤ arr.size)
    (hv : ∀ (i : Nat) (c : AV) (v : Value), cs[i]? = some c → arr[off + i]? = some v → VR μ F w c v) (hn : n ≤ cs.length) :
    ∃ nv : List Value, (∀ w', w'.heap = w.heap → (loadCells ⟨blk, off, none⟩ n).run P w' = .ok nv.toArray w') ∧ LR μ F w (cs.take n) nv := by
  have hlen : ((arr.toList.drop off).take n).length = n := by simp; omega
  have hrun : ∀ w', w'.heap = w.heap → (loadCells ⟨blk, off, none⟩ n).run P w' = .ok ((arr.toList.drop off).take n).toArray w' := by
    intro w' hw'
    have hrun := run_loadCells_list (P := P) w' ⟨blk, off, none⟩ ((arr.toList.drop off).take n) (fun j v hj => by
      rw [add_off, cell_at (hw' ▸ h)]
      rw [List.getElem?_take] at hj
      split at hj
      · rw [List.getElem?_drop] at hj; simpa using hj
      · cases hj)
    rw [hlen] at hrun
    exact hrun
  refine ⟨_, hrun, by simp; omega, fun i c v hc hv' => ?_⟩
  rw [List.getElem?_take] at hc hv'
  split at hc
  · rename_i hi
    rw [if_pos hi, List.getElem?_drop] at hv'
    exact hv i c v hc (by simpa using hv')
  · cases hc

theorem firstC_sound {size n : Nat} {y : AV} {vy : Value} {news : List AV} (hH : HR P μ F H w) (hy : VR μ F w y vy) (h : firstC H size n y = some news) :
    news.length = n * size ∧ ∃ nv : List Value, (∀ w', w'.heap = w.heap → (Builtin.firstCells size n vy).run P w' = .ok nv.toArray w') ∧ LR μ F w news nv := by
  cases y <;> simp only [firstC] at h <;> first | (cases h; done) | skip
  case str s =>
    split at h
    · rename_i hc
      cases h
      cases hy
      have hsz : (s.extract 0 n).size = n := by
        have := hc.1
        simp; omega
      refine ⟨by simp only [List.length_map, hc.2, Nat.mul_one]; exact hsz, ((s.extract 0 n).data.map fun b => Value.int .u8 b.toNat).toList, fun w' _ => by simp only [Builtin.firstCells, Sem.run_pure, Array.toArray_toList], ?_⟩
      rw [Array.toList_map]
      exact LR.map _ _ _ fun b _ => .int _ _
    · cases h
  case nilSl =>
    split at h
    · rename_i hc
      cases h; cases hy
      exact ⟨by simp [hc], [], fun _ _ => rfl, LR.nil⟩
    · cases h
  case sl cs m =>
    split at h
    · rename_i hc
      cases h
      refine ⟨by rw [List.length_take]; omega, ?_⟩
      cases hy with
      | sl0 a0 cap =>
        have h0 : n * size = 0 := by have := hc.2; simp at this; simpa using this
        cases a0 with
        | none => exact ⟨[], fun _ _ => rfl, by simp; exact LR.nil⟩
        | some a0 => exact ⟨[], fun _ _ => by simp [Builtin.firstCells, h0, loadCells, loadCellsFrom], by simp; exact LR.nil⟩
      | sl _ _ _ blk off arr ty fr g1 g2 g3 g4 g5 => exact loads_at g2 g4 g5 hc.2
    · cases h
  case own b off m c sz ex =>
    cases hy with
    | own _ _ _ _ _ _ L cap h1 h2 h3 h4 h5 h6 =>
    split at h
    · rename_i cs ty rw hb
      split at h
      · rename_i hc
        obtain ⟨c1, c2, c3⟩ := hc
        cases h
        obtain ⟨arr, fr, g1, g2, g3, g4, g5, g6, g7⟩ := ent_cells hH hb h1
        refine ⟨by simp; omega, ?_⟩
        exact loads_at (cs := cs.drop off) g1 (by simp; omega) (fun i c v hc hv => by rw [List.getElem?_drop] at hc; exact g5 _ c v hc hv) (by simp; omega)
      · cases h
    · cases h

theorem growBy_le (newLen : Nat) (h : 256 ≤ newLen) : ∀ (r c : Nat), c ≤ 2 * newLen → Builtin.growBy newLen r c ≤ 2 * newLen
  | 0, c, hc => hc
  | r + 1, c, hc => by
    unfold Builtin.growBy
    split
    · exact hc
    · exact growBy_le newLen h r _ (by omega)

theorem nextcap_le {need cap : Nat} (h : cap < need) : Builtin.nextslicecap need cap ≤ 2 * need := by
  unfold Builtin.nextslicecap
  split
  · omega
  · split
    · omega
    · exact growBy_le need (by omega) 4 cap (by omega)

theorem zc_size (z : Array Value) (n : Nat) : (Builtin.zeroCells z n).size = n * z.size := by simp [Builtin.zeroCells]

def Plain (P : Program) (xt : TypeId) : Prop := (∃ e, P.underlying xt = some (.slice e)) ∨ P.underlying xt = some .string

theorem append_in {t xt e ty : TypeId} {size n m cap : Nat} {base : Option Addr} {vx : Value} {nv : Array Value}
    (ht : P.underlying t = some (.slice e)) (hs : sizeOf? P e = some size) (hx : Plain P xt) (hl : (Builtin.lenOf vx).run P w = .ok m w) (hf : (Builtin.firstCells size m vx).run P w = .ok nv w)
    (hneed : n + m ≤ cap) :
    (Builtin.append_ #[t, xt] ty #[.slice base n cap, vx]).run P w = ((match base with | some a => storeCells (a.add (n * size)) nv.toList | none => pure () : Sem Unit).run P w).andThen fun _ w' => .ok (.slice base (n + m) cap) w' := by
  unfold Builtin.append_
  rcases hx with ⟨e', hx⟩ | hx <;>
  · simp only [List.getElem?_toArray, List.getElem?_cons_zero, List.getElem?_cons_succ, Sem.run_bind, run_underlying ht, Result.andThen_ok, run_size hs, run_underlying hx, Sem.run_pure, Bool.false_eq_true, if_false, hl, Bool.not_false, if_true, hneed, hf]
    cases base <;> simp

theorem append_out {t xt e ty : TypeId} {size bytes n m cap : Nat} {base : Option Addr} {vx : Value} {nv ov : Array Value} {i : TypeInfo} {zv : Value}
    (ht : P.underlying t = some (.slice e)) (hs : sizeOf? P e = some size) (hi : P.info? e = some i) (hib : i.bytes = bytes) (hz : i.zero = some zv) (hx : Plain P xt) (hl : (Builtin.lenOf vx).run P w = .ok m w)
    (hf : ∀ w', w'.heap = w.heap → (Builtin.firstCells size m vx).run P w' = .ok nv w') (ho : ∀ w', w'.heap = w.heap → (Builtin.firstCells size n (.slice base n cap)).run P w' = .ok ov w')
    (hneed : ¬ n + m ≤ cap) (hb : (n + m) * bytes ≤ 2 ^ 46) (hn : n + m < 2 ^ 62) :
    ∃ cap', n + m ≤ cap' ∧ (Builtin.append_ #[t, xt] ty #[.slice base n cap, vx]).run P w =
      .ok (.slice (some ⟨w.heap.size, 0, none⟩) (n + m) cap') (({ w with drawn := w.drawn + 1 } : World).alloc (.cells (ov ++ nv ++ Builtin.zeroCells zv.cells (cap' - (n + m))) e)) := by
  have hnext : ¬ Builtin.nextslicecap (n + m) cap * i.bytes > 2 ^ 48 := by
    have h1 := nextcap_le (need := n + m) (cap := cap) (by omega)
    have h2 : Builtin.nextslicecap (n + m) cap * bytes ≤ 2 * (n + m) * bytes := Nat.mul_le_mul_right _ h1
    rw [Nat.mul_assoc] at h2
    rw [hib]; omega
  have hmax : ¬ ((↑(n + m) : Int) > IntKind.i64.max ∧ (False ∨ i.bytes = 0)) := by
    rintro ⟨h1, _⟩
    have : IntKind.i64.max = 9223372036854775807 := by decide
    rw [this] at h1
    omega
  refine ⟨(Question.appendCap (n + m) cap e).cut (w.tape w.drawn (Question.appendCap (n + m) cap e)), by simp [Question.cut], ?_⟩
  have hq : (choose (Question.appendCap (n + m) cap e)).run P w = .ok ((Question.appendCap (n + m) cap e).cut (w.tape w.drawn (Question.appendCap (n + m) cap e))) { w with drawn := w.drawn + 1 } := by
    rw [run_choose, if_neg (by simp [Question.forced])]
  have hf' := hf { w with drawn := w.drawn + 1 } rfl
  have ho' := ho { w with drawn := w.drawn + 1 } rfl
  generalize (Question.appendCap (n + m) cap e).cut (w.tape w.drawn (Question.appendCap (n + m) cap e)) = c at hq
  unfold Builtin.append_
  rcases hx with ⟨e', hx⟩ | hx <;>
  · simp only [List.getElem?_toArray, List.getElem?_cons_zero, List.getElem?_cons_succ, Sem.run_bind, run_underlying ht, Result.andThen_ok, run_size hs, run_underlying hx, Sem.run_pure, Bool.false_eq_true, if_false, hl, Bool.not_false, if_true, hneed,
      run_info hi, hmax, hnext, hq, run_askRoom, ho', hf', zeroValue, hz, run_newRow]

theorem weaken_block (hH : HR P μ F H w) {b : Nat} {cs : List AV} {ty : Nat} {rw : Bool} (hb : H.get b = some (.cells cs ty rw)) (k : Nat) : HR P μ F (H.put b (.cells (cs.take k) ty rw)) w := by
  refine ⟨hH.dom, hH.fb, ?_, ?_, hH.gl⟩
  · intro x e h
    rw [Heap.get_put] at h
    split at h
    · rename_i ex; subst ex; cases h
      obtain ⟨L, hL, hE⟩ := hH.ent _ _ hb
      obtain ⟨arr, fr, h1, h2, h3, h4, h5, h6, h7⟩ := hE
      refine ⟨L, hL, arr, fr, h1, h2, h3, by simp; omega, fun i c v hc hv => ?_, h6, h7⟩
      rw [List.getElem?_take] at hc
      split at hc
      · exact h5 i c v hc hv
      · cases hc
    · exact hH.ent x e h
  · intro x y e1 e2 L1 L2 h1 h2 hL1 hL2 hblk
    rw [Heap.get_put] at h1 h2
    have g : ∀ z e, (if z = b then some (Ent.cells (cs.take k) ty rw) else H.get z) = some e → ∃ e', H.get z = some e' := by
      intro z e h
      split at h
      · rename_i ez; subst ez; exact ⟨_, hb⟩
      · exact ⟨_, h⟩
    obtain ⟨f1, g1⟩ := g x e1 h1
    obtain ⟨f2, g2⟩ := g y e2 h2
    exact hH.inj x y f1 f2 L1 L2 g1 g2 hL1 hL2 hblk

theorem put_put (H : Heap) (b : Nat) (e e' : Ent) (x : Nat) : ((H.put b e).put b e').get x = (H.put b e').get x := by
  simp only [Heap.get_put]; split <;> rfl

theorem HR.congr {H1 H2 : Heap} (h : HR P μ F H1 w) (hn : H1.next = H2.next) (hg : ∀ x, H1.get x = H2.get x) : HR P μ F H2 w :=
  ⟨fun b L hb => hn ▸ h.dom b L hb, h.fb, fun b e hb => h.ent b e (by rw [hg]; exact hb), fun b b' e e' L L' h1 h2 => h.inj b b' e e' L L' (by rw [hg]; exact h1) (by rw [hg]; exact h2), h.gl⟩
theorem Stp.congr {μ' : Mu} {F' : Nat → Prop} {w' : World} {H1 H2 : Heap} (h : Stp I P μ F H w μ' F' H1 w') (hn : H1.next = H2.next) (hg : ∀ x e, H2.get x = some e → ∃ e', H1.get x = some e' ∧ e'.rw = e.rw) : Stp I P μ F H w μ' F' H2 w' :=
  ⟨h.mu, h.fr, h.size, h.keep, fun b L ⟨e, he, hr⟩ hL => h.rw b L (let ⟨e', h1, h2⟩ := hg b e he; ⟨e', h1, h2.trans hr⟩) hL, hn ▸ h.next, h.new, h.rng, fun b e hb hl hi => let ⟨e', h1, _⟩ := hg b e hb; h.old b e' h1 hl hi, fun b e L hb hL => let ⟨e', h1, _⟩ := hg b e hb; h.alv b e' L h1 hL, h.tape, h.os, h.out⟩

theorem appendC_sound {e id size bytes m : Nat} {x v : AV} {vx : Value} {news : List AV} {nv : Array Value} {zv : Value} {fr : Option Nat} {H' : Heap} {A : Sem Value}
    (hH : HR P μ F H w) (hid : μ id = none) (hlt : id < H.next) (hI : I id) (hs : sizeOf? P e = some size) (hzs : zv.cells.size = size)
    (hx : VR μ F w x vx) (hnew : LR μ F w news nv.toList) (hlen : news.length = m * size) (h : appendC H id size bytes e x m news fr = some (v, H'))
    (hin : ∀ base n cap, vx = .slice base n cap → n + m ≤ cap → A.run P w = ((match base with | some a => storeCells (a.add (n * size)) nv.toList | none => pure () : Sem Unit).run P w).andThen fun _ w' => .ok (.slice base (n + m) cap) w')
    (hout : ∀ base n cap ov, vx = .slice base n cap → ¬ n + m ≤ cap → (n + m) * bytes ≤ 2 ^ 46 → n + m < 2 ^ 62 → (∀ w', w'.heap = w.heap → (Builtin.firstCells size n vx).run P w' = .ok ov w') →
      ∃ cap', n + m ≤ cap' ∧ A.run P w = .ok (.slice (some ⟨w.heap.size, 0, none⟩) (n + m) cap') (({ w with drawn := w.drawn + 1 } : World).alloc (.cells (ov ++ nv ++ Builtin.zeroCells zv.cells (cap' - (n + m))) e))) :
    ∃ u w' μ', A.run P w = .ok u w' ∧ Done I P μ F H w v H' u w' μ' := by
  have hnl : nv.size = m * size := by have := hnew.1; simp at this; omega
  -- what a new block comes to
  have grow : ∀ (H0 : Heap) (n : Nat) (ov : Array Value) (oc : List AV) (cap' : Nat), HR P μ F H0 w → id < H0.next → LR μ F w oc ov.toList → oc.length = n * size → n + m ≤ cap' →
      A.run P w = .ok (.slice (some ⟨w.heap.size, 0, none⟩) (n + m) cap') (({ w with drawn := w.drawn + 1 } : World).alloc (.cells (ov ++ nv ++ Builtin.zeroCells zv.cells (cap' - (n + m))) e)) →
      ∃ u w' μ', A.run P w = .ok u w' ∧ Done I P μ F H0 w (.own id 0 (n + m) (n + m) size false) (H0.put id (.cells (oc ++ news) e true)) u w' μ' := by
    intro H0 n ov oc cap' hH0 hlt0 ho hol hc hrun
    have hov : ov.size = n * size := by have := ho.1; simp at this; omega
    have hall := ho.append hnew
    have hasz : (ov ++ nv ++ Builtin.zeroCells zv.cells (cap' - (n + m))).size = cap' * size := by
      simp only [Array.size_append, hov, hnl, zc_size, hzs]
      rw [← Nat.add_mul, ← Nat.add_mul]; congr 1; omega
    obtain ⟨q1, q2⟩ := new_cells hH0 hid hlt0 hI (sz := size) (arr := ov ++ nv ++ Builtin.zeroCells zv.cells (cap' - (n + m))) (cs := oc ++ news) hs
      (by simp only [Array.size_append, List.length_append, hol, hlen, hov, hnl]; omega)
      (fun i c u hc hu => by
        have hi : i < (oc ++ news).length := (List.getElem?_eq_some_iff.1 hc).1
        simp only [List.length_append, hol, hlen] at hi
        rw [Array.getElem?_append_left (by simp only [Array.size_append, hov, hnl]; omega)] at hu
        exact hall.2 i c u hc (by rw [← Array.toList_append, Array.getElem?_toList]; exact hu)) { w with drawn := w.drawn + 1 } rfl rfl rfl rfl
    refine ⟨_, _, _, hrun, ⟨?_, q1, q2⟩⟩
    exact .own id 0 (n + m) (n + m) size false _ cap' (upd_same id _) rfl (Nat.le_refl _) hc (fun h => by cases h) (by rw [Nat.zero_add]; exact Nat.le_of_eq hasz.symm)
  unfold appendC at h
  cases x with
  | nilSl =>
    simp only at h
    cases hx
    split at h
    · rename_i hm
      subst hm
      cases h
      have := hin none 0 0 rfl (Nat.le_refl _)
      exact ⟨_, w, μ, this, ⟨.nilSl, hH, Stp.refl _ _ _ _ _ _⟩⟩
    · rename_i hm
      split at h
      · rename_i hc
        cases h
        obtain ⟨cap', hc', hrun⟩ := hout none 0 0 #[] rfl (by omega) (by simpa using hc.1) (by simpa using hc.2) (fun _ _ => rfl)
        have := grow H 0 #[] [] cap' hH hlt LR.nil (by simp) hc' hrun
        simpa using this
      · cases h
  | own b off n c sz ex =>
    simp only at h
    cases hx with
    | own _ _ _ _ _ _ L cap h1 h2 h3 h4 h5 h6 =>
    split at h
    · rename_i cs ty' rw hb
      split at h
      · rename_i hc
        obtain ⟨c1, c2, c3, c4, c5⟩ := hc
        subst c1; subst c4
        obtain ⟨arr, fr', g1, g2, g3, g4, g5, g6, g7⟩ := ent_cells hH hb h1
        have hcapN : ∀ k, k ≤ cap → off + k * sz ≤ L.N := fun k hk => Nat.le_trans (Nat.add_le_add_left (Nat.mul_le_mul_right _ hk) _) h6
        -- in place
        have inplace : n + m ≤ cap → rw = true → news.all AV.one = true → ∃ w', A.run P w = .ok (.slice (some ⟨L.blk, off, none⟩) (n + m) cap) w' ∧
            HR P μ F (H.put b (.cells (cs.take (off + n * sz) ++ news ++ cs.drop (off + n * sz + m * sz)) ty' rw)) w' ∧ Stp I P μ F H w μ F (H.put b (.cells (cs.take (off + n * sz) ++ news ++ cs.drop (off + n * sz + m * sz)) ty' rw)) w' := by
          intro hle hrw h1'
          subst hrw
          have hN := hcapN (n + m) hle
          rw [Nat.add_mul] at hN
          obtain ⟨w', hrun, q1, q2⟩ := put_cells (I := I) hH hb h1 (o := off + n * sz) hnew h1' c5 (by omega)
          rw [hlen] at q1 q2
          refine ⟨w', ?_, q1, q2⟩
          rw [hin _ n cap rfl hle]
          simp only [add_off, hrun, Result.andThen_ok]
        obtain ⟨ov, ho1, ho2⟩ := loads_at (P := P) (off := off) (cs := cs.drop off) (n := n * sz) g1 (by rw [List.length_drop]; omega) (fun i c v hc hv => by rw [List.getElem?_drop] at hc; exact g5 _ c v hc hv) (by rw [List.length_drop]; omega)
        have hol : ((cs.drop off).take (n * sz)).length = n * sz := by rw [List.length_take, List.length_drop]; omega
        split at h
        · rename_i hnc
          split at h
          · rename_i hm
            cases h
            subst hm
            have := hin _ n cap rfl (by omega)
            have hnv : nv.toList = [] := by have : nv.size = 0 := by omega
                                            simpa using this
            simp only [hnv, storeCells, Sem.run_pure, Result.andThen_ok] at this
            exact ⟨_, w, μ, this, ⟨.own b off n c sz ex L cap h1 h2 h3 h4 h5 h6, hH, Stp.refl _ _ _ _ _ _⟩⟩
          · split at h
            · rename_i hc2
              cases h
              obtain ⟨w', hrun, q1, q2⟩ := inplace (by omega) hc2.1 hc2.2
              exact ⟨_, w', μ, hrun, ⟨.own b off (n + m) c sz ex L cap h1 h2 (by omega) h4 h5 h6, q1, q2⟩⟩
            · cases h
        · rename_i hnc
          split at h
          · rename_i hex
            cases h
            have hcap := h5 hex
            obtain ⟨cap', hc', hrun⟩ := hout _ n cap ov.toArray rfl (by omega) c2 c3 ho1
            exact grow H n ov.toArray _ cap' hH hlt (by simpa using ho2) hol hc' hrun
          · split at h
            · rename_i hc2
              obtain ⟨e1, e2, e3, e4⟩ := hc2
              cases h
              subst e1
              by_cases hle : n + m ≤ cap
              · obtain ⟨w', hrun, q1, q2⟩ := inplace hle e2 e4
                subst e2
                have q3 := weaken_block q1 (by rw [Heap.get_put, if_pos rfl]) (n * sz + m * sz)
                have ht : ((cs.take (0 + n * sz) ++ news ++ cs.drop (0 + n * sz + m * sz)).take (n * sz + m * sz)) = cs.take (n * sz) ++ news := by
                  rw [Nat.zero_add, List.take_append_of_le_length (by simp; omega), List.take_of_length_le (by simp; omega)]
                rw [ht] at q3
                obtain ⟨q4, q5⟩ := rename_block (I := I) q3 (b := b) (id := id) (L := L) (by rw [Heap.get_put, if_pos rfl]) h1 hid hlt hI
                refine ⟨_, w', μ.upd id L, hrun, ⟨?_, ?_, ?_⟩⟩
                · exact .own id 0 (n + m) (n + m) sz false L cap (upd_same id _) h2 (Nat.le_refl _) hle (fun h => by cases h) (by rw [Nat.zero_add] at h6 ⊢; exact h6)
                · refine q4.congr rfl fun x => ?_
                  simp only [Heap.get_put, Heap.get_kill]
                  split
                  · rfl
                  · split
                    · rfl
                    · rfl
                · have q6 : Stp I P μ F H w μ F ((H.put b (.cells (cs.take (0 + n * sz) ++ news ++ cs.drop (0 + n * sz + m * sz)) ty' true)).put b (.cells (cs.take (n * sz) ++ news) ty' true)) w' :=
                    q2.congr rfl (fun x e he => by
                      rw [Heap.get_put] at he
                      split at he
                      · rename_i ex; subst ex; cases he; exact ⟨.cells (cs.take (0 + n * sz) ++ news ++ cs.drop (0 + n * sz + m * sz)) ty' true, by rw [Heap.get_put, if_pos rfl], rfl⟩
                      · exact ⟨e, he, rfl⟩)
                  refine (q6.trans q5).congr rfl fun x e he => ⟨e, ?_, rfl⟩
                  simp only [Heap.get_put, Heap.get_kill] at he ⊢
                  split at he
                  · rename_i hx; rw [if_pos hx]; exact he
                  · rename_i hx
                    rw [if_neg hx]
                    split at he
                    · cases he
                    · rename_i hx2; rw [if_neg hx2, if_neg hx2, if_neg hx2]; exact he
              · obtain ⟨cap', hc', hrun⟩ := hout _ n cap ov.toArray rfl hle c2 c3 ho1
                obtain ⟨q1, q2⟩ := kill_block (I := I) hH b
                rw [List.drop_zero] at ho2 hol
                obtain ⟨u, w', μ', r1, r2⟩ := grow (H.kill b) n ov.toArray (cs.take (n * sz)) cap' q1 hlt (by simpa using ho2) hol hc' hrun
                exact ⟨u, w', μ', r1, ⟨r2.val, r2.heap, q2.trans r2.stp⟩⟩
            · cases h
      · cases h
    · cases h
  | _ => cases h

end
end Go.Proofs.YtedembbgeljdkaaGreatDoor.Ev
