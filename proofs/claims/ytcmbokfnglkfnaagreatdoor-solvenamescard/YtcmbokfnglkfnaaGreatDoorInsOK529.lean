/- The evaluator, a part. -/
import Derived.Test.YtcmbokfnglkfnaaGreatDoorIns529
namespace Go.Proofs.YtcmbokfnglkfnaaGreatDoor.Ev.Ok529
open Go Go.Proofs.YtcmbokfnglkfnaaGreatDoor.Ev
set_option linter.all false
/-! ### Cells, one after another -/
def putA (A : Array Value) : Nat → List Value → Array Value
 | _, [] => A
 | o, v :: r => putA (A.setIfInBounds o v) (o + 1) r
theorem aba : ∀ (vs : List Value) (o : Nat) (A : Array Value), (putA A o vs).size = A.size
 | [], o, A => rfl
 | v :: r, o, A => by rw [putA, aba r]; simp
theorem ac9 : ∀ (vs : List Value) (o : Nat) (A : Array Value) (j : Nat), j < A.size → (putA A o vs)[j]? = if o ≤ j ∧ j < o + vs.length then vs[j - o]? else A[j]?
 | [], o, A, j, hj => by rw [putA, if_neg (by simp only [List.length_nil]; omega)]
 | v :: r, o, A, j, hj => by
  rw [putA, ac9 r (o + 1) _ j (by simpa using hj)]
  by_cases h1 : o + 1 ≤ j ∧ j < o + 1 + r.length
  ·rw [if_pos h1, if_pos (by simp; omega), show j - o = (j - (o + 1)) + 1 by omega, List.getElem?_cons_succ]
  ·rw [if_neg h1]
   by_cases h2 : j = o
   ·subst h2
    rw [if_pos (by simp), Nat.sub_self, List.getElem?_cons_zero, Array.getElem?_setIfInBounds_self_of_lt hj]
   ·rw [if_neg (by simp; omega), Array.getElem?_setIfInBounds_ne (by omega)]
theorem ack (b : Nat) : ∀ (vs : List Value) (o : Nat) (w : World) (arr : Array Value) (ty : TypeId) (fr : Nat × Nat), w.heap[b]? = some (.cells arr ty fr) →
  (w.setCells b o vs).heap[b]? = some (.cells (putA arr o vs) ty fr) ∧ (∀ c, c ≠ b → (w.setCells b o vs).heap[c]? = w.heap[c]?) ∧ (w.setCells b o vs).heap.size = w.heap.size ∧
   (w.setCells b o vs).tape = w.tape ∧ (w.setCells b o vs).os = w.os ∧ (w.setCells b o vs).output = w.output
 | [], o, w, arr, ty, fr, h => ⟨h, fun _ _ => rfl, rfl, rfl, rfl, rfl⟩
 | v :: r, o, w, arr, ty, fr, h => by
  have h1 : (w.setCell ⟨b, o, none⟩ v).heap[b]? = some (.cells (arr.setIfInBounds o v) ty fr) := by
   simp [World.setCell, Array.getElem?_modify, h]
  obtain ⟨k1, k2, k3, k4, k5, k6⟩ := ack b r (o + 1) (w.setCell ⟨b, o, none⟩ v) _ ty fr h1
  refine ⟨k1, fun c hc => (k2 c hc).trans ?_, k3.trans ?_, k4, k5, k6⟩
  ·simp [World.setCell, Array.getElem?_modify, Ne.symm hc]
  ·simp [World.setCell]
theorem abz (w : World) (ty : TypeId) : ∀ (vs : List Value) (o : Nat) (A : Array Value), (w.alloc (.cells A ty)).setCells w.heap.size o vs = w.alloc (.cells (putA A o vs) ty)
 | [], o, A => rfl
 | v :: r, o, A => by
  have h1 : (w.alloc (.cells A ty)).setCell ⟨w.heap.size, o, none⟩ v = w.alloc (.cells (A.setIfInBounds o v) ty) := by
   simp only [World.setCell, World.alloc]
   congr 1
   apply Array.ext_getElem?
   intro j
   rw [Array.getElem?_modify]
   by_cases hj : w.heap.size = j
   ·subst hj; simp
   ·rw [if_neg hj, Array.getElem?_push, Array.getElem?_push, if_neg (Ne.symm hj), if_neg (Ne.symm hj)]
  rw [World.setCells, h1, abz w ty r (o + 1) _]; rfl
/-! ### The evaluator's word -/
section
variable {P : Program} {μ : Mu} {F : Nat → Prop} {H : Heap} {w : World}
theorem ah9 {μ' : Mu} {H' : Heap} {w' : World} (h : Stp (fun x => x = H.next) P μ F { H with next := H.next + 1 } w μ' F H' w') : Stp NoI P μ F H w μ' F H' w' :=
 ⟨h.mu, h.fr, h.size, h.keep, h.rw, Nat.le_trans (Nat.le_add_right _ _) h.next, fun b hb _ hn => h.new b (Nat.lt_of_lt_of_le hb (Nat.le_add_right _ _)) (by omega) hn, h.rng,
  fun b e hb hl _ => h.old b e hb (Nat.lt_of_lt_of_le hl (Nat.le_add_right _ _)) (by omega), h.alv, h.tape, h.os, h.out⟩
/-- A new block. -/
theorem apb {ty : Nat} {cs : List AV} {V : List Value} {A : Array Value} {w1 : World} {k cap' : Nat} {H1 : Heap} (hH : HR P μ F H1 w) (hnx : H1.next = H.next + 1) (hid : μ H.next = none) (hs : aac P ty = some 1)
  (hl : LR μ F w cs V) (hk : V.length = k) (hA : ∀ j, j < k → A[j]? = V[j]?) (hcap : k ≤ cap') (hsz : A.size = cap')
  (h1 : w1.heap = w.heap) (ht : w1.tape = w.tape) (hos : w1.os = w.os) (hout : w1.output = w.output) :
  ∃ μ', VR μ' F (w1.alloc (.cells A ty)) (.own H.next 0 k k 1 false) (.slice (some ⟨w.heap.size, 0, none⟩) k cap') ∧ HR P μ' F (H1.put H.next (.cells cs ty true)) (w1.alloc (.cells A ty)) ∧
   Stp (fun x => x = H.next) P μ F H1 w μ' F (H1.put H.next (.cells cs ty true)) (w1.alloc (.cells A ty)) := by
 have hcl : cs.length = k := hl.1.trans hk
 obtain ⟨q1, q2⟩ := ab9 (I := fun x => x = H.next) hH hid (by omega) rfl (sz := 1) (arr := A) (cs := cs) hs (by omega)
  (fun i c v hc hv => by
   have hi : i < k := by rw [← hcl]; exact (List.getElem?_eq_some_iff.1 hc).1
   rw [hA i hi] at hv
   exact hl.2 i c v hc hv) w1 h1 ht hos hout
 exact ⟨_, .own H.next 0 k k 1 false _ cap' (upd_same _ _) rfl (Nat.le_refl _) hcap (fun h => by cases h) (by simp [hsz]), q1, q2⟩
/-- The block itself, turned. -/
theorem ins_old {b ty : Nat} {L : Loc} {cs0 cs : List AV} {V : List Value} {A : Array Value} {w' : World} {k cap : Nat} (hH : HR P μ F H w) (hb : H.get b = some (.cells cs0 ty true)) (hL : μ b = some L) (hLs : L.sz = 1)
  (hl : LR μ F w cs V) (hk : V.length = k) (hA : ∀ j, j < k → A[j]? = V[j]?) (hcap : k ≤ cap) (hsz : A.size = L.N) (hN : cap ≤ L.N)
  (hw : w'.heap[L.blk]? = some (.cells A ty (0, 0))) (hoth : ∀ c, c ≠ L.blk → w'.heap[c]? = w.heap[c]?) (hsize : w'.heap.size = w.heap.size) (ht : w'.tape = w.tape) (hos : w'.os = w.os) (hout : w'.output = w.output) :
  ∃ μ', VR μ' F w' (.own H.next 0 k k 1 false) (.slice (some ⟨L.blk, 0, none⟩) k cap) ∧ HR P μ' F (({ H with next := H.next + 1 }.kill b).put H.next (.cells cs ty true)) w' ∧
   Stp NoI P μ F H w μ' F (({ H with next := H.next + 1 }.kill b).put H.next (.cells cs ty true)) w' := by
 have hcl : cs.length = k := hl.1.trans hk
 have hid : μ H.next = none := aal hH (Nat.le_refl _)
 have hH1 := hH.bump 1
 have hb1 : ({ H with next := H.next + 1 } : Heap).get b = some (.cells cs0 ty true) := hb
 obtain ⟨arr, fr, g1, g2, g3, g4, g5, g6, g7⟩ := aaz hH hb hL
 obtain ⟨p1, p2⟩ := abq (I := fun x => x = H.next) (e := .cells cs ty true) hH1 hb1 rfl hL w' hoth hsize ht hos hout
  (fun hF => ⟨A, (0, 0), hw, hsz, g3, by omega, fun i c v hc hv => by
   have hi : i < k := by rw [← hcl]; exact (List.getElem?_eq_some_iff.1 hc).1
   rw [hA i hi] at hv
   exact (hl.2 i c v hc hv).mono (fun _ _ h => h) (fun _ h => h) hF, fun _ => ⟨(g6 rfl).1, rfl⟩, fun h => by cases h⟩) rfl
 obtain ⟨q4, q5⟩ := ae4 (I := fun x => x = H.next) p1 (b := b) (id := H.next) (L := L) (by rw [Heap.get_put, if_pos rfl]) hL hid (by show H.next < H.next + 1; omega) rfl
 refine ⟨μ.upd H.next L, .own H.next 0 k k 1 false L cap (upd_same _ _) hLs (Nat.le_refl _) hcap (fun h => by cases h) (by simp; omega), ?_, ?_⟩
 ·refine q4.congr rfl fun x => ?_
  simp only [Heap.get_put, Heap.get_kill]
  split
  ·rfl
  ·split
   ·rfl
   ·rename_i hx; rfl
 ·refine ah9 ((p2.trans q5).congr rfl fun x e he => ⟨e, ?_, rfl⟩)
  simp only [Heap.get_put, Heap.get_kill] at he ⊢
  split at he
  ·rename_i hx; rw [if_pos hx]; exact he
  ·rename_i hx
   rw [if_neg hx]
   split at he
   ·cases he
   ·rename_i hx2; rw [if_neg hx2, if_neg hx2]; exact he
end
/-! ### The four ways -/
theorem afm {vs : List Value} {w : World} {F : Fence} {rd : Bool} {n : Nat} {R : Value → World → Prop} (hF : FenceOK F rd) (h : Calls Tryz.prog 529 vs.toArray w fun e w' => ∃ u, e = .returned u ∧ R u w') : Runs F n Tryz.prog ((callFunc 529 vs.toArray).run Tryz.prog w) R := by
 rw [aa5 (P := Tryz.prog) (f := 529) Tryz.func529 (by kernel_rfl) (of_decide_eq_true (by kernel_rfl))]
 unfold Runs
 simp only
 have key : CallsIn Fence.wide n Tryz.prog 529 vs.toArray w fun e w' => ∃ u, e = .returned u ∧ R u w' := callsIn_wide.2 h
 rcases hF with ⟨_, rfl⟩ | ⟨_, l, rfl⟩
 ·exact key
 ·exact key
theorem afi {w : World} {b : Nat} {arr : Array Value} {ty : TypeId} (h : w.heap[b]? = some (.cells arr ty (0, 0))) (o : Nat) : w.frozen? ⟨b, o, none⟩ = false := by
 simp [World.frozen?, h]
theorem ins_inv {H H' : Heap} {size bytes ty : Nat} {args : List AV} {v : AV} (h : extA H (.insert size bytes ty) args = some (v, H')) :
  (∃ b2 off2 m c2 sz2 ex2 news, args = [.nilSl, .int .i64 (.ofNat 0), .own b2 off2 m c2 sz2 ex2] ∧ abr H size m (.own b2 off2 m c2 sz2 ex2) = some news ∧ 0 < m ∧ m * bytes ≤ 2 ^ 46 ∧ m < 2 ^ 62 ∧ news.all AV.one = true ∧
   v = .own H.next 0 m m size false ∧ H' = ({ H with next := H.next + 1 } : Heap).put H.next (.cells news ty true)) ∨
  (∃ b n c ex i b2 off2 m c2 sz2 ex2 news cs cs2 ty2, args = [.own b 0 n c size ex, .int .i64 (.ofNat i), .own b2 off2 m c2 sz2 ex2] ∧ abr H size m (.own b2 off2 m c2 sz2 ex2) = some news ∧ H.get b = some (.cells cs ty true) ∧ H.get b2 = some (.cells cs2 ty2 true) ∧
   b ≠ b2 ∧ 0 < m ∧ i ≤ n ∧ cs.length = n * size ∧ (n + m) * bytes ≤ 2 ^ 46 ∧ n + m < 2 ^ 62 ∧ news.all AV.one = true ∧ cs.all AV.one = true ∧
   v = .own H.next 0 (n + m) (n + m) size false ∧ H' = (({ H with next := H.next + 1 } : Heap).kill b).put H.next (.cells (cs.take (i * size) ++ news ++ cs.drop (i * size)) ty true)) := by
 unfold extA at h
 split at h
 ·contradiction
 ·contradiction
 ·contradiction
 ·rename_i heq
  cases heq
  split at h
  ·rename_i news hnews
   split at h
   ·rename_i hc
    obtain ⟨c1, c2', c3, c4, c5⟩ := hc
    cases h
    subst c1
    exact .inl ⟨_, _, _, _, _, _, news, rfl, hnews, c2', c3, c4, c5, rfl, rfl⟩
   ·cases h
  ·cases h
 ·rename_i heq
  cases heq
  split at h
  ·rename_i news cs ty' cs2 ty2 hnews hb hb2
   split at h
   ·rename_i hc
    obtain ⟨c1, c2', c3, c4, c5, c6, c7, c8, c9, c10, c11⟩ := hc
    cases h
    subst c1
    subst c2'
    subst c9
    exact .inr ⟨_, _, _, _, _, _, _, _, _, _, _, news, cs, cs2, ty2, rfl, hnews, hb, hb2, c3, c4, c5, c6, c7, c8, c10, c11, rfl, rfl⟩
   ·cases h
  ·cases h
 ·cases h
/-- What is put in, as values. -/
theorem alw {P : Program} {μ : Mu} {F : Nat → Prop} {H : Heap} {w : World} {b2 off2 m c2 sz2 : Nat} {ex2 : Bool} {news : List AV} {z : Value} (hH : HR P μ F H w) (hz : VR μ F w (.own b2 off2 m c2 sz2 ex2) z) (hnews : abr H 1 m (.own b2 off2 m c2 sz2 ex2) = some news) :
  ∃ L2 cap2 arr2 ty2 fr2 cs2 rw2, μ b2 = some L2 ∧ z = .slice (some ⟨L2.blk, off2, none⟩) m cap2 ∧ H.get b2 = some (.cells cs2 ty2 rw2) ∧ w.heap[L2.blk]? = some (.cells arr2 ty2 fr2) ∧ off2 + m ≤ arr2.size ∧ (rw2 = true → fr2 = (0, 0)) ∧
   ((arr2.toList.drop off2).take m).length = m ∧ LR μ F w news ((arr2.toList.drop off2).take m) ∧ ∀ j u, ((arr2.toList.drop off2).take m)[j]? = some u → w.cell? ⟨L2.blk, off2 + j, none⟩ = some u := by
 cases hz with
 | own _ _ _ _ _ _ L2 cap2 k1 k2 k3 k4 k5 k6 =>
 simp only [abr] at hnews
 split at hnews
 ·rename_i cs2 ty2 rw2 hb2
  split at hnews
  ·rename_i hcc
   obtain ⟨e1, e2, e3⟩ := hcc
   cases hnews
   obtain ⟨arr2, fr2, g1, g2, g3, g4, g5, g6, g7⟩ := aaz hH hb2 k1
   have hvl : ((arr2.toList.drop off2).take m).length = m := by simp; omega
   refine ⟨L2, cap2, arr2, ty2, fr2, cs2, rw2, k1, rfl, hb2, g1, by omega, fun h => (g6 h).2, hvl, ⟨by simp; omega, fun i c u hi hu => ?_⟩, fun j u hj => ?_⟩
   ·rw [List.getElem?_take] at hi hu
    rw [Nat.mul_one] at hi
    split at hi
    ·rename_i him
     rw [if_pos him] at hu
     rw [List.getElem?_drop] at hi hu
     exact g5 _ c u hi (by simpa using hu)
    ·cases hi
   ·rw [adj g1]
    rw [List.getElem?_take] at hj
    split at hj
    ·rw [List.getElem?_drop] at hj; simpa using hj
    ·cases hj
  ·cases hnews
 ·cases hnews
theorem own_inv {μ : Mu} {F : Nat → Prop} {w : World} {b n c sz : Nat} {ex : Bool} {x : Value} (h : VR μ F w (.own b 0 n c sz ex) x) : ∃ L cap, μ b = some L ∧ L.sz = sz ∧ n ≤ c ∧ c ≤ cap ∧ cap * sz ≤ L.N ∧ x = .slice (some ⟨L.blk, 0, none⟩) n cap := by
 cases h with
 | own _ _ _ _ _ _ L cap k1 k2 k3 k4 k5 k6 => exact ⟨L, cap, k1, k2, k3, k4, by omega, rfl⟩
theorem ahc {μ : Mu} {F : Nat → Prop} {w : World} {vs : List Value} {a b c : AV} (h : LR μ F w [a, b, c] vs) : ∃ x y z, vs = [x, y, z] ∧ VR μ F w a x ∧ VR μ F w b y ∧ VR μ F w c z := by
 have hl := h.1
 match vs, hl with
 | [x, y, z], _ => exact ⟨x, y, z, rfl, h.head, h.tail.head, h.tail.tail.head⟩
set_option maxRecDepth 100000 in
theorem extOK_insert : ExtOK Tryz.prog 529 (.insert 1 24 144) := by
 intro H args v H' h μ F w vs fence rd nn hF hH hl
 have hsE : aac Tryz.prog 144 = some 1 := by
  obtain ⟨i0, hi, h0, h1, h2⟩ := info_parts Ins529.iE
  simp [aac, hi, h1]
 have hid : μ H.next = none := aal hH (Nat.le_refl _)
 have hzs : ∀ k, (Builtin.zeroCells (Value.slice none 0 0).cells k).size = k := fun k => by rw [ais]; simp [Value.cells]
 rcases ins_inv h with ⟨b2, off2, m, c2, sz2, ex2, news, rfl, hnews, h1, h2, h3, h4, rfl, rfl⟩ | ⟨b, n, c, ex, i, b2, off2, m, c2, sz2, ex2, news, cs, cs2, ty2, rfl, hnews, hb, hb2, h1, h2, h3, h4, h5, h6, h7, h8, rfl, rfl⟩
 ·obtain ⟨x, y, z, rfl, hx, hy, hz⟩ := ahc hl
  cases hx
  cases hy
  obtain ⟨L2, cap2, arr2, ty2, fr2, cs2, rw2, k1, rfl, k3, g1, g2, -, hvl, hvr, hcell⟩ := alw hH hz hnews
  refine afm hF ((Ins529.end_grow none 0 0 L2.blk off2 m cap2 [] ((arr2.toList.drop off2).take m) w h1 (Nat.le_refl _) (by omega) (by omega) rfl hvl (fun _ => rfl) (fun a h => by cases h) hcell (hvr.one h4)).mono fun e w' ⟨he, hw⟩ => ?_)
  subst hw
  rw [Nat.zero_add] at he
  have hge := Go.grownCap_ge w m 0 144
  simp only [Nat.zero_add, List.nil_append]
  obtain ⟨μ', q1, q2, q3⟩ := apb (P := Tryz.prog) (H := H) (A := ((arr2.toList.drop off2).take m).toArray ++ Builtin.zeroCells (Value.slice none 0 0).cells (grownCap w m 0 144 - m)) (w1 := w.drew) (k := m) (cap' := grownCap w m 0 144) (hH.bump 1) rfl hid hsE hvr hvl
   (fun j hj => by rw [Array.getElem?_append_left (by simp [hvl]; omega)]; simp) hge (by simp only [Array.size_append, List.size_toArray, hvl, hzs]; omega) rfl rfl rfl rfl
  exact ⟨_, he, μ', q1, q2, ah9 q3⟩
 ·obtain ⟨x, y, z, rfl, hx, hy, hz⟩ := ahc hl
  obtain ⟨L, cap, r1, r2, r3, r4, r5, rfl⟩ := own_inv hx
  cases hy
  obtain ⟨L2, cap2, arr2, ty2', fr2, cs2', rw2, k1, rfl, k3, g1, g2, gfr, hvl, hvr, hcell⟩ := alw hH hz hnews
  rw [hb2] at k3
  cases k3
  have hfr2 := gfr rfl
  subst hfr2
  obtain ⟨arr, fr, p1, p2, p3, p4, p5, p6, p7⟩ := aaz hH hb r1
  obtain ⟨-, rfl⟩ := p6 rfl
  rw [Nat.mul_one] at h4 r5
  have hne : L2.blk ≠ L.blk := fun e => h1 (hH.inj b b2 _ _ L L2 hb hb2 r1 k1 e.symm)
  have hvsl : (arr.toList.take n).length = n := by simp; omega
  have hcs : LR μ F w cs (arr.toList.take n) := by
   refine ⟨by simp; omega, fun i c u hi hu => ?_⟩
   rw [List.getElem?_take] at hu
   split at hu
   ·exact p5 i c u hi (by simpa using hu)
   ·cases hu
  have hcell0 : ∀ j u, (arr.toList.take n)[j]? = some u → w.cell? ⟨L.blk, 0 + j, none⟩ = some u := fun j u hj => by
   rw [adj p1, Nat.zero_add]
   rw [List.getElem?_take] at hj
   split at hj
   ·simpa using hj
   ·cases hj
  have hV : LR μ F w (cs.take (i * 1) ++ news ++ cs.drop (i * 1)) ((arr.toList.take n).take i ++ (arr2.toList.drop off2).take m ++ (arr.toList.take n).drop i) := by
   rw [Nat.mul_one]
   exact ((hcs.take i).append hvr).append (hcs.drop i)
  have hVl : ((arr.toList.take n).take i ++ (arr2.toList.drop off2).take m ++ (arr.toList.take n).drop i).length = n + m := by
   simp only [List.length_append, List.length_take, List.length_drop, hvl, hvsl]
   have := hvsl
   rw [List.length_take] at this
   omega
  generalize hC : arr.toList.take n = C at *
  generalize hD : (arr2.toList.drop off2).take m = D at *
  have hCl := hvsl
  have hDl := hvl
  have harr : ∀ j, j < n → arr[j]? = C[j]? := fun j hj => by rw [← hC, List.getElem?_take, if_pos hj]; simp
  have hVat : ∀ j, j < n + m → (C.take i ++ D ++ C.drop i)[j]? = if j < i then C[j]? else if j < i + m then D[j - i]? else C[j - m]? := by
   intro j hj
   have e1 : (C.take i).length = i := by rw [List.length_take]; omega
   by_cases q1 : j < i
   ·rw [if_pos q1, List.getElem?_append_left (by rw [List.length_append, e1]; omega), List.getElem?_append_left (by omega), List.getElem?_take, if_pos q1]
   ·rw [if_neg q1]
    by_cases q2 : j < i + m
    ·rw [if_pos q2, List.getElem?_append_left (by rw [List.length_append, e1]; omega), List.getElem?_append_right (by omega), e1]
    ·rw [if_neg q2, List.getElem?_append_right (by rw [List.length_append, e1]; omega), List.length_append, e1, List.getElem?_drop]
     congr 1; omega
  have hsp : ∀ j, j < cap → (w.cell? ⟨L.blk, 0 + j, none⟩).isSome = true := fun j hj => by
   rw [adj p1, Nat.zero_add, Array.getElem?_eq_getElem (by omega)]; rfl
  by_cases hroom : n + m ≤ cap
  ·-- there is room
   have fin : ∀ (A : Array Value) (w' : World), A.size = L.N → (∀ j, j < n + m → A[j]? = (C.take i ++ D ++ C.drop i)[j]?) → w'.heap[L.blk]? = some (.cells A 144 (0, 0)) → (∀ c, c ≠ L.blk → w'.heap[c]? = w.heap[c]?) → w'.heap.size = w.heap.size → w'.tape = w.tape → w'.os = w.os → w'.output = w.output →
     ∃ μ', Done NoI Tryz.prog μ F H w (.own H.next 0 (n + m) (n + m) 1 false) (({ H with next := H.next + 1 } : Heap).kill b |>.put H.next (.cells (cs.take (i * 1) ++ news ++ cs.drop (i * 1)) 144 true)) (.slice (some ⟨L.blk, 0, none⟩) (n + m) cap) w' μ' := by
    intro A w' a1 a2 a3 a4 a5 a6 a7 a8
    obtain ⟨μ', q1, q2, q3⟩ := ins_old (P := Tryz.prog) (A := A) (w' := w') (k := n + m) (cap := cap) hH hb r1 r2 hV hVl a2 hroom a1 r5 a3 a4 a5 a6 a7 a8
    exact ⟨μ', q1, q2, q3⟩
   by_cases hin : i = n
   ·subst hin
    refine afm hF ((Ins529.end_room L.blk 0 i cap L2.blk off2 m cap2 D w h2 hroom (by omega) hDl (fun j hj => by rw [Nat.add_assoc]; exact hsp _ (by omega)) (fun j _ => afi p1 _) hcell (hvr.one h7)).mono fun e w' ⟨he, hw⟩ => ?_)
    subst hw
    obtain ⟨s1, s2, s3, s4, s5, s6⟩ := ack L.blk D (0 + i) w arr 144 (0, 0) p1
    obtain ⟨μ', hd⟩ := fin _ _ ((aba _ _ _).trans p2) (fun j hj => by
     rw [ac9 _ _ _ _ (by omega), hVat j hj, hDl, Nat.zero_add]
     by_cases q1 : j < i
     ·rw [if_neg (by omega), if_pos q1, harr j q1]
     ·rw [if_pos (by omega), if_neg q1, if_pos (by omega)]) s1 s2 s3 s4 s5 s6
    exact ⟨_, he, μ', hd⟩
   ·refine afm hF ((Ins529.shift L.blk 0 n cap i L2.blk off2 m cap2 C D w (by omega) h2 hroom (by omega) hne hCl hDl hcell0 (fun j hj => hsp j (by omega)) (fun j _ => afi p1 _) hcell (hcs.one h8) (hvr.one h7)
     ty2 144 arr2.size arr.size (by simp [World.shape?, g1]) (by simp [World.shape?, p1]) (by omega) (afi g1 _) (afi g1 _)).mono fun e w' ⟨he, hw⟩ => ?_)
    subst hw
    obtain ⟨s1, s2, s3, s4, s5, s6⟩ := ack L.blk (C.drop i) (0 + (i + m)) w.drew arr 144 (0, 0) p1
    obtain ⟨t1, t2, t3, t4, t5, t6⟩ := ack L.blk D (0 + i) _ _ 144 (0, 0) s1
    obtain ⟨μ', hd⟩ := fin _ _ (by rw [aba, aba]; exact p2) (fun j hj => by
     rw [ac9 _ _ _ _ (by rw [aba]; omega), ac9 _ _ _ _ (by omega), hVat j hj, hDl, Nat.zero_add, Nat.zero_add, List.length_drop, hCl]
     by_cases q1 : j < i
     ·rw [if_neg (by omega), if_neg (by omega), if_pos q1, harr j (by omega)]
     ·by_cases q2 : j < i + m
      ·rw [if_pos (by omega), if_neg q1, if_pos q2]
      ·rw [if_neg (by omega), if_pos (by omega), if_neg q1, if_neg q2, List.getElem?_drop]
       congr 1; omega) t1 (fun c hc => (t2 c hc).trans (s2 c hc)) (t3.trans s3) (t4.trans s4) (t5.trans s5) (t6.trans s6)
    exact ⟨_, he, μ', hd⟩
  ·-- there is none
   have hge := Go.grownCap_ge w (n + m) cap 144
   obtain ⟨z1, z2⟩ := aej (I := fun x => x = H.next) (hH.bump 1) b
   have fin : ∀ (A : Array Value) (w1 : World), A.size = grownCap w (n + m) cap 144 → (∀ j, j < n + m → A[j]? = (C.take i ++ D ++ C.drop i)[j]?) → w1.heap = w.heap → w1.tape = w.tape → w1.os = w.os → w1.output = w.output →
     ∃ μ', Done NoI Tryz.prog μ F H w (.own H.next 0 (n + m) (n + m) 1 false) (({ H with next := H.next + 1 } : Heap).kill b |>.put H.next (.cells (cs.take (i * 1) ++ news ++ cs.drop (i * 1)) 144 true)) (.slice (some ⟨w.heap.size, 0, none⟩) (n + m) (grownCap w (n + m) cap 144)) (w1.alloc (.cells A 144)) μ' := by
    intro A w1 a1 a2 a3 a4 a5 a6
    obtain ⟨μ', q1, q2, q3⟩ := apb (P := Tryz.prog) (H := H) (A := A) (w1 := w1) (k := n + m) (cap' := grownCap w (n + m) cap 144) z1 rfl hid hsE hV hVl a2 hge a1 a3 a4 a5 a6
    exact ⟨μ', q1, q2, ah9 (z2.trans q3)⟩
   by_cases hin : i = n
   ·subst hin
    refine afm hF ((Ins529.end_grow (some ⟨L.blk, 0, none⟩) i cap L2.blk off2 m cap2 C D w h2 (by omega) (by omega) (by omega) hCl hDl (fun h => by cases h) (fun a ha j u hj => by cases ha; rw [abk]; exact hcell0 j u hj) hcell (hvr.one h7)).mono fun e w' ⟨he, hw⟩ => ?_)
    subst hw
    obtain ⟨μ', hd⟩ := fin ((C ++ D).toArray ++ Builtin.zeroCells (Value.slice none 0 0).cells (grownCap w (i + m) cap 144 - (i + m))) w.drew (by simp only [Array.size_append, List.size_toArray, List.length_append, hCl, hDl, hzs]; omega) (fun j hj => by
     rw [Array.getElem?_append_left (by simp [hCl, hDl]; omega), hVat j hj]
     have e0 : (C ++ D).toArray[j]? = (C ++ D)[j]? := by simp
     rw [e0]
     by_cases q1 : j < i
     ·rw [if_pos q1, List.getElem?_append_left (by omega)]
     ·rw [if_neg q1, if_pos (by omega), List.getElem?_append_right (by omega), hCl]) rfl rfl rfl rfl
    exact ⟨_, he, μ', hd⟩
   ·refine afm hF ((Ins529.grow L.blk 0 n cap i L2.blk off2 m cap2 C D w (by omega) h2 (by omega) (by omega) (by omega) hCl hDl hcell0 hcell (hcs.one h8) (hvr.one h7)).mono fun e w' ⟨he, hw⟩ => ?_)
    have e1 : ∀ A : Array Value, (((w.alloc (.cells A 144)).drew.setCells w.heap.size i D).drew).setCells w.heap.size (i + m) (C.drop i) = w.drew.drew.alloc (.cells (putA (putA A i D) (i + m) (C.drop i)) 144) := fun A => by
     have a1 : (w.alloc (.cells A 144)).drew = w.drew.alloc (.cells A 144) := rfl
     have a2 : (w.drew.alloc (.cells A 144)).setCells w.heap.size i D = w.drew.alloc (.cells (putA A i D) 144) := abz w.drew 144 D i A
     have a3 : (w.drew.alloc (.cells (putA A i D) 144)).drew = w.drew.drew.alloc (.cells (putA A i D) 144) := rfl
     rw [a1, a2, a3]
     exact abz w.drew.drew 144 (C.drop i) (i + m) (putA A i D)
    rw [e1] at hw
    subst hw
    obtain ⟨μ', hd⟩ := fin (putA (putA ((C.take i).toArray ++ Builtin.zeroCells (Value.slice none 0 0).cells (n + m - i) ++ Builtin.zeroCells (Value.slice none 0 0).cells (grownCap w (n + m) cap 144 - (n + m))) i D) (i + m) (C.drop i)) w.drew.drew (by
      rw [aba, aba]
      simp only [Array.size_append, List.size_toArray, List.length_take, hCl, hzs]; omega) (fun j hj => by
     have hA0 : ((C.take i).toArray ++ Builtin.zeroCells (Value.slice none 0 0).cells (n + m - i) ++ Builtin.zeroCells (Value.slice none 0 0).cells (grownCap w (n + m) cap 144 - (n + m))).size = grownCap w (n + m) cap 144 := by
      simp only [Array.size_append, List.size_toArray, List.length_take, hCl, hzs]; omega
     rw [ac9 _ _ _ _ (by rw [aba, hA0]; omega), ac9 _ _ _ _ (by rw [hA0]; omega), hVat j hj, hDl, List.length_drop, hCl]
     by_cases q1 : j < i
     ·rw [if_neg (by omega), if_neg (by omega), if_pos q1, Array.getElem?_append_left (by simp only [Array.size_append, List.size_toArray, List.length_take, hCl, hzs]; omega), Array.getElem?_append_left (by simp only [List.size_toArray, List.length_take, hCl]; omega)]
      simp [q1]
     ·by_cases q2 : j < i + m
      ·rw [if_neg (by omega), if_pos (by omega), if_neg q1, if_pos q2]
      ·rw [if_pos (by omega), if_neg q1, if_neg q2, List.getElem?_drop]
       congr 1; omega) rfl rfl rfl rfl
    exact ⟨_, he, μ', hd⟩
end Go.Proofs.YtcmbokfnglkfnaaGreatDoor.Ev.Ok529
