/- The evaluator, a part. -/
import Derived.Test.YtopigipibioclaaGreatDoorIns568
namespace Go.Proofs.YtopigipibioclaaGreatDoor.Ev.Ok568
open Go Go.Proofs.YtopigipibioclaaGreatDoor.Ev
set_option linter.all false
/-! ### Cells, one after another -/
def jc (A : Array Value) : Nat → List Value → Array Value
 | _, [] => A
 | o, v :: r => jc (A.setIfInBounds o v) (o + 1) r
theorem yo : ∀ (vs : List Value) (o : Nat) (A : Array Value), (jc A o vs).size = A.size
 | [], o, A => rfl
 | v :: r, o, A => by rw [jc, yo r]; simp
theorem CK : ∀ (vs : List Value) (o : Nat) (A : Array Value) (j : Nat), j < A.size → (jc A o vs)[j]? = if o ≤ j ∧ j < o + vs.length then vs[j - o]? else A[j]?
 | [], o, A, j, hj => by rw [jc, if_neg (by simp only [List.length_nil]; omega)]
 | v :: r, o, A, j, hj => by
  rw [jc, CK r (o + 1) _ j (by simpa using hj)]
  by_cases h1 : o + 1 ≤ j ∧ j < o + 1 + r.length
  ·rw [if_pos h1, if_pos (by simp; omega), show j - o = (j - (o + 1)) + 1 by omega, List.getElem?_cons_succ]
  ·rw [if_neg h1]
   by_cases h2 : j = o
   ·subst h2
    rw [if_pos (by simp), Nat.sub_self, List.getElem?_cons_zero, Array.getElem?_setIfInBounds_self_of_lt hj]
   ·rw [if_neg (by simp; omega), Array.getElem?_setIfInBounds_ne (by omega)]
theorem Y2 (b : Nat) : ∀ (vs : List Value) (o : Nat) (w : World) (arr : Array Value) (ty : TypeId) (fr : Nat × Nat), w.heap[b]? = some (.cells arr ty fr) →
  (w.setCells b o vs).heap[b]? = some (.cells (jc arr o vs) ty fr) ∧ (∀ c, c ≠ b → (w.setCells b o vs).heap[c]? = w.heap[c]?) ∧ (w.setCells b o vs).heap.size = w.heap.size ∧
   (w.setCells b o vs).tape = w.tape ∧ (w.setCells b o vs).os = w.os ∧ (w.setCells b o vs).output = w.output
 | [], o, w, arr, ty, fr, h => ⟨h, fun _ _ => rfl, rfl, rfl, rfl, rfl⟩
 | v :: r, o, w, arr, ty, fr, h => by
  have h1 : (w.setCell ⟨b, o, none⟩ v).heap[b]? = some (.cells (arr.setIfInBounds o v) ty fr) := by
   simp [World.setCell, Array.getElem?_modify, h]
  obtain ⟨k1, k2, k3, k4, k5, k6⟩ := Y2 b r (o + 1) (w.setCell ⟨b, o, none⟩ v) _ ty fr h1
  refine ⟨k1, fun c hc => (k2 c hc).trans ?_, k3.trans ?_, k4, k5, k6⟩
  ·simp [World.setCell, Array.getElem?_modify, Ne.symm hc]
  ·simp [World.setCell]
theorem ab2 (w : World) (ty : TypeId) : ∀ (vs : List Value) (o : Nat) (A : Array Value), (w.alloc (.cells A ty)).setCells w.heap.size o vs = w.alloc (.cells (jc A o vs) ty)
 | [], o, A => rfl
 | v :: r, o, A => by
  have h1 : (w.alloc (.cells A ty)).setCell ⟨w.heap.size, o, none⟩ v = w.alloc (.cells (A.setIfInBounds o v) ty) := by
   simp only [World.setCell, World.alloc]
   congr 1
   apply Array.ext_getElem?
   intro j
   rw [Array.getElem?_modify]
   by_cases hj : w.heap.size = j
   ·subst hj; simp
   ·rw [if_neg hj, Array.getElem?_push, Array.getElem?_push, if_neg (Ne.symm hj), if_neg (Ne.symm hj)]
  rw [World.setCells, h1, ab2 w ty r (o + 1) _]; rfl
/-! ### The evaluator's word -/
section
variable {P : Program} {μ : Mu} {F : Nat → Prop} {H : Heap} {w : World}
theorem ahy {μ' : Mu} {H' : Heap} {w' : World} (h : Stp (fun x => x = H.next) P μ F { H with next := H.next + 1 } w μ' F H' w') : Stp fB P μ F H w μ' F H' w' :=
 ⟨h.mu, h.fr, h.size, h.keep, h.rw, Nat.le_trans (Nat.le_add_right _ _) h.next, fun b hb _ hn => h.new b (Nat.lt_of_lt_of_le hb (Nat.le_add_right _ _)) (by omega) hn, h.rng,
  fun b e hb hl _ => h.old b e hb (Nat.lt_of_lt_of_le hl (Nat.le_add_right _ _)) (by omega), h.alv, h.tape, h.os, h.out⟩
/-- A new block. -/
theorem aoi {ty : Nat} {cs : List AV} {V : List Value} {A : Array Value} {w1 : World} {k cap' : Nat} {H1 : Heap} (hH : HR P μ F H1 w) (l : H1.next = H.next + 1) (b : μ H.next = none) (hs : gz P ty = some 1)
  (hl : LR μ F w cs V) (hk : V.length = k) (hA : ∀ j, j < k → A[j]? = V[j]?) (a : k ≤ cap') (hsz : A.size = cap')
  (h1 : w1.heap = w.heap) (ht : w1.tape = w.tape) (d : w1.os = w.os) (e : w1.output = w.output) :
  ∃ μ', VR μ' F (w1.alloc (.cells A ty)) (.own H.next 0 k k 1 false) (.slice (some ⟨w.heap.size, 0, none⟩) k cap') ∧ HR P μ' F (H1.put H.next (.cells cs ty true)) (w1.alloc (.cells A ty)) ∧
   Stp (fun x => x = H.next) P μ F H1 w μ' F (H1.put H.next (.cells cs ty true)) (w1.alloc (.cells A ty)) := by
 have hcl : cs.length = k := hl.1.trans hk
 obtain ⟨f, g⟩ := CN (I := fun x => x = H.next) hH b (by omega) rfl (sz := 1) (arr := A) (cs := cs) hs (by omega)
  (fun i c v hc hv => by
   have hi : i < k := by rw [← hcl]; exact (List.getElem?_eq_some_iff.1 hc).1
   rw [hA i hi] at hv
   exact hl.2 i c v hc hv) w1 h1 ht d e
 exact ⟨_, .own H.next 0 k k 1 false _ cap' (upd_same _ _) rfl (Nat.le_refl _) a (fun h => by cases h) (by simp [hsz]), f, g⟩
/-- The block itself, turned. -/
theorem vJ {b ty : Nat} {L : Loc} {a cs : List AV} {V : List Value} {A : Array Value} {w' : World} {k cap : Nat} (hH : HR P μ F H w) (hb : H.get b = some (.cells a ty true)) (hL : μ b = some L) (m : L.sz = 1)
  (hl : LR μ F w cs V) (hk : V.length = k) (hA : ∀ j, j < k → A[j]? = V[j]?) (o : k ≤ cap) (hsz : A.size = L.N) (M : cap ≤ L.N)
  (u : w'.heap[L.blk]? = some (.cells A ty (0, 0))) (r : ∀ c, c ≠ L.blk → w'.heap[c]? = w.heap[c]?) (t : w'.heap.size = w.heap.size) (ht : w'.tape = w.tape) (q : w'.os = w.os) (s : w'.output = w.output) :
  ∃ μ', VR μ' F w' (.own H.next 0 k k 1 false) (.slice (some ⟨L.blk, 0, none⟩) k cap) ∧ HR P μ' F (({ H with next := H.next + 1 }.kill b).put H.next (.cells cs ty true)) w' ∧
   Stp fB P μ F H w μ' F (({ H with next := H.next + 1 }.kill b).put H.next (.cells cs ty true)) w' := by
 have hcl : cs.length = k := hl.1.trans hk
 have p : μ H.next = none := pB hH (Nat.le_refl _)
 have l := hH.bump 1
 have n : ({ H with next := H.next + 1 } : Heap).get b = some (.cells a ty true) := hb
 obtain ⟨arr, fr, D, E, f, G, J, g, K⟩ := uE hH hb hL
 obtain ⟨y, z⟩ := Ci (I := fun x => x = H.next) (e := .cells cs ty true) l n rfl hL w' r t ht q s
  (fun hF => ⟨A, (0, 0), u, hsz, f, by omega, fun i c v hc hv => by
   have hi : i < k := by rw [← hcl]; exact (List.getElem?_eq_some_iff.1 hc).1
   rw [hA i hi] at hv
   exact (hl.2 i c v hc hv).mono (fun _ _ h => h) (fun _ h => h) hF, fun _ => ⟨(g rfl).1, rfl⟩, fun h => by cases h⟩) rfl
 obtain ⟨B, C⟩ := ae4 (I := fun x => x = H.next) y (b := b) (id := H.next) (L := L) (by rw [Heap.get_put, if_pos rfl]) hL p (by show H.next < H.next + 1; omega) rfl
 refine ⟨μ.upd H.next L, .own H.next 0 k k 1 false L cap (upd_same _ _) m (Nat.le_refl _) o (fun h => by cases h) (by simp; omega), ?_, ?_⟩
 ·refine B.congr rfl fun x => ?_
  simp only [Heap.get_put, Heap.get_kill]
  split
  ·rfl
  ·split
   ·rfl
   ·rename_i hx; rfl
 ·refine ahy ((z.trans C).congr rfl fun x e he => ⟨e, ?_, rfl⟩)
  simp only [Heap.get_put, Heap.get_kill] at he ⊢
  split at he
  ·rename_i hx; rw [if_pos hx]; exact he
  ·rename_i hx
   rw [if_neg hx]
   split at he
   ·cases he
   ·rename_i d; rw [if_neg d, if_neg d]; exact he
end
/-! ### The four ways -/
theorem XD {vs : List Value} {w : World} {F : Fence} {rd : Bool} {n : Nat} {R : Value → World → Prop} (hF : FenceOK F rd) (h : Calls Tryz.prog 568 vs.toArray w fun e w' => ∃ u, e = .returned u ∧ R u w') : Runs F n Tryz.prog ((callFunc 568 vs.toArray).run Tryz.prog w) R := by
 rw [xL (P := Tryz.prog) (f := 568) Tryz.func568 (by kernel_rfl) (of_decide_eq_true (by kernel_rfl))]
 unfold Runs
 simp only
 have key : CallsIn Fence.wide n Tryz.prog 568 vs.toArray w fun e w' => ∃ u, e = .returned u ∧ R u w' := callsIn_wide.2 h
 rcases hF with ⟨_, rfl⟩ | ⟨_, l, rfl⟩
 ·exact key
 ·exact key
theorem YF {w : World} {b : Nat} {arr : Array Value} {ty : TypeId} (h : w.heap[b]? = some (.cells arr ty (0, 0))) (o : Nat) : w.frozen? ⟨b, o, none⟩ = false := by
 simp [World.frozen?, h]
theorem vK {H H' : Heap} {size bytes ty : Nat} {args : List AV} {v : AV} (h : lP H (.insert size bytes ty) args = some (v, H')) :
  (∃ b2 e m c2 f d a, args = [.nilSl, .int .i64 (.ofNat 0), .own b2 e m c2 f d] ∧ py H size m (.own b2 e m c2 f d) = some a ∧ 0 < m ∧ m * bytes ≤ 2 ^ 46 ∧ m < 2 ^ 62 ∧ a.all AV.one = true ∧
   v = .own H.next 0 m m size false ∧ H' = ({ H with next := H.next + 1 } : Heap).put H.next (.cells a ty true)) ∨
  (∃ b n c ex i b2 e m c2 f d a cs j o, args = [.own b 0 n c size ex, .int .i64 (.ofNat i), .own b2 e m c2 f d] ∧ py H size m (.own b2 e m c2 f d) = some a ∧ H.get b = some (.cells cs ty true) ∧ H.get b2 = some (.cells j o true) ∧
   b ≠ b2 ∧ 0 < m ∧ i ≤ n ∧ cs.length = n * size ∧ (n + m) * bytes ≤ 2 ^ 46 ∧ n + m < 2 ^ 62 ∧ a.all AV.one = true ∧ cs.all AV.one = true ∧
   v = .own H.next 0 (n + m) (n + m) size false ∧ H' = (({ H with next := H.next + 1 } : Heap).kill b).put H.next (.cells (cs.take (i * size) ++ a ++ cs.drop (i * size)) ty true)) := by
 unfold lP at h
 split at h
 all_goals first | contradiction | skip
 ·rename_i k
  cases k
  split at h
  ·rename_i a l
   split at h
   ·rename_i hc
    obtain ⟨c1, g, c3, c4, c5⟩ := hc
    cases h
    subst c1
    exact .inl ⟨_, _, _, _, _, _, a, rfl, l, g, c3, c4, c5, rfl, rfl⟩
   ·cases h
  ·cases h
 ·rename_i k
  cases k
  split at h
  ·rename_i a cs u j o l hb t
   split at h
   ·rename_i hc
    obtain ⟨c1, g, c3, c4, c5, c6, c7, r, s, p, q⟩ := hc
    cases h
    subst c1
    subst g
    subst s
    exact .inr ⟨_, _, _, _, _, _, _, _, _, _, _, a, cs, j, o, rfl, l, hb, t, c3, c4, c5, c6, c7, r, p, q, rfl, rfl⟩
   ·cases h
  ·cases h
 all_goals (cases h)
/-- What is put in, as values. -/
theorem alm {P : Program} {μ : Mu} {F : Nat → Prop} {H : Heap} {w : World} {b2 a m c2 t : Nat} {p : Bool} {s : List AV} {z : Value} (hH : HR P μ F H w) (hz : VR μ F w (.own b2 a m c2 t p) z) (e : py H 1 m (.own b2 a m c2 t p) = some s) :
  ∃ d n b l f o k, μ b2 = some d ∧ z = .slice (some ⟨d.blk, a, none⟩) m n ∧ H.get b2 = some (.cells o l k) ∧ w.heap[d.blk]? = some (.cells b l f) ∧ a + m ≤ b.size ∧ (k = true → f = (0, 0)) ∧
   ((b.toList.drop a).take m).length = m ∧ LR μ F w s ((b.toList.drop a).take m) ∧ ∀ j u, ((b.toList.drop a).take m)[j]? = some u → w.cell? ⟨d.blk, a + j, none⟩ = some u := by
 cases hz with
 | own _ _ _ _ _ _ d n k1 k2 k3 k4 k5 k6 =>
 simp only [py] at e
 split at e
 ·rename_i o l k r
  split at e
  ·rename_i y
   obtain ⟨e1, e2, C⟩ := y
   cases e
   obtain ⟨b, f, q, D, E, G, v, x, I⟩ := uE hH r k1
   have B : ((b.toList.drop a).take m).length = m := by simp; omega
   refine ⟨d, n, b, l, f, o, k, k1, rfl, r, q, by omega, fun h => (x h).2, B, ⟨by simp; omega, fun i c u hi g => ?_⟩, fun j u hj => ?_⟩
   ·rw [List.getElem?_take] at hi g
    rw [Nat.mul_one] at hi
    split at hi
    ·rename_i A
     rw [if_pos A] at g
     rw [List.getElem?_drop] at hi g
     exact v _ c u hi (by simpa using g)
    ·cases hi
   ·rw [Cd q]
    rw [List.getElem?_take] at hj
    split at hj
    ·rw [List.getElem?_drop] at hj; simpa using hj
    ·cases hj
  ·cases e
 ·cases e
theorem vu {μ : Mu} {F : Nat → Prop} {w : World} {b n c sz : Nat} {ex : Bool} {x : Value} (h : VR μ F w (.own b 0 n c sz ex) x) : ∃ L cap, μ b = some L ∧ L.sz = sz ∧ n ≤ c ∧ c ≤ cap ∧ cap * sz ≤ L.N ∧ x = .slice (some ⟨L.blk, 0, none⟩) n cap := by
 cases h with
 | own _ _ _ _ _ _ L cap k1 k2 k3 k4 k5 k6 => exact ⟨L, cap, k1, k2, k3, k4, by omega, rfl⟩
theorem ahe {μ : Mu} {F : Nat → Prop} {w : World} {vs : List Value} {a b c : AV} (h : LR μ F w [a, b, c] vs) : ∃ x y z, vs = [x, y, z] ∧ VR μ F w a x ∧ VR μ F w b y ∧ VR μ F w c z := by
 have hl := h.1
 match vs, hl with
 | [x, y, z], _ => exact ⟨x, y, z, rfl, h.head, h.tail.head, h.tail.tail.head⟩
set_option maxRecDepth 100000 in
theorem extOK_insert : iB Tryz.prog 568 (.insert 1 24 289) := by
 intro H args v H' h μ F w vs fence rd nn hF hH hl
 have af : gz Tryz.prog 289 = some 1 := by
  obtain ⟨i0, hi, h0, h1, h2⟩ := info_parts Ins568.iE
  simp [gz, hi, h1]
 have ae : μ H.next = none := pB hH (Nat.le_refl _)
 have K : ∀ k, (Builtin.zeroCells (Value.slice none 0 0).cells k).size = k := fun k => by rw [Yp]; simp [Value.cells]
 rcases vK h with ⟨b2, l, m, c2, aq, aj, S, rfl, V, h1, h2, h3, h4, rfl, rfl⟩ | ⟨b, n, c, ex, i, b2, l, m, c2, aq, aj, S, cs, ai, ah, rfl, V, hb, ad, h1, h2, h3, h4, h5, h6, O, h8, rfl, rfl⟩
 ·obtain ⟨x, y, z, rfl, hx, hy, hz⟩ := ahe hl
  cases hx
  cases hy
  obtain ⟨q, E, s, ah, ak, ai, ap, k1, rfl, k3, N, g2, -, t, r, G⟩ := alm hH hz V
  refine XD hF ((Ins568.end_grow none 0 0 q.blk l m E [] ((s.toList.drop l).take m) w h1 (Nat.le_refl _) (by omega) (by omega) rfl t (fun _ => rfl) (fun a h => by cases h) G (r.one h4)).mono fun e w' ⟨he, o⟩ => ?_)
  subst o
  rw [Nat.zero_add] at he
  have hge := Go.grownCap_ge w m 0 289
  simp only [Nat.zero_add, List.nil_append]
  obtain ⟨μ', d, f, M⟩ := aoi (P := Tryz.prog) (H := H) (A := ((s.toList.drop l).take m).toArray ++ Builtin.zeroCells (Value.slice none 0 0).cells (grownCap w m 0 289 - m)) (w1 := w.drew) (k := m) (cap' := grownCap w m 0 289) (hH.bump 1) rfl ae af r t
   (fun j hj => by rw [Array.getElem?_append_left (by simp [t]; omega)]; simp) hge (by simp only [Array.size_append, List.size_toArray, t, K]; omega) rfl rfl rfl rfl
  exact ⟨_, he, μ', d, f, ahy M⟩
 ·obtain ⟨x, y, z, rfl, hx, hy, hz⟩ := ahe hl
  obtain ⟨L, cap, Y, r2, r3, r4, r5, rfl⟩ := vu hx
  cases hy
  obtain ⟨q, E, s, au, ak, ar, ap, k1, rfl, k3, N, g2, al, t, r, G⟩ := alm hH hz V
  rw [ad] at k3
  cases k3
  have am := al rfl
  subst am
  obtain ⟨arr, fr, B, p2, p3, p4, p5, p6, p7⟩ := uE hH hb Y
  obtain ⟨-, rfl⟩ := p6 rfl
  rw [Nat.mul_one] at h4 r5
  have ao : q.blk ≠ L.blk := fun e => h1 (hH.inj b b2 _ _ L q hb ad Y k1 e.symm)
  have X : (arr.toList.take n).length = n := by simp; omega
  have hcs : LR μ F w cs (arr.toList.take n) := by
   refine ⟨by simp; omega, fun i c u hi R => ?_⟩
   rw [List.getElem?_take] at R
   split at R
   ·exact p5 i c u hi (by simpa using R)
   ·cases R
  have T : ∀ j u, (arr.toList.take n)[j]? = some u → w.cell? ⟨L.blk, 0 + j, none⟩ = some u := fun j u hj => by
   rw [Cd B, Nat.zero_add]
   rw [List.getElem?_take] at hj
   split at hj
   ·simpa using hj
   ·cases hj
  have hV : LR μ F w (cs.take (i * 1) ++ S ++ cs.drop (i * 1)) ((arr.toList.take n).take i ++ (s.toList.drop l).take m ++ (arr.toList.take n).drop i) := by
   rw [Nat.mul_one]
   exact ((hcs.take i).append r).append (hcs.drop i)
  have aa : ((arr.toList.take n).take i ++ (s.toList.drop l).take m ++ (arr.toList.take n).drop i).length = n + m := by
   simp only [List.length_append, List.length_take, List.length_drop, t, X]
   have := X
   rw [List.length_take] at this
   omega
  generalize hC : arr.toList.take n = C at *
  generalize hD : (s.toList.drop l).take m = D at *
  have g := X
  have p := t
  have ab : ∀ j, j < n → arr[j]? = C[j]? := fun j hj => by rw [← hC, List.getElem?_take, if_pos hj]; simp
  have Q : ∀ j, j < n + m → (C.take i ++ D ++ C.drop i)[j]? = if j < i then C[j]? else if j < i + m then D[j - i]? else C[j - m]? := by
   intro j hj
   have e1 : (C.take i).length = i := by rw [List.length_take]; omega
   by_cases d : j < i
   ·rw [if_pos d, List.getElem?_append_left (by rw [List.length_append, e1]; omega), List.getElem?_append_left (by omega), List.getElem?_take, if_pos d]
   ·rw [if_neg d]
    by_cases f : j < i + m
    ·rw [if_pos f, List.getElem?_append_left (by rw [List.length_append, e1]; omega), List.getElem?_append_right (by omega), e1]
    ·rw [if_neg f, List.getElem?_append_right (by rw [List.length_append, e1]; omega), List.length_append, e1, List.getElem?_drop]
     congr 1; omega
  have ag : ∀ j, j < cap → (w.cell? ⟨L.blk, 0 + j, none⟩).isSome = true := fun j hj => by
   rw [Cd B, Nat.zero_add, Array.getElem?_eq_getElem (by omega)]; rfl
  by_cases W : n + m ≤ cap
  ·-- there is room
   have J : ∀ (A : Array Value) (w' : World), A.size = L.N → (∀ j, j < n + m → A[j]? = (C.take i ++ D ++ C.drop i)[j]?) → w'.heap[L.blk]? = some (.cells A 289 (0, 0)) → (∀ c, c ≠ L.blk → w'.heap[c]? = w.heap[c]?) → w'.heap.size = w.heap.size → w'.tape = w.tape → w'.os = w.os → w'.output = w.output →
     ∃ μ', Done fB Tryz.prog μ F H w (.own H.next 0 (n + m) (n + m) 1 false) (({ H with next := H.next + 1 } : Heap).kill b |>.put H.next (.cells (cs.take (i * 1) ++ S ++ cs.drop (i * 1)) 289 true)) (.slice (some ⟨L.blk, 0, none⟩) (n + m) cap) w' μ' := by
    intro A w' a1 a2 a3 a4 a5 a6 a7 a8
    obtain ⟨μ', d, f, M⟩ := vJ (P := Tryz.prog) (A := A) (w' := w') (k := n + m) (cap := cap) hH hb Y r2 hV aa a2 W a1 r5 a3 a4 a5 a6 a7 a8
    exact ⟨μ', d, f, M⟩
   by_cases U : i = n
   ·subst U
    refine XD hF ((Ins568.end_room L.blk 0 i cap q.blk l m E D w h2 W (by omega) p (fun j hj => by rw [Nat.add_assoc]; exact ag _ (by omega)) (fun j _ => YF B _) G (r.one O)).mono fun e w' ⟨he, o⟩ => ?_)
    subst o
    obtain ⟨Z, s2, s3, s4, s5, s6⟩ := Y2 L.blk D (0 + i) w arr 289 (0, 0) B
    obtain ⟨μ', hd⟩ := J _ _ ((yo _ _ _).trans p2) (fun j hj => by
     rw [CK _ _ _ _ (by omega), Q j hj, p, Nat.zero_add]
     by_cases d : j < i
     ·rw [if_neg (by omega), if_pos d, ab j d]
     ·rw [if_pos (by omega), if_neg d, if_pos (by omega)]) Z s2 s3 s4 s5 s6
    exact ⟨_, he, μ', hd⟩
   ·refine XD hF ((Ins568.shift L.blk 0 n cap i q.blk l m E C D w (by omega) h2 W (by omega) ao g p T (fun j hj => ag j (by omega)) (fun j _ => YF B _) G (hcs.one h8) (r.one O)
     ah 289 s.size arr.size (by simp [World.shape?, N]) (by simp [World.shape?, B]) (by omega) (YF N _) (YF N _)).mono fun e w' ⟨he, o⟩ => ?_)
    subst o
    obtain ⟨Z, s2, s3, s4, s5, s6⟩ := Y2 L.blk (C.drop i) (0 + (i + m)) w.drew arr 289 (0, 0) B
    obtain ⟨t1, t2, t3, t4, t5, t6⟩ := Y2 L.blk D (0 + i) _ _ 289 (0, 0) Z
    obtain ⟨μ', hd⟩ := J _ _ (by rw [yo, yo]; exact p2) (fun j hj => by
     rw [CK _ _ _ _ (by rw [yo]; omega), CK _ _ _ _ (by omega), Q j hj, p, Nat.zero_add, Nat.zero_add, List.length_drop, g]
     by_cases d : j < i
     ·rw [if_neg (by omega), if_neg (by omega), if_pos d, ab j (by omega)]
     ·by_cases f : j < i + m
      ·rw [if_pos (by omega), if_neg d, if_pos f]
      ·rw [if_neg (by omega), if_pos (by omega), if_neg d, if_neg f, List.getElem?_drop]
       congr 1; omega) t1 (fun c hc => (t2 c hc).trans (s2 c hc)) (t3.trans s3) (t4.trans s4) (t5.trans s5) (t6.trans s6)
    exact ⟨_, he, μ', hd⟩
  ·-- there is none
   have hge := Go.grownCap_ge w (n + m) cap 289
   obtain ⟨z1, z2⟩ := aev (I := fun x => x = H.next) (hH.bump 1) b
   have J : ∀ (A : Array Value) (w1 : World), A.size = grownCap w (n + m) cap 289 → (∀ j, j < n + m → A[j]? = (C.take i ++ D ++ C.drop i)[j]?) → w1.heap = w.heap → w1.tape = w.tape → w1.os = w.os → w1.output = w.output →
     ∃ μ', Done fB Tryz.prog μ F H w (.own H.next 0 (n + m) (n + m) 1 false) (({ H with next := H.next + 1 } : Heap).kill b |>.put H.next (.cells (cs.take (i * 1) ++ S ++ cs.drop (i * 1)) 289 true)) (.slice (some ⟨w.heap.size, 0, none⟩) (n + m) (grownCap w (n + m) cap 289)) (w1.alloc (.cells A 289)) μ' := by
    intro A w1 a1 a2 a3 a4 a5 a6
    obtain ⟨μ', d, f, M⟩ := aoi (P := Tryz.prog) (H := H) (A := A) (w1 := w1) (k := n + m) (cap' := grownCap w (n + m) cap 289) z1 rfl ae af hV aa a2 hge a1 a3 a4 a5 a6
    exact ⟨μ', d, f, ahy (z2.trans M)⟩
   by_cases U : i = n
   ·subst U
    refine XD hF ((Ins568.end_grow (some ⟨L.blk, 0, none⟩) i cap q.blk l m E C D w h2 (by omega) (by omega) (by omega) g p (fun h => by cases h) (fun a ha j u hj => by cases ha; rw [uj]; exact T j u hj) G (r.one O)).mono fun e w' ⟨he, o⟩ => ?_)
    subst o
    obtain ⟨μ', hd⟩ := J ((C ++ D).toArray ++ Builtin.zeroCells (Value.slice none 0 0).cells (grownCap w (i + m) cap 289 - (i + m))) w.drew (by simp only [Array.size_append, List.size_toArray, List.length_append, g, p, K]; omega) (fun j hj => by
     rw [Array.getElem?_append_left (by simp [g, p]; omega), Q j hj]
     have e0 : (C ++ D).toArray[j]? = (C ++ D)[j]? := by simp
     rw [e0]
     by_cases d : j < i
     ·rw [if_pos d, List.getElem?_append_left (by omega)]
     ·rw [if_neg d, if_pos (by omega), List.getElem?_append_right (by omega), g]) rfl rfl rfl rfl
    exact ⟨_, he, μ', hd⟩
   ·refine XD hF ((Ins568.grow L.blk 0 n cap i q.blk l m E C D w (by omega) h2 (by omega) (by omega) (by omega) g p T G (hcs.one h8) (r.one O)).mono fun e w' ⟨he, o⟩ => ?_)
    have e1 : ∀ A : Array Value, (((w.alloc (.cells A 289)).drew.setCells w.heap.size i D).drew).setCells w.heap.size (i + m) (C.drop i) = w.drew.drew.alloc (.cells (jc (jc A i D) (i + m) (C.drop i)) 289) := fun A => by
     have a1 : (w.alloc (.cells A 289)).drew = w.drew.alloc (.cells A 289) := rfl
     have a2 : (w.drew.alloc (.cells A 289)).setCells w.heap.size i D = w.drew.alloc (.cells (jc A i D) 289) := ab2 w.drew 289 D i A
     have a3 : (w.drew.alloc (.cells (jc A i D) 289)).drew = w.drew.drew.alloc (.cells (jc A i D) 289) := rfl
     rw [a1, a2, a3]
     exact ab2 w.drew.drew 289 (C.drop i) (i + m) (jc A i D)
    rw [e1] at o
    subst o
    obtain ⟨μ', hd⟩ := J (jc (jc ((C.take i).toArray ++ Builtin.zeroCells (Value.slice none 0 0).cells (n + m - i) ++ Builtin.zeroCells (Value.slice none 0 0).cells (grownCap w (n + m) cap 289 - (n + m))) i D) (i + m) (C.drop i)) w.drew.drew (by
      rw [yo, yo]
      simp only [Array.size_append, List.size_toArray, List.length_take, g, K]; omega) (fun j hj => by
     have hA0 : ((C.take i).toArray ++ Builtin.zeroCells (Value.slice none 0 0).cells (n + m - i) ++ Builtin.zeroCells (Value.slice none 0 0).cells (grownCap w (n + m) cap 289 - (n + m))).size = grownCap w (n + m) cap 289 := by
      simp only [Array.size_append, List.size_toArray, List.length_take, g, K]; omega
     rw [CK _ _ _ _ (by rw [yo, hA0]; omega), CK _ _ _ _ (by rw [hA0]; omega), Q j hj, p, List.length_drop, g]
     by_cases d : j < i
     ·rw [if_neg (by omega), if_neg (by omega), if_pos d, Array.getElem?_append_left (by simp only [Array.size_append, List.size_toArray, List.length_take, g, K]; omega), Array.getElem?_append_left (by simp only [List.size_toArray, List.length_take, g]; omega)]
      simp [d]
     ·by_cases f : j < i + m
      ·rw [if_neg (by omega), if_pos (by omega), if_neg d, if_pos f]
      ·rw [if_pos (by omega), if_neg d, if_neg f, List.getElem?_drop]
       congr 1; omega) rfl rfl rfl rfl
    exact ⟨_, he, μ', hd⟩
end Go.Proofs.YtopigipibioclaaGreatDoor.Ev.Ok568
