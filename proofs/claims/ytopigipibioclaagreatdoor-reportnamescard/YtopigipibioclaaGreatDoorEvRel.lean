/- The evaluator, a part. -/
import Derived.Test.YtopigipibioclaaGreatDoorEvDefs
import Derived.Laws.CopyRow
import Derived.Laws.Cells
import Derived.Laws.Entries
import Derived.Laws.Sem
namespace Go.Proofs.YtopigipibioclaaGreatDoor.Ev
open Go
set_option linter.all false
structure Loc where
 blk : Nat
 N : Nat
 sz : Nat
abbrev Mu := Nat → Option Loc
inductive VR (μ : Mu) (F : Nat → Prop) (w : World) : AV → Value → Prop where
 | undef (v : Value) : VR μ F w .undef v
 | bool (b : Bool) : VR μ F w (.bool b) (.bool b)
 | int (k : IntKind) (n : Int) : VR μ F w (.int k n) (.int k n)
 | str (s : ByteArray) : VR μ F w (.str s) (.string s)
 | nilPtr : VR μ F w .nilPtr (.pointer none)
 | nilSl : VR μ F w .nilSl (.slice none 0 0)
 | nilFn : VR μ F w .nilFn .nilFunc
 | nilIf : VR μ F w .nilIf .nilIface
 | nilMap : VR μ F w .nilMap (.map none)
 | agg (cs : List AV) (vs : Array Value) : cs.length = vs.size → (∀ (i : Nat) (c : AV) (v : Value), cs[i]? = some c → vs[i]? = some v → VR μ F w c v) → VR μ F w (.agg cs) (.agg vs)
 | tup (cs : List AV) (vs : Array Value) : cs.length = vs.size → (∀ (i : Nat) (c : AV) (v : Value), cs[i]? = some c → vs[i]? = some v → VR μ F w c v) → VR μ F w (.tup cs) (.tuple vs)
 | sl0 (a : Addr) (cap : Nat) : VR μ F w (.sl [] 0) (.slice (some a) 0 cap)
 | sl (cells : List AV) (n cap blk off : Nat) (arr : Array Value) (ty : TypeId) (fr : Nat × Nat) : F blk → w.heap[blk]? = some (.cells arr ty fr) → n ≤ cap → off + cells.length ≤ arr.size →
   (∀ (i : Nat) (c : AV) (v : Value), cells[i]? = some c → arr[off + i]? = some v → VR μ F w c v) → VR μ F w (.sl cells n) (.slice (some ⟨blk, off, none⟩) n cap)
 | dp (cells : List AV) (o blk off : Nat) (arr : Array Value) (ty : TypeId) (fr : Nat × Nat) : F blk → w.heap[blk]? = some (.cells arr ty fr) → off + cells.length ≤ arr.size →
   (∀ (i : Nat) (c : AV) (v : Value), cells[i]? = some c → arr[off + i]? = some v → VR μ F w c v) → VR μ F w (.dp cells o) (.pointer (some ⟨blk, off + o, none⟩))
 | own (b off n c sz : Nat) (ex : Bool) (L : Loc) (cap : Nat) : μ b = some L → L.sz = sz → n ≤ c → c ≤ cap → (ex = true → cap = c) → off + cap * sz ≤ L.N → VR μ F w (.own b off n c sz ex) (.slice (some ⟨L.blk, off, none⟩) n cap)
 | ptr (b off : Nat) (L : Loc) : μ b = some L → VR μ F w (.ptr b off) (.pointer (some ⟨L.blk, off, none⟩))
 | fn (f : Fn) (as bs : List AV) (us vs : Array Value) : as.length = us.size → (∀ (i : Nat) (c : AV) (v : Value), as[i]? = some c → us[i]? = some v → VR μ F w c v) →
   bs.length = vs.size → (∀ (i : Nat) (c : AV) (v : Value), bs[i]? = some c → vs[i]? = some v → VR μ F w c v) → VR μ F w (.fn f as bs) (.func f us vs)
 | ifc (t : Nat) (x : AV) (v : Value) : VR μ F w x v → VR μ F w (.ifc t x) (.iface t v)
 | map (b : Nat) (L : Loc) : μ b = some L → VR μ F w (.map b) (.map (some L.blk))
 | loopv (b : Nat) (L : Loc) : μ b = some L → VR μ F w (.loopv b) (.func (.yield L.blk) #[] #[])
theorem VR.mono {μ μ' : Mu} {F F' : Nat → Prop} {w w' : World} (d : ∀ b L, μ b = some L → μ' b = some L) (hF : ∀ c, F c → F' c)
  (g : ∀ c, F c → w'.heap[c]? = w.heap[c]?) {a : AV} {v : Value} (h : VR μ F w a v) : VR μ' F' w' a v := by
 induction h with
 | undef v => exact .undef v
 | bool b => exact .bool b
 | int k n => exact .int k n
 | str s => exact .str s
 | nilPtr => exact .nilPtr
 | nilSl => exact .nilSl
 | nilFn => exact .nilFn
 | nilIf => exact .nilIf
 | nilMap => exact .nilMap
 | agg cs vs h _ ih => exact .agg cs vs h ih
 | tup cs vs h _ ih => exact .tup cs vs h ih
 | sl0 a cap => exact .sl0 a cap
 | sl cells n cap blk off arr ty fr hf hb hn e _ ih => exact .sl cells n cap blk off arr ty fr (hF _ hf) ((g _ hf).trans hb) hn e ih
 | dp cells o blk off arr ty fr hf hb e _ ih => exact .dp cells o blk off arr ty fr (hF _ hf) ((g _ hf).trans hb) e ih
 | own b off n c sz ex L cap h1 h2 h3 h4 h5 i => exact .own b off n c sz ex L cap (d _ _ h1) h2 h3 h4 h5 i
 | ptr b off L h => exact .ptr b off L (d _ _ h)
 | fn f as bs us vs h1 _ h3 _ j l => exact .fn f as bs us vs h1 j h3 l
 | ifc t x v _ ih => exact .ifc t x v ih
 | map b L h => exact .map b L (d _ _ h)
 | loopv b L h => exact .loopv b L (d _ _ h)
def LR (μ : Mu) (F : Nat → Prop) (w : World) (as : List AV) (vs : List Value) : Prop := as.length = vs.length ∧ ∀ (i : Nat) (c : AV) (v : Value), as[i]? = some c → vs[i]? = some v → VR μ F w c v
theorem LR.nil {μ : Mu} {F : Nat → Prop} {w : World} : LR μ F w [] [] := ⟨rfl, fun i c v h => by simp at h⟩
theorem LR.cons {μ : Mu} {F : Nat → Prop} {w : World} {a : AV} {v : Value} {as : List AV} {vs : List Value} (h : VR μ F w a v) (hs : LR μ F w as vs) : LR μ F w (a :: as) (v :: vs) := by
 refine ⟨by simp [hs.1], fun i c u h1 h2 => ?_⟩
 cases i with
 | zero => simp at h1 h2; subst h1; subst h2; exact h
 | succ i => simp at h1 h2; exact hs.2 i c u h1 h2
theorem LR.head {μ : Mu} {F : Nat → Prop} {w : World} {a : AV} {v : Value} {as : List AV} {vs : List Value} (hs : LR μ F w (a :: as) (v :: vs)) : VR μ F w a v := hs.2 0 a v rfl rfl
theorem LR.tail {μ : Mu} {F : Nat → Prop} {w : World} {a : AV} {v : Value} {as : List AV} {vs : List Value} (hs : LR μ F w (a :: as) (v :: vs)) : LR μ F w as vs :=
 ⟨by have := hs.1; simp at this; exact this, fun i c u h1 h2 => hs.2 (i + 1) c u (by simpa using h1) (by simpa using h2)⟩
theorem LR.mono {μ μ' : Mu} {F F' : Nat → Prop} {w w' : World} (d : ∀ b L, μ b = some L → μ' b = some L) (hF : ∀ c, F c → F' c)
  (a : ∀ c, F c → w'.heap[c]? = w.heap[c]?) {as : List AV} {vs : List Value} (h : LR μ F w as vs) : LR μ' F' w' as vs :=
 ⟨h.1, fun i c v h1 h2 => (h.2 i c v h1 h2).mono d hF a⟩
theorem LR.append {μ : Mu} {F : Nat → Prop} {w : World} : ∀ {as : List AV} {vs : List Value} {bs : List AV} {us : List Value}, LR μ F w as vs → LR μ F w bs us → LR μ F w (as ++ bs) (vs ++ us)
 | [], [], _, _, _, h => h
 | [], _ :: _, _, _, h, _ => by have := h.1; simp at this
 | _ :: _, [], _, _, h, _ => by have := h.1; simp at this
 | a :: as, v :: vs, _, _, h, h' => LR.cons h.head (LR.append h.tail h')
theorem LR.of_agg {μ : Mu} {F : Nat → Prop} {w : World} {cs : List AV} {vs : Array Value} (h1 : cs.length = vs.size) (h2 : ∀ (i : Nat) (c : AV) (v : Value), cs[i]? = some c → vs[i]? = some v → VR μ F w c v) : LR μ F w cs vs.toList :=
 ⟨by simpa using h1, fun i c v hc hv => h2 i c v hc (by simpa using hv)⟩
theorem LR.take {μ : Mu} {F : Nat → Prop} {w : World} {as : List AV} {vs : List Value} (h : LR μ F w as vs) (n : Nat) : LR μ F w (as.take n) (vs.take n) := by
 refine ⟨by simp [h.1], fun i c v h1 h2 => ?_⟩
 rw [List.getElem?_take] at h1 h2
 split at h1
 ·rename_i a; rw [if_pos a] at h2; exact h.2 i c v h1 h2
 ·cases h1
theorem LR.drop {μ : Mu} {F : Nat → Prop} {w : World} {as : List AV} {vs : List Value} (h : LR μ F w as vs) (n : Nat) : LR μ F w (as.drop n) (vs.drop n) := by
 refine ⟨by simp [h.1], fun i c v h1 h2 => ?_⟩
 rw [List.getElem?_drop] at h1 h2
 exact h.2 _ c v h1 h2
theorem LR.get {μ : Mu} {F : Nat → Prop} {w : World} {as : List AV} {vs : List Value} (h : LR μ F w as vs) {i : Nat} {c : AV} (hc : as[i]? = some c) : ∃ v, vs[i]? = some v ∧ VR μ F w c v := by
 have hi : i < as.length := (List.getElem?_eq_some_iff.1 hc).1
 exact ⟨vs[i]'(h.1 ▸ hi), List.getElem?_eq_getElem _, h.2 i c _ hc (List.getElem?_eq_getElem _)⟩
theorem LR.set {μ : Mu} {F : Nat → Prop} {w : World} {as : List AV} {vs : List Value} (h : LR μ F w as vs) (i : Nat) {a : AV} {v : Value} (hv : VR μ F w a v) : LR μ F w (as.set i a) (vs.set i v) := by
 refine ⟨by simp [h.1], fun j c u h1 h2 => ?_⟩
 by_cases e : i = j
 ·subst e
  rw [List.getElem?_set_self'] at h1 h2
  cases hc : as[i]? with
  | none => rw [hc] at h1; cases h1
  | some x =>
   obtain ⟨y, hy, _⟩ := h.get hc
   rw [hc] at h1; rw [hy] at h2
   cases h1; cases h2; exact hv
 ·rw [List.getElem?_set_ne e] at h1 h2
  exact h.2 j c u h1 h2
theorem LR.map {μ : Mu} {F : Nat → Prop} {w : World} {α : Type} (f : α → AV) (g : α → Value) : ∀ (l : List α), (∀ x, x ∈ l → VR μ F w (f x) (g x)) → LR μ F w (l.map f) (l.map g)
 | [], _ => LR.nil
 | x :: l, h => LR.cons (h x (List.mem_cons_self ..)) (LR.map f g l fun y hy => h y (List.mem_cons_of_mem _ hy))
theorem VR.oneCell {μ : Mu} {F : Nat → Prop} {w : World} {a : AV} {v : Value} (h : VR μ F w a v) (h1 : a.one = true) : v.oneCell' = true := by
 cases h <;> first | rfl | (simp [AV.one] at h1)
/-! ### The heap -/
def Yf (es : List MapEntry) (clock : Nat) : Prop := (∀ e ∈ es, e.born < clock) ∧ (es.map (·.born)).Nodup
def ER (P : Program) (μ : Mu) (F : Nat → Prop) (w : World) (L : Loc) : Ent → Prop
 | .cells cs ty rw => ∃ arr fr, w.heap[L.blk]? = some (.cells arr ty fr) ∧ arr.size = L.N ∧ (P.info? ty).map (·.size) = some L.sz ∧ cs.length ≤ arr.size ∧
   (∀ (i : Nat) (c : AV) (v : Value), cs[i]? = some c → arr[i]? = some v → VR μ F w c v) ∧ (rw = true → ¬ F L.blk ∧ fr = (0, 0)) ∧ (rw = false → True)
 | .map es => ¬ F L.blk ∧ ∃ a clock, w.heap[L.blk]? = some (.map a clock) ∧ LR μ F w (es.map (·.1)) (a.toList.map (·.key)) ∧ LR μ F w (es.map (·.2)) (a.toList.map (·.val)) ∧ Yf a.toList clock
 | .mapR es => ∃ a clock, w.heap[L.blk]? = some (.map a clock) ∧ LR μ F w (es.map (·.1)) (a.toList.map (·.key)) ∧ LR μ F w (es.map (·.2)) (a.toList.map (·.val)) ∧ Yf a.toList clock
 | .loop T ps b body st d => ¬ F L.blk ∧ ∃ (r : Loop), w.heap[L.blk]? = some (.loop r) ∧ r.state = st ∧ LR μ F w T r.tmps.toList ∧ r.params.toList = ps ∧ bB P r.assign = some b ∧ bB P r.body = some body ∧
   (match d, r.pending with | none, none => True | some c, some c' => bB P c' = some c | _, _ => False)
 | .siter s pos => ¬ F L.blk ∧ w.heap[L.blk]? = some (.stringIter s pos)
def Ent.rw : Ent → Bool
 | .cells _ _ rw => rw
 | .mapR _ => false
 | _ => true
structure HR (P : Program) (μ : Mu) (F : Nat → Prop) (H : Heap) (w : World) : Prop where
 dom : ∀ b L, μ b = some L → b < H.next ∧ L.blk < w.heap.size
 fb : ∀ c, F c → c < w.heap.size
 ent : ∀ b e, H.get b = some e → ∃ L, μ b = some L ∧ ER P μ F w L e
 inj : ∀ b b' e e' L L', H.get b = some e → H.get b' = some e' → μ b = some L → μ b' = some L' → L.blk = L'.blk → b = b'
 gl : ∀ g cs, ke g = some cs → VR μ F w (.dp cs 0) (.pointer (some ⟨g, 0, none⟩))
def Heap.rwAt (H : Heap) (b : Nat) : Prop := ∃ e, H.get b = some e ∧ e.rw = true
structure Stp (I : Nat → Prop) (P : Program) (μ : Mu) (F : Nat → Prop) (H : Heap) (w : World) (μ' : Mu) (F' : Nat → Prop) (H' : Heap) (w' : World) : Prop where
 mu : ∀ b L, μ b = some L → μ' b = some L
 fr : ∀ c, F c → F' c
 size : w.heap.size ≤ w'.heap.size
 keep : ∀ c, c < w.heap.size → (∀ b L, H.rwAt b → μ b = some L → L.blk ≠ c) → w'.heap[c]? = w.heap[c]?
 rw : ∀ b L, H'.rwAt b → μ' b = some L → w.heap.size ≤ L.blk ∨ ∃ b0 L0, H.rwAt b0 ∧ μ b0 = some L0 ∧ L0.blk = L.blk
 next : H.next ≤ H'.next
 new : ∀ b, b < H.next → ¬ I b → μ b = none → μ' b = none
 rng : ∀ b L, μ' b = some L → (∃ b0 L0, μ b0 = some L0 ∧ L0.blk = L.blk) ∨ w.heap.size ≤ L.blk
 old : ∀ b e, H'.get b = some e → b < H.next → ¬ I b → ∃ e0, H.get b = some e0
 alv : ∀ b e L, H'.get b = some e → μ' b = some L → w.heap.size ≤ L.blk ∨ ∃ b0 e0 L0, H.get b0 = some e0 ∧ μ b0 = some L0 ∧ L0.blk = L.blk
 tape : w'.tape = w.tape
 os : w'.os = w.os
 out : w'.output = w.output
theorem ER.notF {P : Program} {μ : Mu} {F : Nat → Prop} {w : World} {L : Loc} {e : Ent} (h : ER P μ F w L e) (hr : e.rw = true) : ¬ F L.blk := by
 cases e with
 | cells cs ty rw => obtain ⟨_, _, _, _, _, _, _, a, _⟩ := h; exact (a hr).1
 | map es => exact h.1
 | loop T ps b body st c => exact h.1
 | siter s pos => exact h.1
 | mapR es => cases hr
theorem HR.rw_notF {P : Program} {μ : Mu} {F : Nat → Prop} {H : Heap} {w : World} (h : HR P μ F H w) {b : Nat} {L : Loc} (hb : H.rwAt b) (hL : μ b = some L) : ¬ F L.blk := by
 obtain ⟨e, he, hr⟩ := hb
 obtain ⟨L', hL', a⟩ := h.ent b e he
 rw [hL] at hL'; cases hL'
 exact a.notF hr
section
variable {I : Nat → Prop} {P : Program} {μ : Mu} {F : Nat → Prop} {H : Heap} {w : World} {μ' : Mu} {F' : Nat → Prop} {H' : Heap} {w' : World}
theorem Stp.keepF (h : Stp I P μ F H w μ' F' H' w') (hH : HR P μ F H w) : ∀ c, F c → w'.heap[c]? = w.heap[c]? :=
 fun c hc => h.keep c (hH.fb c hc) fun _ _ hb hL e => hH.rw_notF hb hL (e ▸ hc)
theorem Stp.vr (h : Stp I P μ F H w μ' F' H' w') (hH : HR P μ F H w) {a : AV} {v : Value} (hv : VR μ F w a v) : VR μ' F' w' a v := hv.mono h.mu h.fr (h.keepF hH)
theorem Stp.lr (h : Stp I P μ F H w μ' F' H' w') (hH : HR P μ F H w) {as : List AV} {vs : List Value} (hv : LR μ F w as vs) : LR μ' F' w' as vs := hv.mono h.mu h.fr (h.keepF hH)
theorem Stp.refl (I : Nat → Prop) (P : Program) (μ : Mu) (F : Nat → Prop) (H : Heap) (w : World) : Stp I P μ F H w μ F H w :=
 ⟨fun _ _ h => h, fun _ h => h, Nat.le_refl _, fun _ _ _ => rfl, fun b L hb hL => .inr ⟨b, L, hb, hL, rfl⟩, Nat.le_refl _, fun _ _ _ h => h, fun b L h => .inl ⟨b, L, h, rfl⟩, fun b e h _ _ => ⟨e, h⟩, fun b e L h hL => .inr ⟨b, e, L, h, hL, rfl⟩, rfl, rfl, rfl⟩
theorem Stp.mono {I' : Nat → Prop} (a : ∀ b, I b → I' b) (h : Stp I P μ F H w μ' F' H' w') : Stp I' P μ F H w μ' F' H' w' :=
 ⟨h.mu, h.fr, h.size, h.keep, h.rw, h.next, fun b hb hn => h.new b hb (fun hi => hn (a b hi)), h.rng, fun b e hb hl hn => h.old b e hb hl (fun hi => hn (a b hi)), h.alv, h.tape, h.os, h.out⟩
theorem Stp.trans {μ₂ : Mu} {g : Nat → Prop} {i : Heap} {k : World} (h : Stp I P μ F H w μ' F' H' w') (h' : Stp I P μ' F' H' w' μ₂ g i k) :
  Stp I P μ F H w μ₂ g i k where
 mu b L hb := h'.mu _ _ (h.mu _ _ hb)
 fr c hc := h'.fr _ (h.fr _ hc)
 size := Nat.le_trans h.size h'.size
 keep c hc hn := by
  rw [h'.keep c (Nat.lt_of_lt_of_le hc h.size) ?_, h.keep c hc hn]
  intro b L hb hL e
  rcases h.rw b L hb hL with hge | ⟨b0, L0, h0, d, e0⟩
  ·omega
  ·exact hn b0 L0 h0 d (e0.trans e)
 rw b L hb hL := by
  rcases h'.rw b L hb hL with hge | ⟨b1, a, h1, f, e1⟩
  ·exact .inl (Nat.le_trans h.size hge)
  ·rcases h.rw b1 a h1 f with hge | ⟨b0, L0, h0, d, e0⟩
   ·exact .inl (e1 ▸ hge)
   ·exact .inr ⟨b0, L0, h0, d, e0.trans e1⟩
 next := Nat.le_trans h.next h'.next
 new b hb hi hn := h'.new b (Nat.lt_of_lt_of_le hb h.next) hi (h.new b hb hi hn)
 rng b L hb := by
  rcases h'.rng b L hb with ⟨b1, a, h1, e1⟩ | hge
  ·rcases h.rng b1 a h1 with ⟨b0, L0, h0, e0⟩ | hge
   ·exact .inl ⟨b0, L0, h0, e0.trans e1⟩
   ·exact .inr (e1 ▸ hge)
  ·exact .inr (Nat.le_trans h.size hge)
 old b e hb hl hn := by
  obtain ⟨e1, h1⟩ := h'.old b e hb (Nat.lt_of_lt_of_le hl h.next) hn
  exact h.old b e1 h1 hl hn
 alv b e L hb hL := by
  rcases h'.alv b e L hb hL with hge | ⟨b1, e1, a, h1, f, j⟩
  ·exact .inl (Nat.le_trans h.size hge)
  ·rcases h.alv b1 e1 a h1 f with hge | ⟨b0, e0, L0, h0, d, l⟩
   ·exact .inl (j ▸ hge)
   ·exact .inr ⟨b0, e0, L0, h0, d, l.trans j⟩
 tape := h'.tape.trans h.tape
 os := h'.os.trans h.os
 out := h'.out.trans h.out
end
/-! ### The tree -/
theorem D8.of_eq {x y : Nat} (h : D8.of x = D8.of y) : x % 8 = y % 8 := by
 have key : ∀ (a b c f b' c' : Bool), (Bool.casesOn (motive := fun _ => D8) a (Bool.casesOn (motive := fun _ => D8) b (Bool.casesOn (motive := fun _ => D8) c .d0 .d1) (Bool.casesOn (motive := fun _ => D8) c .d2 .d3)) (Bool.casesOn (motive := fun _ => D8) b (Bool.casesOn (motive := fun _ => D8) c .d4 .d5) (Bool.casesOn (motive := fun _ => D8) c .d6 .d7))) =
   (Bool.casesOn (motive := fun _ => D8) f (Bool.casesOn (motive := fun _ => D8) b' (Bool.casesOn (motive := fun _ => D8) c' .d0 .d1) (Bool.casesOn (motive := fun _ => D8) c' .d2 .d3)) (Bool.casesOn (motive := fun _ => D8) b' (Bool.casesOn (motive := fun _ => D8) c' .d4 .d5) (Bool.casesOn (motive := fun _ => D8) c' .d6 .d7))) → a = f ∧ b = b' ∧ c = c' := by decide
 obtain ⟨h1, h2, h3⟩ := key _ _ _ _ _ _ h
 have d : ∀ u v : Nat, Nat.beq (Nat.mod u 2) 1 = Nat.beq (Nat.mod v 2) 1 → u % 2 = v % 2 := by
  intro u v hb
  have g : Nat.mod u 2 = u % 2 := rfl
  have hv : Nat.mod v 2 = v % 2 := rfl
  rw [g, hv] at hb
  rcases Nat.mod_two_eq_zero_or_one u with e | e <;> rcases Nat.mod_two_eq_zero_or_one v with e' | e' <;> rw [e, e'] at hb ⊢ <;> first | rfl | cases hb
 have b1 := d _ _ h1
 have b2 := d _ _ h2
 have i := d _ _ h3
 have e1 : ∀ u v : Nat, Nat.div u v = u / v := fun _ _ => rfl
 rw [e1, e1] at b1 b2
 omega
theorem Q.at_up {α : Type} (d a : D8) (u : α → α) (q : Q α) : Q.at d (Q.up a u q) = if d = a then u (Q.at d q) else Q.at d q := by
 cases q
 cases d <;> cases a <;> rfl
theorem Tr.get_set (t : Tr) (n : Nat) (e : Option Ent) (m : Nat) : (t.set n e).get m = if m = n then e else t.get m := by
 have f : ∀ u v : Nat, Nat.div u v = u / v := fun _ _ => rfl
 unfold Tr.set Tr.get
 cases hn : Nat.ble n 16777215 with
 | false =>
  cases hm : Nat.ble m 16777215 with
  | false => simp only [an5]
  | true =>
   have d : m ≠ n := fun h => by rw [h, hn] at hm; cases hm
   simp only [if_neg d]
 | true =>
  cases hm : Nat.ble m 16777215 with
  | false =>
   have d : m ≠ n := fun h => by rw [h, hn] at hm; cases hm
   simp only [if_neg d]
  | true =>
   have i : n ≤ 16777215 := Nat.le_of_ble_eq_true hn
   have g : m ≤ 16777215 := Nat.le_of_ble_eq_true hm
   simp only [f]
   by_cases c : m = n
   ·subst c
    simp only [Q.at_up, if_true]
   ·rw [if_neg c]
    by_cases b : D8.of (m / 2097152) = D8.of (n / 2097152)
    ·rw [Q.at_up, if_pos b]
     by_cases a : D8.of (m / 262144) = D8.of (n / 262144)
     ·rw [Q.at_up, if_pos a]
      by_cases h5 : D8.of (m / 32768) = D8.of (n / 32768)
      ·rw [Q.at_up, if_pos h5]
       by_cases h4 : D8.of (m / 4096) = D8.of (n / 4096)
       ·rw [Q.at_up, if_pos h4]
        by_cases h3 : D8.of (m / 512) = D8.of (n / 512)
        ·rw [Q.at_up, if_pos h3]
         by_cases h2 : D8.of (m / 64) = D8.of (n / 64)
         ·rw [Q.at_up, if_pos h2]
          by_cases h1 : D8.of (m / 8) = D8.of (n / 8)
          ·rw [Q.at_up, if_pos h1]
           have h0 : D8.of m ≠ D8.of n := fun h0 => c (by
            have := D8.of_eq h0; have := D8.of_eq h1; have := D8.of_eq h2; have := D8.of_eq h3
            have := D8.of_eq h4; have := D8.of_eq h5; have := D8.of_eq a; have := D8.of_eq b
            omega)
           rw [Q.at_up, if_neg h0]
          ·rw [Q.at_up, if_neg h1]
         ·rw [Q.at_up, if_neg h2]
        ·rw [Q.at_up, if_neg h3]
       ·rw [Q.at_up, if_neg h4]
      ·rw [Q.at_up, if_neg h5]
     ·rw [Q.at_up, if_neg a]
    ·rw [Q.at_up, if_neg b]
theorem ann (a b : Nat) : Nat.ble (Nat.succ a) b = decide (a < b) := by
 cases h : Nat.ble (Nat.succ a) b with
 | true => exact (decide_eq_true (Nat.le_of_ble_eq_true h)).symm
 | false =>
  refine (decide_eq_false fun c => ?_).symm
  rw [Nat.ble_eq_true_of_le (show Nat.succ a ≤ b from c)] at h
  cases h
theorem Heap.get_setO (H : Heap) (b : Nat) (o : Option Ent) (m : Nat) : (H.setO b o).get m = if m = b then o else H.get m := by
 unfold Heap.setO
 cases hb : Nat.ble (Nat.succ b) H.lim with
 | false =>
  simp only [Heap.get, hb]
  by_cases h : m = b
  ·subst h
   rw [hb, Tr.get_set, if_pos rfl]
  ·rw [if_neg h, Tr.get_set, if_neg h]
 | true =>
  simp only [Heap.get, hb]
  by_cases h : m = b
  ·subst h
   rw [if_pos rfl, hb]
   show tX _ m ((m, o) :: H.ovr) = o
   unfold tX
   rw [if_pos rfl]
  ·rw [if_neg h]
   simp only [tX, if_neg h]
theorem ru (o : Option Ent) : rx (rx o) = rx o := by
 cases o with
 | none => rfl
 | some e => cases e <;> rfl
theorem afp (lim : Nat) (d : Option Ent) (b : Nat) (hb : b < lim) : ∀ l : List (Nat × Option Ent), tX (rx d) b ((l.filter fun p => decide (p.1 < lim)).map fun p => (p.1, rx p.2)) = rx (tX (rx d) b l)
 | [] => (ru d).symm
 | (k, e) :: l => by
  by_cases hk : k < lim
  ·rw [List.filter_cons_of_pos (by simpa using hk), List.map_cons]
   simp only [tX]
   split
   ·rfl
   ·exact afp lim d b hb l
  ·rw [List.filter_cons_of_neg (by simpa using hk)]
   have a : ¬ b = k := fun e => hk (e ▸ hb)
   simp only [tX, if_neg a]
   exact afp lim d b hb l
theorem aet (lim : Nat) (d : Option Ent) (b : Nat) (hb : ¬ b < lim) : ∀ l : List (Nat × Option Ent), tX d b ((l.filter fun p => decide (p.1 < lim)).map fun p => (p.1, rx p.2)) = d
 | [] => rfl
 | (k, e) :: l => by
  by_cases hk : k < lim
  ·rw [List.filter_cons_of_pos (by simpa using hk), List.map_cons]
   have a : ¬ b = k := fun e => hb (e ▸ hk)
   simp only [tX, if_neg a]
   exact aet lim d b hb l
  ·rw [List.filter_cons_of_neg (by simpa using hk)]
   exact aet lim d b hb l
theorem Heap.get_ro (H : Heap) (b : Nat) : H.ro.get b = if b < max H.next H.lim then rx (H.get b) else H.get b := by
 unfold Heap.ro Heap.get
 simp only [ann]
 have e : Nat.max H.next H.lim = max H.next H.lim := rfl
 rw [e]
 by_cases h1 : b < max H.next H.lim
 ·rw [if_pos h1, decide_eq_true h1]
  by_cases h2 : b < H.lim
  ·rw [decide_eq_true h2]
   exact afp H.lim _ b h2 _
  ·rw [decide_eq_false h2]
   exact aet H.lim _ b h2 _
 ·have h2 : ¬ b < H.lim := by omega
  rw [if_neg h1, decide_eq_false h1, decide_eq_false h2]
theorem Heap.get_put (H : Heap) (b : Nat) (e : Ent) (m : Nat) : (H.put b e).get m = if m = b then some e else H.get m := Heap.get_setO _ _ _ _
theorem Heap.get_kill (H : Heap) (b : Nat) (m : Nat) : (H.kill b).get m = if m = b then none else H.get m := Heap.get_setO _ _ _ _
@[simp] theorem Heap.next_put (H : Heap) (b : Nat) (e : Ent) : (H.put b e).next = H.next := rfl
@[simp] theorem Heap.next_kill (H : Heap) (b : Nat) : (H.kill b).next = H.next := rfl
theorem bN {α β : Type} {o : Option α} {f : α → Option β} {b : β} : o.bind f = some b ↔ ∃ a, o = some a ∧ f a = some b := Option.bind_eq_some_iff
end Go.Proofs.YtopigipibioclaaGreatDoor.Ev

namespace Go.Proofs.YtopigipibioclaaGreatDoor.Ev
open Go
set_option linter.all false
section
variable {P : Program} {μ : Mu} {F : Nat → Prop} {w : World} {T : Tm} {a : Act}
theorem amf {v : Value} {x : AV} (h : lZ v = some x) : VR μ F w x v := by
 unfold lZ at h
 split at h <;> first | (cases h; done) | skip
 ·cases h; exact .bool _
 ·cases h; exact .int _ _
 ·cases h; exact .str _
 ·cases h; exact .nilPtr
 ·cases h; exact .nilSl
 ·cases h; exact .nilMap
 ·cases h; exact .nilFn
 ·cases h; exact .nilIf
 ·split at h
  ·rename_i hz
   cases h
   exact .fn _ _ _ _ _ hz.1.symm (fun i c v h => by simp at h) hz.2.symm (fun i c v h => by simp at h)
  ·cases h
theorem XE : ∀ {l : List Value} {cs : List AV}, l.mapM lZ = some cs → LR μ F w cs l
 | [], cs, h => by simp at h; subst h; exact LR.nil
 | v :: l, cs, h => by
  simp only [List.mapM_cons, Option.pure_def, Option.bind_eq_bind, bN] at h
  obtain ⟨x, hx, xs, a, h⟩ := h
  cases h
  exact LR.cons (amf hx) (XE a)
theorem YT {v : Value} {x : AV} (h : CF v = some x) : VR μ F w x v := by
 unfold CF at h
 split at h
 ·simp only [Option.bind_eq_bind, bN] at h
  obtain ⟨cs, hcs, h⟩ := h
  cases h
  have hl := XE (μ := μ) (F := F) (w := w) hcs
  exact .agg _ _ (by simpa using hl.1) fun i c v h1 h2 => hl.2 i c v h1 (by simpa using h2)
 ·split at h
  ·rename_i hz
   cases h
   exact .tup _ _ hz.symm fun i c v h => by simp at h
  ·cases h
 ·exact amf h
theorem Ys (hT : LR μ F w T a.tmps.toList) (t : Nat) : VR μ F w (eQ T t) (a.tmps.getD t undef) := by
 unfold eQ
 cases hc : T[t]? with
 | none => rw [List.getD_eq_getElem?_getD, hc]; exact .undef _
 | some c =>
  obtain ⟨v, hv, hr⟩ := hT.get hc
  have : a.tmps[t]? = some v := by simpa using hv
  rw [List.getD_eq_getElem?_getD, hc]
  simp [this]
  exact hr
theorem fw {x : Operand} {s : Src} (hT : LR μ F w T a.tmps.toList) (h : cH x = some s) : VR μ F w (s.ev T) (a.eval x) := by
 cases x with
 | tmp t => cases h; exact Ys hT t
 | const v =>
  simp only [cH, Option.map_eq_some_iff] at h
  obtain ⟨y, hy, h⟩ := h
  cases h
  exact YT hy
 | global g => cases h
 | func f => cases h; exact .fn _ _ _ _ _ rfl (fun i c v h => by simp at h) rfl (fun i c v h => by simp at h)
theorem yn (hT : LR μ F w T a.tmps.toList) : ∀ {l : List Operand} {ss : List Src}, l.mapM cH = some ss → LR μ F w (ss.map (Src.ev T)) (l.map a.eval)
 | [], ss, h => by simp at h; subst h; exact LR.nil
 | x :: l, ss, h => by
  simp only [List.mapM_cons, Option.pure_def, Option.bind_eq_bind, bN] at h
  obtain ⟨s, hs, c, b, h⟩ := h
  cases h
  exact LR.cons (fw hT hs) (yn hT b)
theorem ais {x : AV} {v : Value} (h : VR μ F w x v) (d : x.cells.all AV.one = true) : LR μ F w x.cells v.cells.toList := by
 cases h with
 | agg cs vs hl hv => exact LR.of_agg hl hv
 | undef v => simp [AV.cells, AV.one] at d
 | tup cs vs hl hv => simp [AV.cells, AV.one] at d
 | bool b => exact LR.cons (.bool b) LR.nil
 | int k n => exact LR.cons (.int k n) LR.nil
 | str s => exact LR.cons (.str s) LR.nil
 | nilPtr => exact LR.cons .nilPtr LR.nil
 | nilSl => exact LR.cons .nilSl LR.nil
 | nilFn => exact LR.cons .nilFn LR.nil
 | nilIf => exact LR.cons .nilIf LR.nil
 | nilMap => exact LR.cons .nilMap LR.nil
 | sl0 a cap => exact LR.cons (.sl0 a cap) LR.nil
 | sl cells n cap blk off arr ty fr h1 h2 h3 h4 h5 => exact LR.cons (.sl cells n cap blk off arr ty fr h1 h2 h3 h4 h5) LR.nil
 | dp cells o blk off arr ty fr h1 h2 h4 h5 => exact LR.cons (.dp cells o blk off arr ty fr h1 h2 h4 h5) LR.nil
 | own b off n c sz ex L cap h1 h2 h3 h4 h5 e => exact LR.cons (.own b off n c sz ex L cap h1 h2 h3 h4 h5 e) LR.nil
 | ptr b off L h => exact LR.cons (.ptr b off L h) LR.nil
 | fn f as bs us vs h1 h2 h3 h4 => exact LR.cons (.fn f as bs us vs h1 h2 h3 h4) LR.nil
 | ifc t x v h => exact LR.cons (.ifc t x v h) LR.nil
 | map b L h => exact LR.cons (.map b L h) LR.nil
 | loopv b L h => exact LR.cons (.loopv b L h) LR.nil
theorem LR.one {as : List AV} {vs : List Value} (h : LR μ F w as vs) (h1 : as.all AV.one = true) : ∀ v ∈ vs, v.oneCell' = true := by
 intro v hv
 obtain ⟨i, hi, rfl⟩ := List.mem_iff_getElem.1 hv
 have a : i < as.length := h.1 ▸ hi
 have := h.2 i as[i] vs[i] (List.getElem?_eq_getElem _) (List.getElem?_eq_getElem _)
 exact this.oneCell (by rw [List.all_eq_true] at h1; exact h1 _ (List.getElem_mem _))
theorem pC {x : AV} {v : Value} {n : Nat} (h : i7 x = some n) (hv : VR μ F w x v) : ∃ k, v = .int k (n : Int) := by
 unfold i7 at h
 split at h
 ·cases h
  cases hv with
  | int k n => exact ⟨_, rfl⟩
 ·cases h
/-! ### Filling -/
theorem amq : ∀ (l : List Value) (off : Nat) (cs : Array Value), off + l.length ≤ cs.size →
  ((l.zipIdx).foldl (fun (cs : Array Value) (p : Value × Nat) => cs.setIfInBounds (off + p.2) p.1) cs).toList = cs.toList.take off ++ l ++ cs.toList.drop (off + l.length) := by
 intro l off cs h
 have key : ∀ (l : List Value) (k : Nat) (cs : Array Value), off + k + l.length ≤ cs.size →
   ((l.zipIdx k).foldl (fun (cs : Array Value) (p : Value × Nat) => cs.setIfInBounds (off + p.2) p.1) cs).toList = cs.toList.take (off + k) ++ l ++ cs.toList.drop (off + k + l.length) := by
  intro l
  induction l with
  | nil => intro k cs h; simp
  | cons v l ih =>
   intro k cs h
   simp only [List.length_cons] at h
   simp only [List.zipIdx_cons, List.foldl_cons]
   rw [ih (k + 1) _ (by simp; omega)]
   simp only [Array.toList_setIfInBounds, List.length_cons]
   have a : off + k < cs.toList.length := by rw [Array.length_toList]; omega
   have h1 : (cs.toList.set (off + k) v).take (off + (k + 1)) = cs.toList.take (off + k) ++ [v] := by
    rw [← Nat.add_assoc, List.take_add_one, List.take_set_of_le (Nat.le_refl _), List.getElem?_set_self a]; rfl
   have h2 : (cs.toList.set (off + k) v).drop (off + (k + 1) + l.length) = cs.toList.drop (off + k + (l.length + 1)) := by
    rw [List.drop_set_of_lt (by omega)]; congr 1; omega
   rw [h1, h2]; simp
 simpa using key l 0 cs (by simpa using h)
theorem aj8 (hT : LR μ F w T a.tmps.toList) (place : Nat → Option (Nat × Nat)) : ∀ (parts : List (Nat × Operand)) (ps : List ((Nat × Nat) × Src)) (z : List AV) (b : Array Value) (cs : List AV),
  (parts.mapM fun (p : Nat × Operand) => (do some ((← place p.1), (← cH p.2)) : Option ((Nat × Nat) × Src))) = some ps → LR μ F w z b.toList → iV z (ps.map fun p => (p.1, p.2.ev T)) = some cs →
  ∃ vs, Instr.fill place b (parts.map fun p => (p.1, a.eval p.2)) = some vs ∧ LR μ F w cs vs.toList := by
 intro parts
 induction parts with
 | nil =>
  intro ps z b cs h hz hf
  simp at h; subst h
  simp [iV] at hf; subst hf
  exact ⟨b, rfl, hz⟩
 | cons p parts ih =>
  intro ps z b cs h hz hf
  simp only [List.mapM_cons, Option.pure_def, Option.bind_eq_bind, bN] at h
  obtain ⟨q, ⟨pl, hpl, s, hs, hq⟩, i, d, h⟩ := h
  cases h; cases hq
  simp only [List.map_cons, iV] at hf
  split at hf
  ·rename_i hc
   obtain ⟨h1, h2, h3⟩ := hc
   have hv := fw hT hs
   have hl := ais hv h3
   have hsz : (a.eval p.2).cells.size = pl.2 := by have := hl.1; simp at this; omega
   have g := hz.1
   simp only [Array.length_toList] at g
   obtain ⟨vs, f, hr⟩ := ih i _ (((a.eval p.2).cells.zipIdx.foldl (fun cs (c, j) => cs.setIfInBounds (pl.1 + j) c) b)) cs d (by
    have e := amq (a.eval p.2).cells.toList pl.1 b (by simp; omega)
    rw [← Array.toList_zipIdx, Array.foldl_toList] at e
    rw [e]
    refine LR.append (LR.append (hz.take _) hl) ?_
    have : pl.1 + (a.eval p.2).cells.toList.length = pl.1 + pl.2 := by simp [hsz]
    rw [this]
    exact hz.drop _) hf
   refine ⟨vs, ?_, hr⟩
   simp only [List.map_cons, Instr.fill, hpl]
   rw [if_neg (by simp; omega)]
   exact f
  ·cases hf
end
end Go.Proofs.YtopigipibioclaaGreatDoor.Ev
