/- The evaluator, a part. -/
import Derived.Test.YtopigipibioclaaGreatDoorEvDraw6
import Derived.Scope
import Derived.Maps.RangeRun
namespace Go.Proofs.YtopigipibioclaaGreatDoor.Ev
open Go
set_option linter.all false
def oi : Ex → Exit
 | .nrm => .normal
 | .exit i => .exit i
 | .goto l => .goto l
 | .ret => .ret
def DM (B : Nat × List Deferred) (μ : Mu) (F : Nat → Prop) (w : World) (ds : List Deferred) : Prop :=
 ∃ Ds : List Nat, ds = Ds.map (fun D => { target := .collected D, args := #[] }) ++ B.2 ∧ Ds.Nodup ∧
  ∀ D ∈ Ds, B.1 ≤ D ∧ D < w.heap.size ∧ w.heap[D]? = some (.deferred (some [])) ∧ ¬ F D ∧ ∀ b L, μ b = some L → L.blk ≠ D
section
variable {P : Program} {μ : Mu} {F : Nat → Prop} {H : Heap} {w : World} {T : Tm} {a : Act} {B : Nat × List Deferred}
theorem DM.nil {B : Nat × List Deferred} : DM B μ F w B.2 := ⟨[], rfl, List.nodup_nil, fun D h => by cases h⟩
theorem DM.stp {I : Nat → Prop} {μ' : Mu} {H' : Heap} {w' : World} {ds : List Deferred} (h : DM B μ F w ds) (a : Stp I P μ F H w μ' F H' w') : DM B μ' F w' ds := by
 obtain ⟨Ds, h1, h2, h3⟩ := h
 refine ⟨Ds, h1, h2, fun D hD => ?_⟩
 obtain ⟨f, c, g, i, d⟩ := h3 D hD
 refine ⟨f, Nat.lt_of_lt_of_le c a.size, ?_, i, fun b L hb => ?_⟩
 ·rw [a.keep D c fun b L _ hL => d b L hL]; exact g
 ·rcases a.rng b L hb with ⟨b0, L0, h0, e⟩ | hge
  ·rw [← e]; exact d b0 L0 h0
  ·omega
structure StR (P : Program) (B : Nat × List Deferred) (μ : Mu) (F : Nat → Prop) (H : Heap) (w : World) (T : Tm) (a : Act) : Prop where
 hT : LR μ F w T a.tmps.toList
 hH : HR P μ F H w
 hD : DM B μ F w a.defers
def nK (P : Program) (rd : Bool) (c : Code) (T : Tm) (H : Heap) (x : Ex) (d : Tm) (H' : Heap) : Prop :=
 ∀ (fence : Fence) (n : Nat) (B : Nat × List Deferred) (μ : Mu) (F : Nat → Prop) (w : World) (a : Act) (Q : Exit → Act → World → Prop), FenceOK fence rd → B.1 ≤ w.heap.size → StR P B μ F H w T a →
  (∀ b w' μ', StR P B μ' F H' w' d b → Stp fB P μ F H w μ' F H' w' → Q (oi x) b w') → c.wpIn fence n P Q a w
theorem DM.back {μ' : Mu} {ds : List Deferred} (a : ∀ b L, μ b = some L → μ' b = some L) (h : DM B μ' F w ds) : DM B μ F w ds := by
 obtain ⟨Ds, h1, h2, h3⟩ := h
 exact ⟨Ds, h1, h2, fun D hD => ⟨(h3 D hD).1, (h3 D hD).2.1, (h3 D hD).2.2.1, (h3 D hD).2.2.2.1, fun b L hb => (h3 D hD).2.2.2.2 b L (a b L hb)⟩⟩
theorem DM.keep {w' : World} {ds : List Deferred} (h : DM B μ F w ds) (hs : w.heap.size ≤ w'.heap.size) (f : ∀ (D : Nat), w.heap[D]? = some (.deferred (some [])) → w'.heap[D]? = w.heap[D]?) : DM B μ F w' ds := by
 obtain ⟨Ds, h1, h2, h3⟩ := h
 refine ⟨Ds, h1, h2, fun D hD => ?_⟩
 obtain ⟨b, c, a, d, e⟩ := h3 D hD
 exact ⟨b, Nat.lt_of_lt_of_le c hs, (f D a).trans a, d, e⟩
/-! ### Read alone -/
theorem X9 {H : Heap} (hH : HR P μ F H w) {b : Nat} {e : Ent} (h : H.ro.get b = some e) : ∃ e0, H.get b = some e0 ∧ e0.ro = some e := by
 rw [Heap.get_ro] at h
 split at h
 ·cases hg : H.get b with
  | none => rw [hg] at h; cases h
  | some e0 => rw [hg] at h; exact ⟨e0, rfl, h⟩
 ·rename_i a
  obtain ⟨L, hL, _⟩ := hH.ent b e h
  have := (hH.dom b L hL).1
  omega
theorem MD {H : Heap} (hH : HR P μ F H w) {b : Nat} : ¬ H.ro.rwAt b := by
 rintro ⟨e, h, hr⟩
 obtain ⟨e0, -, h0⟩ := X9 hH h
 cases e0 <;> simp only [Ent.ro] at h0 <;> first | (cases h0; done) | (simp only [Option.some.injEq] at h0; subst h0; cases hr)
theorem MF {H : Heap} (hH : HR P μ F H w) : HR P μ F H.ro w := by
 refine ⟨hH.dom, hH.fb, fun b e h => ?_, fun b b' e e' L L' h h' hL hL' hb => ?_, hH.gl⟩
 ·obtain ⟨e0, h0, he⟩ := X9 hH h
  obtain ⟨L, hL, a⟩ := hH.ent b e0 h0
  refine ⟨L, hL, ?_⟩
  cases e0 <;> simp only [Ent.ro] at he <;> first | (cases he; done) | (simp only [Option.some.injEq] at he; subst he)
  ·obtain ⟨arr, fr, h1, h2, h3, h4, h5, c, d⟩ := a
   exact ⟨arr, fr, h1, h2, h3, h4, h5, fun h => (by cases h), fun _ => trivial⟩
  ·exact a.2
  ·exact a
 ·obtain ⟨e0, h0, -⟩ := X9 hH h
  obtain ⟨e1, h1, -⟩ := X9 hH h'
  exact hH.inj b b' e0 e1 L L' h0 h1 hL hL' hb
theorem apc {I : Nat → Prop} {H H2 H' : Heap} {μ' : Mu} {w' : World} (hH : HR P μ F H w) (h2 : ∀ b, H2.get b = H.ro.get b) (a : Stp I P μ F H2 w μ' F H' w') : ∀ c, c < w.heap.size → w'.heap[c]? = w.heap[c]? :=
 fun c hc => a.keep c hc fun b L ⟨e, he, hr⟩ _ => absurd ⟨e, h2 b ▸ he, hr⟩ (MD hH)
/-! ### Slots -/
theorem aey (W : List Nat) (T : Tm) : (fX W T).length = T.length := by simp [fX]
theorem qY {W : List Nat} {T : Tm} {i : Nat} (hi : i ∈ W) (hl : i < T.length) : (fX W T)[i]? = some .undef := by
 unfold fX
 rw [List.getElem?_map, List.getElem?_zipIdx, List.getElem?_eq_getElem hl]
 simp [hi]
theorem rM {vs : List Value} {i : Nat} {v : Value} (h : LR μ F w T vs) (hi : T[i]? = some .undef) : LR μ F w T (vs.set i v) := by
 have := h.set i (VR.undef (μ := μ) (F := F) (w := w) v)
 have e : T.set i .undef = T := by
  apply List.ext_getElem?
  intro j
  by_cases hj : i = j
  ·subst hj; rw [List.getElem?_set_self', hi]; rfl
  ·rw [List.getElem?_set_ne hj]
 rwa [e] at this
theorem ae0 {d : Nat} {v : Value} (h : LR μ F w T a.tmps.toList) (hi : T[d]? = some .undef) : LR μ F w T (a.put (some d) v).tmps.toList := by
 simp only [Act.put, Array.toList_setIfInBounds]
 exact rM h hi
theorem amg {d : Nat} {v : Value} (h : d < a.tmps.size) : (a.put (some d) v).eval (.tmp d) = v := by
 simp [Act.put, Act.eval, h]
theorem YZ {fence : Fence} {rd : Bool} (hF : FenceOK fence rd) {n : Nat} {ops : Array Oper} {Q : Exit → Act → World → Prop} {i : Nat} {rest : List Nat} {o : Oper} {u : Value} {w' : World} (hoi : ops[i]? = some o) (hg : o.guard = none) (hd : ∀ c, o.op ≠ .defer c)
  (b : qF P a w o u w') (hn : wpOpsIn fence n P ops Q rest (a.put o.dst u) w') : wpOpsIn fence n P ops Q (i :: rest) a w := by
 simp only [wpOpsIn, hoi]
 rw [if_pos (by unfold Region.wanted; rw [hg])]
 exact YL hF hd b hn
theorem aiu {ops : Array Oper} {pre : List Oper} {x : Operand} {it : Nat} (h : YY P ops = some (pre, x, it)) : ∃ o t, ops.toList = pre ++ [o] ∧ o.op = .range t x ∧ o.dst = some it ∧ o.guard = none ∧ rT P t = true := by
 unfold YY at h
 split at h
 ·rename_i hl
  split at h
  ·rename_i hm
   cases h
   obtain ⟨b, a⟩ := List.getLast?_eq_some_iff.1 hl
   have e : ∀ (o : Oper), ops.toList = b ++ [o] → ops.toList = ops.toList.dropLast ++ [o] := fun o h => by rw [h]; simp
   exact ⟨_, _, e _ a, rfl, rfl, rfl, hm⟩
  ·cases h
 ·cases h
theorem aix {ops : Array Oper} {it nx ex : Nat} (h : YM ops = some (it, nx, ex)) : ∃ a b, ops.toList = [a, b] ∧ a.op = .next (.tmp it) false ∧ a.dst = some nx ∧ a.guard = none ∧ b.op = .extract (.tmp nx) 0 ∧ b.dst = some ex ∧ b.guard = none := by
 unfold YM at h
 split at h
 ·rename_i hl
  split at h
  ·rename_i e
   cases h
   subst e
   exact ⟨_, _, hl, rfl, rfl, rfl, rfl, rfl, rfl⟩
  ·cases h
 ·cases h
theorem agy {ops : Array Oper} {it en : Nat} {os : List Oper} (h : XV ops = some (it, en, os)) : ∃ o, ops.toList = o :: os ∧ o.op = .entry (.tmp it) ∧ o.dst = some en ∧ o.guard = none := by
 unfold XV at h
 split at h
 ·rename_i hl
  cases h
  exact ⟨_, hl, rfl, rfl, rfl⟩
 ·cases h
theorem vB {H : Heap} (hH : HR P μ F H w) {id : Nat} (a : μ id = none) (i : id < H.next) {w' : World} (hk : ∀ c, c < w.heap.size → w'.heap[c]? = w.heap[c]?) (hs : w.heap.size < w'.heap.size) :
  HR P (μ.upd id ⟨w.heap.size, 0, 0⟩) F H w' := by
 have f : ∀ b e, H.get b = some e → b ≠ id := fun b e hb he => by
  subst he
  obtain ⟨L, hL, _⟩ := hH.ent _ e hb
  rw [a] at hL; cases hL
 have hF : ∀ c, F c → w'.heap[c]? = w.heap[c]? := fun c hc => hk c (hH.fb c hc)
 refine ⟨fun b L hb => ?_, fun c hc => by have := hH.fb c hc; omega, fun b e hb => ?_, fun b b' e e' L L' h1 h2 hL hL' he => ?_, fun g cs hg => (hH.gl g cs hg).mono (l8 a) (fun _ h => h) hF⟩
 ·by_cases e : b = id
  ·subst e
   rw [upd_same] at hb; cases hb
   exact ⟨i, hs⟩
  ·rw [i4 _ e] at hb
   have := hH.dom b L hb
   exact ⟨this.1, by omega⟩
 ·obtain ⟨L, hL, d⟩ := hH.ent b e hb
  exact ⟨L, l8 a _ _ hL, d.mono (l8 a) (fun _ h => h) hF (hk _ (hH.dom b L hL).2) fun hr => d.notF hr⟩
 ·rw [i4 _ (f b e h1)] at hL
  rw [i4 _ (f b' e' h2)] at hL'
  exact hH.inj b b' e e' L L' h1 h2 hL hL' he
structure RM (B : Nat × List Deferred) (μ : Mu) (F : Nat → Prop) (w1 : World) (mb clock : Nat) (T : Tm) (seen : Array Nat) (a : Act) (w : World) : Prop where
 it : w.heap[w1.heap.size]? = some (.mapIter (some mb) clock seen clock)
 keep : ∀ c, c < w1.heap.size → w.heap[c]? = w1.heap[c]?
 tape : w.tape = w1.tape
 os : w.os = w1.os
 out : w.output = w1.output
 hT : LR μ F w T a.tmps.toList
 hD : DM B μ F w a.defers
def yp (a : Array MapEntry) (r : Nat) (w : World) : Nat := match w.heap[r]? with
 | some (.mapIter _ _ seen _) => (leftOf a seen).size
 | _ => 0
theorem agz (w : World) (r a b : Nat) (seen : Array Nat) (es : Array MapEntry) (clock : Nat) (e : MapEntry)
  (hr : w.heap[r]? = some (.mapIter (some a) b (seen.push e.born) clock)) (hb : w.heap[a]? = some (.map es clock)) (he : e ∈ es.toList) :
  ∃ e' ∈ es.toList, (Instr.entry (.pointer (some ⟨r, 0, none⟩))).run P w = .ok (.tuple #[e'.key, e'.val]) w := by
 cases hf : es.find? (·.born == e.born) with
 | none =>
  exfalso
  rw [← Array.find?_toList, List.find?_eq_none] at hf
  exact hf e he (by simp)
 | some e' =>
  refine ⟨e', ?_, ?_⟩
  ·rw [← Array.find?_toList] at hf
   exact List.mem_of_find?_eq_some hf
  ·simp only [Instr.entry, getObj, Sem.run_bind, Sem.run, hr, hb, Result.andThen, Array.back?_push, bne_self_eq_false, Bool.false_eq_true, if_false, hf]
   rfl
def ao1 (b : dZ) (m : Nat) (rd : Bool) (en bid2 : Nat) (W : List Nat) (ops : List ROp) (rest : ACode) (T2 : Tm) (H1 : Heap) (p : AV × AV) : Bool :=
 match fN b (H1.next + 1) ops (T2.set en (.tup [p.1, p.2])) { H1.ro with next := H1.next + (ops.length + 1) } with
 | some (d, c) => match aZ b m rd rest d c with
  | some (.nrm, a, _) => AV.beqs (fX W a) T2
  | some (.exit i, a, _) => Nat.beq i bid2 && AV.beqs (fX W a) T2
  | _ => false
 | none => false
theorem aku {t : dZ} (aj : dQ P t) {m : Nat} {fence : Fence} {rd : Bool} (hF : FenceOK fence rd) {n : Nat} {B : Nat × List Deferred} {μ2 : Mu} {w1 : World} {id mb clock en bid2 : Nat} {W : List Nat} {T2 : Tm} {H1 : Heap}
  {i2 it : Nat} {d : Array Oper} {os : List Oper} {f : List ROp} {rest : Code} {A : ACode} {r : Array MapEntry} {es : List (AV × AV)}
  (am : XV d = some (it, en, os)) (X : os.mapM (jj P d) = some f) (ih : ∀ T H x G H', aZ t m rd A T H = some (x, G, H') → nK P rd rest T H x G H')
  (ap : eQ T2 it = .ptr id 0) (hμ : μ2 id = some ⟨w1.heap.size, 0, 0⟩) (hB : B.1 ≤ w1.heap.size)
  (ah : es.all (ao1 t m rd en bid2 W f A T2 H1) = true) (av : mb < w1.heap.size) (au : w1.heap[mb]? = some (.map r clock))
  (hk : LR μ2 F w1 (es.map (·.1)) (r.toList.map (·.key))) (hv : LR μ2 F w1 (es.map (·.2)) (r.toList.map (·.val))) (ao : ∀ c, F c → c < w1.heap.size)
  {seen : Array Nat} {e : MapEntry} (he : e ∈ r.toList) {a : Act} {w : World} (J : RM B μ2 F w1 mb clock T2 (seen.push e.born) a w) (ad : ∀ w', (∀ c, c < w1.heap.size → w'.heap[c]? = w1.heap[c]?) → w1.heap.size < w'.heap.size → HR P μ2 F H1 w')
  {Q : Exit → Act → World → Prop} (hQ : ∀ a' w', RM B μ2 F w1 mb clock T2 (seen.push e.born) a' w' → Q .normal a' w') :
  (Code.block bid2 (.seq (.region i2 d false) rest)).wpIn fence n P Q a w := by
 obtain ⟨o, C, U, ax, ay⟩ := agy am
 have S : w1.heap.size < w.heap.size := (Array.getElem?_eq_some_iff.1 J.it).1
 have v : HR P μ2 F H1 w := ad w J.keep S
 have M : ∀ c, F c → w.heap[c]? = w1.heap[c]? := fun c hc => J.keep c (ao c hc)
 refine wpIn_block (wpIn_seq (wpIn_region ?_))
 have hsz : d.size = os.length + 1 := by rw [← Array.length_toList, C]; rfl
 have ar : List.range d.size = 0 :: (List.range' 1 os.length ++ []) := by rw [hsz, List.range_eq_range', List.range'_succ, List.append_nil]
 rw [ar]
 have aw : d[0]? = some o := by
  have : d.toList[0]? = some o := by rw [C]; rfl
  simpa using this
 -- the entry
 have az : a.eval (.tmp it) = .pointer (some ⟨w1.heap.size, 0, none⟩) := by
  have := Ys J.hT it
  rw [ap] at this
  obtain ⟨L, hL, hp⟩ := CH this
  rw [hμ] at hL; cases hL
  exact hp
 obtain ⟨e', al, aC⟩ := agz (P := P) w w1.heap.size mb clock seen r clock e J.it ((J.keep mb av).trans au) he
 obtain ⟨j, hj⟩ := List.getElem?_of_mem al
 have aq : j < es.length := by
  have := hk.1; simp at this
  have := (List.getElem?_eq_some_iff.1 hj).1
  simp at this; omega
 obtain ⟨p, hp⟩ : ∃ p, es[j]? = some p := ⟨es[j], List.getElem?_eq_getElem aq⟩
 have aA : VR μ2 F w p.1 e'.key := (hk.2 j p.1 e'.key (by rw [List.getElem?_map, hp]; rfl) (by rw [List.getElem?_map, hj]; rfl)).mono (fun _ _ h => h) (fun _ h => h) M
 have aE : VR μ2 F w p.2 e'.val := (hv.2 j p.2 e'.val (by rw [List.getElem?_map, hp]; rfl) (by rw [List.getElem?_map, hj]; rfl)).mono (fun _ _ h => h) (fun _ h => h) M
 have aF : VR μ2 F w (.tup [p.1, p.2]) (.tuple #[e'.key, e'.val]) := by
  have := LR.cons aA (LR.cons aE (LR.nil (μ := μ2) (F := F) (w := w)))
  exact .tup _ _ rfl fun i c u h1 h2 => this.2 i c u h1 (by simpa using h2)
 have hE : qF P a w o (.tuple #[e'.key, e'.val]) w := by
  refine .inl ?_
  unfold execOp
  rw [U]
  simp only [az]
  exact cW aC
 refine YZ hF aw ay (fun c hc => by rw [U] at hc; cases hc) hE ?_
 rw [ax]
 -- the rest of the region
 have hok := List.all_eq_true.1 ah p (List.mem_of_getElem? hp)
 unfold ao1 at hok
 split at hok
 rotate_left
 ·cases hok
 rename_i I E aD
 have aB := MF v
 have ai : HR P μ2 F { H1.ro with next := H1.next + (f.length + 1) } w := aB.bump (f.length + 1)
 have hlen : os.length = f.length := by
  have := (CE _ _ X).1
  omega
 refine Y5 aj hF (n := n) (ops := d) (base := H1.next) (top := H1.next + (f.length + 1)) (tail := []) os f 1 (H1.next + 1) μ2 _ w _ _ (fun k o' h => ?_) X aD (by omega) (by omega) (by show H1.next + 1 + os.length ≤ H1.next + (f.length + 1); omega)
  (fun j h1 _ => pB v (by omega)) (B9 J.hT (some en) aF) ai (fun a3 w3 μ3 ak af ab y => ?_)
 ·have : d.toList[1 + k]? = some o' := by
   rw [C, show 1 + k = k + 1 by omega]; simpa using h
  simpa using this
 -- the round's own code
 have V : ∀ b, ({ H1.ro with next := H1.next + (f.length + 1) } : Heap).get b = H1.ro.get b := fun b => rfl
 have aG := apc v V y
 have aa : DM B μ2 F w ((a.put (some en) (.tuple #[e'.key, e'.val])).defers) := J.hD
 have Y : DM B μ3 F w3 a3.defers := by rw [ak]; exact aa.stp y
 have K : ∀ (x : Ex) (g : Tm) (l : Heap), (x = .nrm ∨ x = .exit bid2) → AV.beqs (fX W g) T2 = true → aZ t m rd A I E = some (x, g, l) → rest.wpIn fence n P (Exit.inBlock bid2 Q) a3 w3 := by
  intro x g l hx D s
  have D := AV.beqs_eq _ _ D
  refine ih I E x g l s fence n B μ3 F w3 a3 _ hF (by have := y.size; omega) ⟨af, ab, Y⟩ fun a4 z μ4 N ae => ?_
  have q := y.trans (ae.mono fun b hb => hb.elim)
  have R := apc v V q
  have O := amb (W := W) N.hT
  rw [D] at O
  have ag : LR μ2 F z T2 a4.tmps.toList := LR.back q.mu J.hT O
  have Z : DM B μ2 F z a4.defers := DM.back q.mu N.hD
  have : Q .normal a4 z := hQ a4 z ⟨(R _ S).trans J.it, fun c hc => (R c (by omega)).trans (J.keep c hc), q.tape.trans J.tape, q.os.trans J.os, q.out.trans J.out, ag, Z⟩
  rcases hx with rfl | rfl
  ·exact this
  ·simp only [oi, Exit.inBlock, if_true]; exact this
 show rest.wpIn fence n P (Exit.inBlock bid2 Q) a3 w3
 split at hok
 ·rename_i g l s; exact K _ g l (.inl rfl) hok s
 ·rename_i i g l s
  rw [Bool.and_eq_true] at hok
  have := Nat.eq_of_beq_eq_true hok.1
  subst this
  exact K _ g l (.inr rfl) hok.2 s
 ·cases hok
theorem ajz {P : Program} {ρ : Operand → Value} {o : Oper} {nx : Nat} {vs : Array Value} {v : Value} {w : World} (a : o.op = .extract (.tmp nx) 0) (hv : ρ (.tmp nx) = .tuple vs) (h0 : vs[0]? = some v) : (execOp ρ o).run P w = .ok (.value v) w := by
 unfold execOp
 rw [a]
 simp only [hv]
 refine cW ?_
 simp [Instr.extract, h0]
theorem ai0 {N : dZ} (ao : dQ P N) {m : Nat} {rd : Bool} {i0 i1 i2 bid bid2 it nx ex en : Nat} {p q G : Array Oper} {pre os : List Oper} {x : Operand} {sx : Src} {f aB : List ROp} {rest : Code} {aj : ACode} {W : List Nat}
  (h0 : YY P p = some (pre, x, it)) (h1 : YM q = some (it, nx, ex)) (h2 : XV G = some (it, en, os)) (ab : bid ≠ bid2 ∧ nx ≠ it ∧ ex ≠ it ∧ en ≠ it)
  (ay : pre.mapM (jj P p) = some f) (a0 : os.mapM (jj P G) = some aB) (a5 : cH x = some sx)
  (ih : ∀ T H x v H', aZ N m rd aj T H = some (x, v, H') → nK P rd rest T H x v H')
  {T : Tm} {H : Heap} {xx : Ex} {v : Tm} {H' : Heap} (g : aZ N m rd (.rangeM f sx it nx ex bid bid2 en aB aj W) T H = some (xx, v, H')) :
  nK P rd (.seq (.region i0 p false) (.block bid (.loop (.seq (.region i1 q false) (.seq (.cond (.tmp ex) .skip (.exit bid)) (.block bid2 (.seq (.region i2 G false) rest))))))) T H xx v H' := by
 intro fence n B μ F w a Q hF hB y hQ
 simp only [aZ] at g
 split at g
 ·cases g
 rename_i K H1 a2
 split at g
 rotate_left
 ·cases g
 rename_i b a8
 split at g
 rotate_left
 ·cases g
 rename_i es aG
 split at g
 rotate_left
 ·cases g
 rename_i ap
 cases g
 simp only [Bool.and_eq_true] at ap
 obtain ⟨C, aw, ar, aq, am⟩ := ap
 have C := AV.beq_eq _ _ C
 have aw := Nat.le_of_ble_eq_true aw
 have ar := Nat.le_of_ble_eq_true ar
 have aq := Nat.le_of_ble_eq_true aq
 obtain ⟨o, t, ad, ax, aU, aV, aa⟩ := aiu h0
 obtain ⟨o1, o2, ae, n1, n2, n3, e1, e2, e3⟩ := aix h1
 have bf : pre.length = f.length := by have := (CE _ _ ay).1; omega
 have hsz : p.size = pre.length + 1 := by rw [← Array.length_toList, ad]; simp
 refine wpIn_seq (wpIn_region ?_)
 have aP : List.range p.size = List.range' 0 pre.length ++ [pre.length] := by rw [hsz, List.range_succ, List.range_eq_range']
 rw [aP]
 refine Y5 ao hF (n := n) (ops := p) (base := H.next) (top := H.next + pre.length) (tail := [pre.length]) pre f 0 H.next μ { H with next := H.next + (f.length + 1) } w T a (fun k o' h => ?_) ay a2 (Nat.le_refl _) (Nat.le_refl _) (by show H.next + pre.length ≤ H.next + (f.length + 1); omega)
  (fun j h1 _ => pB y.hH (by omega)) y.hT (y.hH.bump _) (fun a1 w1 μ1 aI al s z => ?_)
 ·have Y := (List.getElem?_eq_some_iff.1 h).1
  have : p.toList[0 + k]? = some o' := by rw [ad, Nat.zero_add, List.getElem?_append_left Y]; exact h
  simpa using this
 -- the iterator
 have V : μ1 (H.next + f.length) = none := z.new _ (by show H.next + f.length < H.next + (f.length + 1); omega) (by omega) (pB y.hH (by omega))
 have Y : H.next + f.length < H'.next := by have := z.next; show H.next + f.length < H'.next; have e : ({ H with next := H.next + (f.length + 1) } : Heap).next = H.next + (f.length + 1) := rfl; omega
 generalize ba : H.next + f.length = id at *
 have ah := fw al a5
 rw [a8] at ah
 obtain ⟨L, hL, a9⟩ : ∃ L, μ1 b = some L ∧ a1.eval x = .map (some L.blk) := by
  generalize a1.eval x = vx at ah
  cases ah with
  | map _ L hL => exact ⟨L, hL, rfl⟩
 obtain ⟨L', hL', R⟩ := s.ent b _ aG
 rw [hL] at hL'; cases hL'
 obtain ⟨bc, l, clock, Z, hk, hv, aH⟩ := R
 have au : L.blk < w1.heap.size := (s.dom b L hL).2
 obtain ⟨kt, O, ht⟩ : ∃ kt O, P.underlying t = some (.map kt O) := by
  unfold rT at aa
  split at aa
  ·rename_i k e hk; exact ⟨k, e, hk⟩
  ·cases aa
 have hoi : p[pre.length]? = some o := by
  have : p.toList[pre.length]? = some o := by rw [ad]; simp
  simpa using this
 have aY : qF P a1 w1 o (.pointer (some ⟨w1.heap.size, 0, none⟩)) (w1.alloc (.mapIter (some L.blk) clock #[] clock)) := by
  refine .inl ?_
  unfold execOp
  rw [ax]
  simp only [a9]
  exact cW (run_range_map w1 t kt O L.blk l clock ht Z)
 refine YZ hF hoi aV (fun c hc => by rw [ax] at hc; cases hc) aY ?_
 rw [aU]
 -- the loop
 obtain ⟨μ2, r⟩ : ∃ μ2, μ2 = μ1.upd id ⟨w1.heap.size, 0, 0⟩ := ⟨_, rfl⟩
 have I : ∀ b L, μ1 b = some L → μ2 b = some L := by rw [r]; exact l8 V
 have E : μ2 id = some ⟨w1.heap.size, 0, 0⟩ := by rw [r]; exact upd_same _ _
 have aE : ∀ {w' : World}, (∀ c, c < w1.heap.size → w'.heap[c]? = w1.heap[c]?) → ∀ c, F c → w'.heap[c]? = w1.heap[c]? := fun h c hc => h c (s.fb c hc)
 have ak : ∀ w', (∀ c, c < w1.heap.size → w'.heap[c]? = w1.heap[c]?) → w1.heap.size < w'.heap.size → HR P μ2 F H' w' := fun w' hk hs => by rw [r]; exact vB s V Y hk hs
 have X : ∀ c, c < w1.heap.size → (w1.alloc (.mapIter (some L.blk) clock #[] clock)).heap[c]? = w1.heap[c]? := fun c hc => Y9 _ _ hc
 obtain ⟨T2, A⟩ : ∃ T2, T2 = fX (nx :: ex :: en :: W) (K.set it (.ptr id 0)) := ⟨_, rfl⟩
 rw [← A] at C am
 have bb : T2.length = K.length := by rw [A, aey, List.length_set]
 have az : ∀ {i : Nat}, i ∈ nx :: ex :: en :: W → i < K.length → T2[i]? = some .undef := fun h1 h2 => by rw [A]; exact qY h1 (by simpa using h2)
 have J0 : RM B μ2 F w1 L.blk clock T2 #[] (a1.put (some it) (.pointer (some ⟨w1.heap.size, 0, none⟩))) (w1.alloc (.mapIter (some L.blk) clock #[] clock)) := by
  refine ⟨heap_alloc_new w1 _, X, rfl, rfl, rfl, ?_, ?_⟩
  ·rw [A]
   exact amb (B9 (al.mono I (fun _ h => h) (aE X)) (some it) (.ptr id 0 _ E))
  ·have hd : DM B μ1 F w1 a1.defers := by rw [aI]; exact y.hD.stp z
   obtain ⟨Ds, g1, g2, g3⟩ := hd
   refine ⟨Ds, g1, g2, fun D hD => ?_⟩
   obtain ⟨k1, k2, k3, k4, k5⟩ := g3 D hD
   refine ⟨k1, by rw [World.size_alloc]; omega, (X D k2).trans k3, k4, fun b L hb => ?_⟩
   by_cases e : b = id
   ·subst e; rw [E] at hb; cases hb; show w1.heap.size ≠ D; omega
   ·rw [r, i4 _ e] at hb; exact k5 b L hb
 have aC : B.1 ≤ w1.heap.size := Nat.le_trans hB z.size
 have aK : ∀ d w' seen, RM B μ2 F w1 L.blk clock T2 seen d w' → Q .normal d w' := by
  intro d w' seen J
  have aQ : w1.heap.size < w'.heap.size := (Array.getElem?_eq_some_iff.1 J.it).1
  have ab : ∀ b e, H'.get b = some e → b ≠ id := fun b e hb he => by
   subst he
   obtain ⟨L, hL, _⟩ := s.ent _ e hb
   rw [V] at hL; cases hL
  have R : Stp (fun b => H.next ≤ b) P μ1 F H' w1 μ2 F H' w' :=
   ⟨I, fun _ h => h, by omega, fun c hc _ => J.keep c hc, fun b L ⟨e, he, hr⟩ hb => by
     rw [r, i4 _ (ab b e he)] at hb
     exact .inr ⟨b, L, ⟨e, he, hr⟩, hb, rfl⟩, Nat.le_refl _, fun b hb hi hn => by
     rw [r, i4 _ (by omega)]; exact hn, fun b L hb => by
     by_cases e : b = id
     ·subst e; rw [E] at hb; cases hb; exact .inr (Nat.le_refl _)
     ·rw [r, i4 _ e] at hb; exact .inl ⟨b, L, hb, rfl⟩, fun b e he _ _ => ⟨e, he⟩, fun b e L he hb => by
     rw [r, i4 _ (ab b e he)] at hb
     exact .inr ⟨b, e, L, he, hb, rfl⟩, J.tape, J.os, J.out⟩
  have hst : Stp fB P μ F H w μ2 F H' w' := XN (Stp.refl _ _ _ _ _ _) ((z.mono fun b hb => hb.1).trans R)
  rw [A] at J
  exact hQ d w' μ2 ⟨J.hT, ak w' J.keep aQ, J.hD⟩ hst
 refine wpIn_block (wpIn_loop (fun a w => ∃ seen, RM B μ2 F w1 L.blk clock T2 seen a w) (fun _ w => yp l w1.heap.size w) ⟨#[], J0⟩ fun a w ⟨seen, J⟩ => ?_)
 have aR : w1.heap.size < w.heap.size := (Array.getElem?_eq_some_iff.1 J.it).1
 have a6 : q.size = 2 := by rw [← Array.length_toList, ae]; rfl
 have aM : q[0]? = some o1 := by
  have : q.toList[0]? = some o1 := by rw [ae]; rfl
  simpa using this
 have aN : q[1]? = some o2 := by
  have : q.toList[1]? = some o2 := by rw [ae]; rfl
  simpa using this
 have bg : T2.length = a.tmps.size := by have := J.hT.1; simpa using this
 have aX : a.eval (.tmp it) = .pointer (some ⟨w1.heap.size, 0, none⟩) := by
  have := Ys J.hT it
  rw [C] at this
  obtain ⟨L, hL, hp⟩ := CH this
  rw [E] at hL; cases hL
  exact hp
 refine wpIn_seq (wpIn_region ?_)
 rw [a6]
 -- the step, whatever comes out of it
 have step : ∀ (tp : Array Value) (M : Bool) (w' : World), tp[0]? = some (.bool M) → (Instr.next (.pointer (some ⟨w1.heap.size, 0, none⟩)) false o1.type).run P w = .ok (.tuple tp) w' →
   (∀ d, d.defers = a.defers → d.eval (.tmp ex) = .bool M → (LR μ2 F w' T2 a.tmps.toList → LR μ2 F w' T2 d.tmps.toList) → (Code.seq (.cond (.tmp ex) .skip (.exit bid)) (.block bid2 (.seq (.region i2 G false) rest))).wpIn fence n P
    (Exit.then (fun d w' => (∃ seen, RM B μ2 F w1 L.blk clock T2 seen d w') ∧ yp l w1.heap.size w' < yp l w1.heap.size w) (Exit.inBlock bid Q)) d w') →
   wpOpsIn fence n P q (Exit.then ((Code.seq (.cond (.tmp ex) .skip (.exit bid)) (.block bid2 (.seq (.region i2 G false) rest))).wpIn fence n P
    (Exit.then (fun d w' => (∃ seen, RM B μ2 F w1 L.blk clock T2 seen d w') ∧ yp l w1.heap.size w' < yp l w1.heap.size w) (Exit.inBlock bid Q)))
    (Exit.then (fun d w' => (∃ seen, RM B μ2 F w1 L.blk clock T2 seen d w') ∧ yp l w1.heap.size w' < yp l w1.heap.size w) (Exit.inBlock bid Q))) (List.range 2) a w := by
  intro tp M w' a7 g hk
  show wpOpsIn fence n P q _ [0, 1] a w
  refine YZ hF aM n3 (fun c hc => by rw [n1] at hc; cases hc) (u := .tuple tp) (w' := w') (.inl ?_) ?_
  ·unfold execOp
   rw [n1]
   simp only [aX]
   exact cW g
  rw [n2]
  have aT : nx < a.tmps.size := by omega
  refine YZ hF aN e3 (fun c hc => by rw [e1] at hc; cases hc) (.inl (ajz e1 (amg aT) a7)) ?_
  rw [e2]
  refine hk _ rfl (amg (by simp [Act.put]; omega)) fun hT => ?_
  exact ae0 (ae0 hT (az (by simp) (by omega))) (az (by simp) (by omega))
 have aS : w.heap[L.blk]? = some (.map l clock) := (J.keep _ au).trans Z
 rcases run_next_at (P := P) w o1.type w1.heap.size L.blk clock clock seen l clock J.it aS aH.1 (Nat.le_refl _) with ⟨-, aW⟩ | ⟨e, he, wd, aA, av⟩
 ·refine step _ false w rfl aW fun d hd S hT => ?_
  refine wpIn_seq (wpIn_cond_false S (wpIn_exit ?_))
  show Exit.inBlock bid Q (.exit bid) d w
  simp only [Exit.inBlock, if_true]
  exact aK d w seen ⟨J.it, J.keep, J.tape, J.os, J.out, hT J.hT, hd ▸ J.hD⟩
 ·obtain ⟨aL, bd⟩ := mem_left he
  have aJ : wd.heap = w.heap := by rcases aA with rfl | rfl <;> rfl
  obtain ⟨w', ai⟩ : ∃ w', w' = ChangeMaps.setBlock wd w1.heap.size (.mapIter (some L.blk) clock (seen.push e.born) clock) := ⟨_, rfl⟩
  rw [← ai] at av
  have U : w'.heap = w.heap.setIfInBounds w1.heap.size (.mapIter (some L.blk) clock (seen.push e.born) clock) := by rw [ai, ← aJ]; rfl
  have af : ∀ c, c ≠ w1.heap.size → w'.heap[c]? = w.heap[c]? := fun c hc => by rw [U, Array.getElem?_setIfInBounds_ne (Ne.symm hc)]
  have a3 : w'.heap[w1.heap.size]? = some (.mapIter (some L.blk) clock (seen.push e.born) clock) := by rw [U]; simp [aR]
  have ag : w'.tape = w.tape ∧ w'.os = w.os ∧ w'.output = w.output := by rw [ai]; rcases aA with rfl | rfl <;> exact ⟨rfl, rfl, rfl⟩
  refine step _ true w' rfl av fun d hd S hT => ?_
  have aO : ∀ c, c < w1.heap.size → w'.heap[c]? = w1.heap[c]? := fun c hc => (af c (by omega)).trans (J.keep c hc)
  have aF : LR μ2 F w' T2 a.tmps.toList := J.hT.mono (fun _ _ h => h) (fun _ h => h) fun c hc => af c (by have := s.fb c hc; omega)
  have aD : DM B μ2 F w' d.defers := by
   rw [hd]
   refine J.hD.keep (by rw [U]; simp) fun D hD => af D fun e => ?_
   rw [e, J.it] at hD; cases hD
  have J' : RM B μ2 F w1 L.blk clock T2 (seen.push e.born) d w' := ⟨a3, aO, ag.1.trans J.tape, ag.2.1.trans J.os, ag.2.2.trans J.out, hT aF, aD⟩
  refine wpIn_seq (wpIn_cond_true S (wpIn_skip ?_))
  refine aku ao hF (B := B) (μ2 := μ2) (w1 := w1) (id := id) (mb := L.blk) (clock := clock) (en := en) (bid2 := bid2) (W := nx :: ex :: en :: W) (T2 := T2) (H1 := H') h2 a0 ih C E aC am au Z
   (hk.mono I (fun _ h => h) fun _ _ => rfl) (hv.mono I (fun _ h => h) fun _ _ => rfl) s.fb aL J' ak fun a4 w4 J4 => ?_
  refine ⟨⟨_, J4⟩, ?_⟩
  unfold yp
  rw [J4.it, J.it]
  exact left_shrinks l seen e he
end
end Go.Proofs.YtopigipibioclaaGreatDoor.Ev
