/- The evaluator, a part. -/
import Derived.Test.YtcmbokfnglkfnaaGreatDoorEvDraw6
import Derived.Scope
import Derived.Maps.RangeRun
namespace Go.Proofs.YtcmbokfnglkfnaaGreatDoor.Ev
open Go
set_option linter.all false
def exOf : Ex → Exit
 | .nrm => .normal
 | .exit i => .exit i
 | .goto l => .goto l
 | .ret => .ret
def DM (B : Nat × List Deferred) (μ : Mu) (F : Nat → Prop) (w : World) (ds : List Deferred) : Prop :=
 ∃ Ds : List Nat, ds = Ds.map (fun D => { target := .collected D, args := #[] }) ++ B.2 ∧ Ds.Nodup ∧
  ∀ D ∈ Ds, B.1 ≤ D ∧ D < w.heap.size ∧ w.heap[D]? = some (.deferred (some [])) ∧ ¬ F D ∧ ∀ b L, μ b = some L → L.blk ≠ D
section
variable {P : Program} {μ : Mu} {F : Nat → Prop} {H : Heap} {w : World} {T : Tm} {a : Act} {B : Nat × List Deferred}
theorem DM.nil {B : Nat × List Deferred} : DM B μ F w B.2 := ⟨[], rfl, List.nodup_nil, fun D h => by cases h⟩
theorem DM.stp {I : Nat → Prop} {μ' : Mu} {H' : Heap} {w' : World} {ds : List Deferred} (h : DM B μ F w ds) (hS : Stp I P μ F H w μ' F H' w') : DM B μ' F w' ds := by
 obtain ⟨Ds, h1, h2, h3⟩ := h
 refine ⟨Ds, h1, h2, fun D hD => ?_⟩
 obtain ⟨g1, g2, g3, g4, g5⟩ := h3 D hD
 refine ⟨g1, Nat.lt_of_lt_of_le g2 hS.size, ?_, g4, fun b L hb => ?_⟩
 ·rw [hS.keep D g2 fun b L _ hL => g5 b L hL]; exact g3
 ·rcases hS.rng b L hb with ⟨b0, L0, h0, e⟩ | hge
  ·rw [← e]; exact g5 b0 L0 h0
  ·omega
structure StR (P : Program) (B : Nat × List Deferred) (μ : Mu) (F : Nat → Prop) (H : Heap) (w : World) (T : Tm) (a : Act) : Prop where
 hT : LR μ F w T a.tmps.toList
 hH : HR P μ F H w
 hD : DM B μ F w a.defers
def abd (P : Program) (rd : Bool) (c : Code) (T : Tm) (H : Heap) (x : Ex) (T' : Tm) (H' : Heap) : Prop :=
 ∀ (fence : Fence) (n : Nat) (B : Nat × List Deferred) (μ : Mu) (F : Nat → Prop) (w : World) (a : Act) (Q : Exit → Act → World → Prop), FenceOK fence rd → B.1 ≤ w.heap.size → StR P B μ F H w T a →
  (∀ a' w' μ', StR P B μ' F H' w' T' a' → Stp NoI P μ F H w μ' F H' w' → Q (exOf x) a' w') → c.wpIn fence n P Q a w
theorem DM.back {μ' : Mu} {ds : List Deferred} (hμ : ∀ b L, μ b = some L → μ' b = some L) (h : DM B μ' F w ds) : DM B μ F w ds := by
 obtain ⟨Ds, h1, h2, h3⟩ := h
 exact ⟨Ds, h1, h2, fun D hD => ⟨(h3 D hD).1, (h3 D hD).2.1, (h3 D hD).2.2.1, (h3 D hD).2.2.2.1, fun b L hb => (h3 D hD).2.2.2.2 b L (hμ b L hb)⟩⟩
theorem DM.keep {w' : World} {ds : List Deferred} (h : DM B μ F w ds) (hs : w.heap.size ≤ w'.heap.size) (hw : ∀ (D : Nat), w.heap[D]? = some (.deferred (some [])) → w'.heap[D]? = w.heap[D]?) : DM B μ F w' ds := by
 obtain ⟨Ds, h1, h2, h3⟩ := h
 refine ⟨Ds, h1, h2, fun D hD => ?_⟩
 obtain ⟨g1, g2, g3, g4, g5⟩ := h3 D hD
 exact ⟨g1, Nat.lt_of_lt_of_le g2 hs, (hw D g3).trans g3, g4, g5⟩
/-! ### Read alone -/
theorem alu {H : Heap} (hH : HR P μ F H w) {b : Nat} {e : Ent} (h : H.ro.get b = some e) : ∃ e0, H.get b = some e0 ∧ e0.ro = some e := by
 rw [Heap.get_ro] at h
 split at h
 ·cases hg : H.get b with
  | none => rw [hg] at h; cases h
  | some e0 => rw [hg] at h; exact ⟨e0, rfl, h⟩
 ·rename_i hlt
  obtain ⟨L, hL, _⟩ := hH.ent b e h
  have := (hH.dom b L hL).1
  omega
theorem ro_rw {H : Heap} (hH : HR P μ F H w) {b : Nat} : ¬ H.ro.rwAt b := by
 rintro ⟨e, h, hr⟩
 obtain ⟨e0, -, h0⟩ := alu hH h
 cases e0 <;> simp only [Ent.ro] at h0 <;> first | (cases h0; done) | (simp only [Option.some.injEq] at h0; subst h0; cases hr)
theorem ro_hr {H : Heap} (hH : HR P μ F H w) : HR P μ F H.ro w := by
 refine ⟨hH.dom, hH.fb, fun b e h => ?_, fun b b' e e' L L' h h' hL hL' hb => ?_, hH.gl⟩
 ·obtain ⟨e0, h0, he⟩ := alu hH h
  obtain ⟨L, hL, hE⟩ := hH.ent b e0 h0
  refine ⟨L, hL, ?_⟩
  cases e0 <;> simp only [Ent.ro] at he <;> first | (cases he; done) | (simp only [Option.some.injEq] at he; subst he)
  ·obtain ⟨arr, fr, h1, h2, h3, h4, h5, h6, h7⟩ := hE
   exact ⟨arr, fr, h1, h2, h3, h4, h5, fun h => (by cases h), fun _ => trivial⟩
  ·exact hE.2
  ·exact hE
 ·obtain ⟨e0, h0, -⟩ := alu hH h
  obtain ⟨e1, h1, -⟩ := alu hH h'
  exact hH.inj b b' e0 e1 L L' h0 h1 hL hL' hb
theorem an5 {I : Nat → Prop} {H H2 H' : Heap} {μ' : Mu} {w' : World} (hH : HR P μ F H w) (h2 : ∀ b, H2.get b = H.ro.get b) (hS : Stp I P μ F H2 w μ' F H' w') : ∀ c, c < w.heap.size → w'.heap[c]? = w.heap[c]? :=
 fun c hc => hS.keep c hc fun b L ⟨e, he, hr⟩ _ => absurd ⟨e, h2 b ▸ he, hr⟩ (ro_rw hH)
/-! ### Slots -/
theorem ae9 (W : List Nat) (T : Tm) : (weakT W T).length = T.length := by simp [weakT]
theorem weakT_at {W : List Nat} {T : Tm} {i : Nat} (hi : i ∈ W) (hl : i < T.length) : (weakT W T)[i]? = some .undef := by
 unfold weakT
 rw [List.getElem?_map, List.getElem?_zipIdx, List.getElem?_eq_getElem hl]
 simp [hi]
theorem lr_undef {vs : List Value} {i : Nat} {v : Value} (h : LR μ F w T vs) (hi : T[i]? = some .undef) : LR μ F w T (vs.set i v) := by
 have := h.set i (VR.undef (μ := μ) (F := F) (w := w) v)
 have e : T.set i .undef = T := by
  apply List.ext_getElem?
  intro j
  by_cases hj : i = j
  ·subst hj; rw [List.getElem?_set_self', hi]; rfl
  ·rw [List.getElem?_set_ne hj]
 rwa [e] at this
theorem ae3 {d : Nat} {v : Value} (h : LR μ F w T a.tmps.toList) (hi : T[d]? = some .undef) : LR μ F w T (a.put (some d) v).tmps.toList := by
 simp only [Act.put, Array.toList_setIfInBounds]
 exact lr_undef h hi
theorem alr {d : Nat} {v : Value} (h : d < a.tmps.size) : (a.put (some d) v).eval (.tmp d) = v := by
 simp [Act.put, Act.eval, h]
theorem adr {fence : Fence} {rd : Bool} (hF : FenceOK fence rd) {n : Nat} {ops : Array Oper} {Q : Exit → Act → World → Prop} {i : Nat} {rest : List Nat} {o : Oper} {u : Value} {w' : World} (hoi : ops[i]? = some o) (hg : o.guard = none) (hd : ∀ c, o.op ≠ .defer c)
  (hE : Ends P a w o u w') (hn : wpOpsIn fence n P ops Q rest (a.put o.dst u) w') : wpOpsIn fence n P ops Q (i :: rest) a w := by
 simp only [wpOpsIn, hoi]
 rw [if_pos (by unfold Region.wanted; rw [hg])]
 exact adp hF hd hE hn
theorem ah4 {ops : Array Oper} {pre : List Oper} {x : Operand} {it : Nat} (h : ad4 P ops = some (pre, x, it)) : ∃ o t, ops.toList = pre ++ [o] ∧ o.op = .range t x ∧ o.dst = some it ∧ o.guard = none ∧ isMap P t = true := by
 unfold ad4 at h
 split at h
 ·rename_i hl
  split at h
  ·rename_i hm
   cases h
   obtain ⟨ys, hys⟩ := List.getLast?_eq_some_iff.1 hl
   have e : ∀ (o : Oper), ops.toList = ys ++ [o] → ops.toList = ops.toList.dropLast ++ [o] := fun o h => by rw [h]; simp
   exact ⟨_, _, e _ hys, rfl, rfl, rfl, hm⟩
  ·cases h
 ·cases h
theorem aik {ops : Array Oper} {it nx ex : Nat} (h : ad5 ops = some (it, nx, ex)) : ∃ o1 o2, ops.toList = [o1, o2] ∧ o1.op = .next (.tmp it) false ∧ o1.dst = some nx ∧ o1.guard = none ∧ o2.op = .extract (.tmp nx) 0 ∧ o2.dst = some ex ∧ o2.guard = none := by
 unfold ad5 at h
 split at h
 ·rename_i hl
  split at h
  ·rename_i e
   cases h
   subst e
   exact ⟨_, _, hl, rfl, rfl, rfl, rfl, rfl, rfl⟩
  ·cases h
 ·cases h
theorem agw {ops : Array Oper} {it en : Nat} {os : List Oper} (h : ab6 ops = some (it, en, os)) : ∃ o, ops.toList = o :: os ∧ o.op = .entry (.tmp it) ∧ o.dst = some en ∧ o.guard = none := by
 unfold ab6 at h
 split at h
 ·rename_i hl
  cases h
  exact ⟨_, hl, rfl, rfl, rfl⟩
 ·cases h
theorem name_hr {H : Heap} (hH : HR P μ F H w) {id : Nat} (hid : μ id = none) (hlt : id < H.next) {w' : World} (hk : ∀ c, c < w.heap.size → w'.heap[c]? = w.heap[c]?) (hs : w.heap.size < w'.heap.size) :
  HR P (μ.upd id ⟨w.heap.size, 0, 0⟩) F H w' := by
 have hne : ∀ b e, H.get b = some e → b ≠ id := fun b e hb he => by
  subst he
  obtain ⟨L, hL, _⟩ := hH.ent _ e hb
  rw [hid] at hL; cases hL
 have hF : ∀ c, F c → w'.heap[c]? = w.heap[c]? := fun c hc => hk c (hH.fb c hc)
 refine ⟨fun b L hb => ?_, fun c hc => by have := hH.fb c hc; omega, fun b e hb => ?_, fun b b' e e' L L' h1 h2 hL hL' he => ?_, fun g cs hg => (hH.gl g cs hg).mono (aaq hid) (fun _ h => h) hF⟩
 ·by_cases e : b = id
  ·subst e
   rw [upd_same] at hb; cases hb
   exact ⟨hlt, hs⟩
  ·rw [aab _ e] at hb
   have := hH.dom b L hb
   exact ⟨this.1, by omega⟩
 ·obtain ⟨L, hL, hE⟩ := hH.ent b e hb
  exact ⟨L, aaq hid _ _ hL, hE.mono (aaq hid) (fun _ h => h) hF (hk _ (hH.dom b L hL).2) fun hr => hE.notF hr⟩
 ·rw [aab _ (hne b e h1)] at hL
  rw [aab _ (hne b' e' h2)] at hL'
  exact hH.inj b b' e e' L L' h1 h2 hL hL' he
structure RM (B : Nat × List Deferred) (μ : Mu) (F : Nat → Prop) (w1 : World) (mb clock : Nat) (T : Tm) (seen : Array Nat) (a : Act) (w : World) : Prop where
 it : w.heap[w1.heap.size]? = some (.mapIter (some mb) clock seen clock)
 keep : ∀ c, c < w1.heap.size → w.heap[c]? = w1.heap[c]?
 tape : w.tape = w1.tape
 os : w.os = w1.os
 out : w.output = w1.output
 hT : LR μ F w T a.tmps.toList
 hD : DM B μ F w a.defers
def abu (entries : Array MapEntry) (r : Nat) (w : World) : Nat := match w.heap[r]? with
 | some (.mapIter _ _ seen _) => (leftOf entries seen).size
 | _ => 0
theorem agt (w : World) (r bm since : Nat) (seen : Array Nat) (es : Array MapEntry) (clock : Nat) (e : MapEntry)
  (hr : w.heap[r]? = some (.mapIter (some bm) since (seen.push e.born) clock)) (hb : w.heap[bm]? = some (.map es clock)) (he : e ∈ es.toList) :
  ∃ e' ∈ es.toList, (Instr.entry (.pointer (some ⟨r, 0, none⟩))).run P w = .ok (.tuple #[e'.key, e'.val]) w := by
 cases hf : es.find? (·.born == e.born) with
 | none =>
  exfalso
  rw [← Array.find?_toList, List.find?_eq_none] at hf
  exact hf e he (by simp)
 | some e' =>
  refine ⟨e', ?_, ?_⟩
  ·rw [← Array.find?_toList] at hf
   exact List.mem_of_find?_eq_some hf
  ·simp only [Instr.entry, getObj, Sem.run_bind, Sem.run, hr, hb, Result.andThen, Array.back?_push, bne_self_eq_false, Bool.false_eq_true, if_false, hf]
   rfl
def aog (cal : Cal) (m : Nat) (rd : Bool) (en bid2 : Nat) (W : List Nat) (ops : List ROp) (rest : ACode) (T2 : Tm) (H1 : Heap) (p : AV × AV) : Bool :=
 match opsA cal (H1.next + 1) ops (T2.set en (.tup [p.1, p.2])) { H1.ro with next := H1.next + (ops.length + 1) } with
 | some (T3, H3) => match codeA cal m rd rest T3 H3 with
  | some (.nrm, T4, _) => AV.beqs (weakT W T4) T2
  | some (.exit i, T4, _) => Nat.beq i bid2 && AV.beqs (weakT W T4) T2
  | _ => false
 | none => false
theorem alb {cal : Cal} (hcal : CalOK P cal) {m : Nat} {fence : Fence} {rd : Bool} (hF : FenceOK fence rd) {n : Nat} {B : Nat × List Deferred} {μ2 : Mu} {w1 : World} {id mb clock en bid2 : Nat} {W : List Nat} {T2 : Tm} {H1 : Heap}
  {i2 it : Nat} {ops2 : Array Oper} {os : List Oper} {ros : List ROp} {rest : Code} {arest : ACode} {entries : Array MapEntry} {es : List (AV × AV)}
  (hen : ab6 ops2 = some (it, en, os)) (hros : os.mapM (cROp P ops2) = some ros) (ih : ∀ T H x T' H', codeA cal m rd arest T H = some (x, T', H') → abd P rd rest T H x T' H')
  (hit : getT T2 it = .ptr id 0) (hμ : μ2 id = some ⟨w1.heap.size, 0, 0⟩) (hB : B.1 ≤ w1.heap.size)
  (hall : es.all (aog cal m rd en bid2 W ros arest T2 H1) = true) (hmb : mb < w1.heap.size) (hmap : w1.heap[mb]? = some (.map entries clock))
  (hk : LR μ2 F w1 (es.map (·.1)) (entries.toList.map (·.key))) (hv : LR μ2 F w1 (es.map (·.2)) (entries.toList.map (·.val))) (hfb : ∀ c, F c → c < w1.heap.size)
  {seen : Array Nat} {e : MapEntry} (he : e ∈ entries.toList) {a : Act} {w : World} (J : RM B μ2 F w1 mb clock T2 (seen.push e.born) a w) (hHw : ∀ w', (∀ c, c < w1.heap.size → w'.heap[c]? = w1.heap[c]?) → w1.heap.size < w'.heap.size → HR P μ2 F H1 w')
  {Q : Exit → Act → World → Prop} (hQ : ∀ a' w', RM B μ2 F w1 mb clock T2 (seen.push e.born) a' w' → Q .normal a' w') :
  (Code.block bid2 (.seq (.region i2 ops2 false) rest)).wpIn fence n P Q a w := by
 obtain ⟨o, hops, ho1, ho2, ho3⟩ := agw hen
 have hlt : w1.heap.size < w.heap.size := (Array.getElem?_eq_some_iff.1 J.it).1
 have hHw0 : HR P μ2 F H1 w := hHw w J.keep hlt
 have hFw : ∀ c, F c → w.heap[c]? = w1.heap[c]? := fun c hc => J.keep c (hfb c hc)
 refine wpIn_block (wpIn_seq (wpIn_region ?_))
 have hsz : ops2.size = os.length + 1 := by rw [← Array.length_toList, hops]; rfl
 have hlist : List.range ops2.size = 0 :: (List.range' 1 os.length ++ []) := by rw [hsz, List.range_eq_range', List.range'_succ, List.append_nil]
 rw [hlist]
 have ho0 : ops2[0]? = some o := by
  have : ops2.toList[0]? = some o := by rw [hops]; rfl
  simpa using this
 -- the entry
 have hptr : a.eval (.tmp it) = .pointer (some ⟨w1.heap.size, 0, none⟩) := by
  have := ah1 J.hT it
  rw [hit] at this
  obtain ⟨L, hL, hp⟩ := aex this
  rw [hμ] at hL; cases hL
  exact hp
 obtain ⟨e', he', hrun⟩ := agt (P := P) w w1.heap.size mb clock seen entries clock e J.it ((J.keep mb hmb).trans hmap) he
 obtain ⟨j, hj⟩ := List.getElem?_of_mem he'
 have hjl : j < es.length := by
  have := hk.1; simp at this
  have := (List.getElem?_eq_some_iff.1 hj).1
  simp at this; omega
 obtain ⟨p, hp⟩ : ∃ p, es[j]? = some p := ⟨es[j], List.getElem?_eq_getElem hjl⟩
 have hrk : VR μ2 F w p.1 e'.key := (hk.2 j p.1 e'.key (by rw [List.getElem?_map, hp]; rfl) (by rw [List.getElem?_map, hj]; rfl)).mono (fun _ _ h => h) (fun _ h => h) hFw
 have hrv : VR μ2 F w p.2 e'.val := (hv.2 j p.2 e'.val (by rw [List.getElem?_map, hp]; rfl) (by rw [List.getElem?_map, hj]; rfl)).mono (fun _ _ h => h) (fun _ h => h) hFw
 have htup : VR μ2 F w (.tup [p.1, p.2]) (.tuple #[e'.key, e'.val]) := by
  have := LR.cons hrk (LR.cons hrv (LR.nil (μ := μ2) (F := F) (w := w)))
  exact .tup _ _ rfl fun i c u h1 h2 => this.2 i c u h1 (by simpa using h2)
 have hE : Ends P a w o (.tuple #[e'.key, e'.val]) w := by
  refine .inl ?_
  unfold execOp
  rw [ho1]
  simp only [hptr]
  exact run_v hrun
 refine adr hF ho0 ho3 (fun c hc => by rw [ho1] at hc; cases hc) hE ?_
 rw [ho2]
 -- the rest of the region
 have hok := List.all_eq_true.1 hall p (List.mem_of_getElem? hp)
 unfold aog at hok
 split at hok
 rotate_left
 ·cases hok
 rename_i T3 H3 hrun3
 have hro := ro_hr hHw0
 have hbump : HR P μ2 F { H1.ro with next := H1.next + (ros.length + 1) } w := hro.bump (ros.length + 1)
 have hlen : os.length = ros.length := by
  have := (aew _ _ hros).1
  omega
 refine adf hcal hF (n := n) (ops := ops2) (base := H1.next) (top := H1.next + (ros.length + 1)) (tail := []) os ros 1 (H1.next + 1) μ2 _ w _ _ (fun k o' h => ?_) hros hrun3 (by omega) (by omega) (by show H1.next + 1 + os.length ≤ H1.next + (ros.length + 1); omega)
  (fun j h1 _ => aal hHw0 (by omega)) (af6 J.hT (some en) htup) hbump (fun a3 w3 μ3 hd3 hT3 hH3 hS3 => ?_)
 ·have : ops2.toList[1 + k]? = some o' := by
   rw [hops, show 1 + k = k + 1 by omega]; simpa using h
  simpa using this
 -- the round's own code
 have hro2 : ∀ b, ({ H1.ro with next := H1.next + (ros.length + 1) } : Heap).get b = H1.ro.get b := fun b => rfl
 have hk3 := an5 hHw0 hro2 hS3
 have hDa : DM B μ2 F w ((a.put (some en) (.tuple #[e'.key, e'.val])).defers) := J.hD
 have hD3 : DM B μ3 F w3 a3.defers := by rw [hd3]; exact hDa.stp hS3
 have fin : ∀ (x : Ex) (T4 : Tm) (H4 : Heap), (x = .nrm ∨ x = .exit bid2) → AV.beqs (weakT W T4) T2 = true → codeA cal m rd arest T3 H3 = some (x, T4, H4) → rest.wpIn fence n P (Exit.inBlock bid2 Q) a3 w3 := by
  intro x T4 H4 hx hw4 hrun4
  have hw4 := AV.beqs_eq _ _ hw4
  refine ih T3 H3 x T4 H4 hrun4 fence n B μ3 F w3 a3 _ hF (by have := hS3.size; omega) ⟨hT3, hH3, hD3⟩ fun a4 w4 μ4 hSt4 hS4 => ?_
  have hstep := hS3.trans (hS4.mono fun b hb => hb.elim)
  have hk4 := an5 hHw0 hro2 hstep
  have hT4 := ale (W := W) hSt4.hT
  rw [hw4] at hT4
  have hT5 : LR μ2 F w4 T2 a4.tmps.toList := LR.back hstep.mu J.hT hT4
  have hD5 : DM B μ2 F w4 a4.defers := DM.back hstep.mu hSt4.hD
  have : Q .normal a4 w4 := hQ a4 w4 ⟨(hk4 _ hlt).trans J.it, fun c hc => (hk4 c (by omega)).trans (J.keep c hc), hstep.tape.trans J.tape, hstep.os.trans J.os, hstep.out.trans J.out, hT5, hD5⟩
  rcases hx with rfl | rfl
  ·exact this
  ·simp only [exOf, Exit.inBlock, if_true]; exact this
 show rest.wpIn fence n P (Exit.inBlock bid2 Q) a3 w3
 split at hok
 ·rename_i T4 H4 hrun4; exact fin _ T4 H4 (.inl rfl) hok hrun4
 ·rename_i i T4 H4 hrun4
  rw [Bool.and_eq_true] at hok
  have := Nat.eq_of_beq_eq_true hok.1
  subst this
  exact fin _ T4 H4 (.inr rfl) hok.2 hrun4
 ·cases hok
theorem aiz {P : Program} {ρ : Operand → Value} {o : Oper} {nx : Nat} {vs : Array Value} {v : Value} {w : World} (ho : o.op = .extract (.tmp nx) 0) (hv : ρ (.tmp nx) = .tuple vs) (h0 : vs[0]? = some v) : (execOp ρ o).run P w = .ok (.value v) w := by
 unfold execOp
 rw [ho]
 simp only [hv]
 refine run_v ?_
 simp [Instr.extract, h0]
theorem aix {cal : Cal} (hcal : CalOK P cal) {m : Nat} {rd : Bool} {i0 i1 i2 bid bid2 it nx ex en : Nat} {ops0 ops1 ops2 : Array Oper} {pre os : List Oper} {x : Operand} {sx : Src} {rpre ros : List ROp} {rest : Code} {arest : ACode} {W : List Nat}
  (h0 : ad4 P ops0 = some (pre, x, it)) (h1 : ad5 ops1 = some (it, nx, ex)) (h2 : ab6 ops2 = some (it, en, os)) (hne : bid ≠ bid2 ∧ nx ≠ it ∧ ex ≠ it ∧ en ≠ it)
  (hpre : pre.mapM (cROp P ops0) = some rpre) (hros : os.mapM (cROp P ops2) = some ros) (hsx : cSrc x = some sx)
  (ih : ∀ T H x T' H', codeA cal m rd arest T H = some (x, T', H') → abd P rd rest T H x T' H')
  {T : Tm} {H : Heap} {xx : Ex} {T' : Tm} {H' : Heap} (hrun : codeA cal m rd (.rangeM rpre sx it nx ex bid bid2 en ros arest W) T H = some (xx, T', H')) :
  abd P rd (.seq (.region i0 ops0 false) (.block bid (.loop (.seq (.region i1 ops1 false) (.seq (.cond (.tmp ex) .skip (.exit bid)) (.block bid2 (.seq (.region i2 ops2 false) rest))))))) T H xx T' H' := by
 intro fence n B μ F w a Q hF hB hS hQ
 simp only [codeA] at hrun
 split at hrun
 ·cases hrun
 rename_i T1 H1 hrunP
 split at hrun
 rotate_left
 ·cases hrun
 rename_i b hxb
 split at hrun
 rotate_left
 ·cases hrun
 rename_i es hbE
 split at hrun
 rotate_left
 ·cases hrun
 rename_i hchk
 cases hrun
 simp only [Bool.and_eq_true] at hchk
 obtain ⟨hit, hnx, hex, hen, hall⟩ := hchk
 have hit := AV.beq_eq _ _ hit
 have hnx := Nat.le_of_ble_eq_true hnx
 have hex := Nat.le_of_ble_eq_true hex
 have hen := Nat.le_of_ble_eq_true hen
 obtain ⟨o, t, hops, ho1, ho2, ho3, hmapT⟩ := ah4 h0
 obtain ⟨o1, o2, hops1, n1, n2, n3, e1, e2, e3⟩ := aik h1
 have hplen : pre.length = rpre.length := by have := (aew _ _ hpre).1; omega
 have hsz : ops0.size = pre.length + 1 := by rw [← Array.length_toList, hops]; simp
 refine wpIn_seq (wpIn_region ?_)
 have hlist : List.range ops0.size = List.range' 0 pre.length ++ [pre.length] := by rw [hsz, List.range_succ, List.range_eq_range']
 rw [hlist]
 refine adf hcal hF (n := n) (ops := ops0) (base := H.next) (top := H.next + pre.length) (tail := [pre.length]) pre rpre 0 H.next μ { H with next := H.next + (rpre.length + 1) } w T a (fun k o' h => ?_) hpre hrunP (Nat.le_refl _) (Nat.le_refl _) (by show H.next + pre.length ≤ H.next + (rpre.length + 1); omega)
  (fun j h1 _ => aal hS.hH (by omega)) hS.hT (hS.hH.bump _) (fun a1 w1 μ1 hd1 hT1 hH1 hS1 => ?_)
 ·have hlt := (List.getElem?_eq_some_iff.1 h).1
  have : ops0.toList[0 + k]? = some o' := by rw [hops, Nat.zero_add, List.getElem?_append_left hlt]; exact h
  simpa using this
 -- the iterator
 have hid : μ1 (H.next + rpre.length) = none := hS1.new _ (by show H.next + rpre.length < H.next + (rpre.length + 1); omega) (by omega) (aal hS.hH (by omega))
 have hlt : H.next + rpre.length < H'.next := by have := hS1.next; show H.next + rpre.length < H'.next; have e : ({ H with next := H.next + (rpre.length + 1) } : Heap).next = H.next + (rpre.length + 1) := rfl; omega
 generalize hidn : H.next + rpre.length = id at *
 have hvx := aad hT1 hsx
 rw [hxb] at hvx
 obtain ⟨L, hL, hxv⟩ : ∃ L, μ1 b = some L ∧ a1.eval x = .map (some L.blk) := by
  generalize a1.eval x = vx at hvx
  cases hvx with
  | map _ L hL => exact ⟨L, hL, rfl⟩
 obtain ⟨L', hL', hE⟩ := hH1.ent b _ hbE
 rw [hL] at hL'; cases hL'
 obtain ⟨hnF, entries, clock, hmap, hk, hv, hborn⟩ := hE
 have hmb : L.blk < w1.heap.size := (hH1.dom b L hL).2
 obtain ⟨kt, et, ht⟩ : ∃ kt et, P.underlying t = some (.map kt et) := by
  unfold isMap at hmapT
  split at hmapT
  ·rename_i k e hk; exact ⟨k, e, hk⟩
  ·cases hmapT
 have hoi : ops0[pre.length]? = some o := by
  have : ops0.toList[pre.length]? = some o := by rw [hops]; simp
  simpa using this
 have hrange : Ends P a1 w1 o (.pointer (some ⟨w1.heap.size, 0, none⟩)) (w1.alloc (.mapIter (some L.blk) clock #[] clock)) := by
  refine .inl ?_
  unfold execOp
  rw [ho1]
  simp only [hxv]
  exact run_v (run_range_map w1 t kt et L.blk entries clock ht hmap)
 refine adr hF hoi ho3 (fun c hc => by rw [ho1] at hc; cases hc) hrange ?_
 rw [ho2]
 -- the loop
 obtain ⟨μ2, hμ2⟩ : ∃ μ2, μ2 = μ1.upd id ⟨w1.heap.size, 0, 0⟩ := ⟨_, rfl⟩
 have hext : ∀ b L, μ1 b = some L → μ2 b = some L := by rw [hμ2]; exact aaq hid
 have hμid : μ2 id = some ⟨w1.heap.size, 0, 0⟩ := by rw [hμ2]; exact upd_same _ _
 have hFk : ∀ {w' : World}, (∀ c, c < w1.heap.size → w'.heap[c]? = w1.heap[c]?) → ∀ c, F c → w'.heap[c]? = w1.heap[c]? := fun h c hc => h c (hH1.fb c hc)
 have hHw : ∀ w', (∀ c, c < w1.heap.size → w'.heap[c]? = w1.heap[c]?) → w1.heap.size < w'.heap.size → HR P μ2 F H' w' := fun w' hk hs => by rw [hμ2]; exact name_hr hH1 hid hlt hk hs
 have hkA : ∀ c, c < w1.heap.size → (w1.alloc (.mapIter (some L.blk) clock #[] clock)).heap[c]? = w1.heap[c]? := fun c hc => abw _ _ hc
 obtain ⟨T2, hT2⟩ : ∃ T2, T2 = weakT (nx :: ex :: en :: W) (T1.set it (.ptr id 0)) := ⟨_, rfl⟩
 rw [← hT2] at hit hall
 have hlen2 : T2.length = T1.length := by rw [hT2, ae9, List.length_set]
 have hund : ∀ {i : Nat}, i ∈ nx :: ex :: en :: W → i < T1.length → T2[i]? = some .undef := fun h1 h2 => by rw [hT2]; exact weakT_at h1 (by simpa using h2)
 have J0 : RM B μ2 F w1 L.blk clock T2 #[] (a1.put (some it) (.pointer (some ⟨w1.heap.size, 0, none⟩))) (w1.alloc (.mapIter (some L.blk) clock #[] clock)) := by
  refine ⟨heap_alloc_new w1 _, hkA, rfl, rfl, rfl, ?_, ?_⟩
  ·rw [hT2]
   exact ale (af6 (hT1.mono hext (fun _ h => h) (hFk hkA)) (some it) (.ptr id 0 _ hμid))
  ·have hd : DM B μ1 F w1 a1.defers := by rw [hd1]; exact hS.hD.stp hS1
   obtain ⟨Ds, g1, g2, g3⟩ := hd
   refine ⟨Ds, g1, g2, fun D hD => ?_⟩
   obtain ⟨k1, k2, k3, k4, k5⟩ := g3 D hD
   refine ⟨k1, by rw [World.size_alloc]; omega, (hkA D k2).trans k3, k4, fun b L hb => ?_⟩
   by_cases e : b = id
   ·subst e; rw [hμid] at hb; cases hb; show w1.heap.size ≠ D; omega
   ·rw [hμ2, aab _ e] at hb; exact k5 b L hb
 have hBw1 : B.1 ≤ w1.heap.size := Nat.le_trans hB hS1.size
 have hdone : ∀ a' w' seen, RM B μ2 F w1 L.blk clock T2 seen a' w' → Q .normal a' w' := by
  intro a' w' seen J
  have hlt' : w1.heap.size < w'.heap.size := (Array.getElem?_eq_some_iff.1 J.it).1
  have hne : ∀ b e, H'.get b = some e → b ≠ id := fun b e hb he => by
   subst he
   obtain ⟨L, hL, _⟩ := hH1.ent _ e hb
   rw [hid] at hL; cases hL
  have hE : Stp (fun b => H.next ≤ b) P μ1 F H' w1 μ2 F H' w' :=
   ⟨hext, fun _ h => h, by omega, fun c hc _ => J.keep c hc, fun b L ⟨e, he, hr⟩ hb => by
     rw [hμ2, aab _ (hne b e he)] at hb
     exact .inr ⟨b, L, ⟨e, he, hr⟩, hb, rfl⟩, Nat.le_refl _, fun b hb hi hn => by
     rw [hμ2, aab _ (by omega)]; exact hn, fun b L hb => by
     by_cases e : b = id
     ·subst e; rw [hμid] at hb; cases hb; exact .inr (Nat.le_refl _)
     ·rw [hμ2, aab _ e] at hb; exact .inl ⟨b, L, hb, rfl⟩, fun b e he _ _ => ⟨e, he⟩, fun b e L he hb => by
     rw [hμ2, aab _ (hne b e he)] at hb
     exact .inr ⟨b, e, L, he, hb, rfl⟩, J.tape, J.os, J.out⟩
  have hst : Stp NoI P μ F H w μ2 F H' w' := adz (Stp.refl _ _ _ _ _ _) ((hS1.mono fun b hb => hb.1).trans hE)
  rw [hT2] at J
  exact hQ a' w' μ2 ⟨J.hT, hHw w' J.keep hlt', J.hD⟩ hst
 refine wpIn_block (wpIn_loop (fun a w => ∃ seen, RM B μ2 F w1 L.blk clock T2 seen a w) (fun _ w => abu entries w1.heap.size w) ⟨#[], J0⟩ fun a w ⟨seen, J⟩ => ?_)
 have hlw : w1.heap.size < w.heap.size := (Array.getElem?_eq_some_iff.1 J.it).1
 have hsz1 : ops1.size = 2 := by rw [← Array.length_toList, hops1]; rfl
 have hg0 : ops1[0]? = some o1 := by
  have : ops1.toList[0]? = some o1 := by rw [hops1]; rfl
  simpa using this
 have hg1 : ops1[1]? = some o2 := by
  have : ops1.toList[1]? = some o2 := by rw [hops1]; rfl
  simpa using this
 have htl : T2.length = a.tmps.size := by have := J.hT.1; simpa using this
 have hptr : a.eval (.tmp it) = .pointer (some ⟨w1.heap.size, 0, none⟩) := by
  have := ah1 J.hT it
  rw [hit] at this
  obtain ⟨L, hL, hp⟩ := aex this
  rw [hμid] at hL; cases hL
  exact hp
 refine wpIn_seq (wpIn_region ?_)
 rw [hsz1]
 -- the step, whatever comes out of it
 have step : ∀ (tp : Array Value) (bv : Bool) (w' : World), tp[0]? = some (.bool bv) → (Instr.next (.pointer (some ⟨w1.heap.size, 0, none⟩)) false o1.type).run P w = .ok (.tuple tp) w' →
   (∀ a', a'.defers = a.defers → a'.eval (.tmp ex) = .bool bv → (LR μ2 F w' T2 a.tmps.toList → LR μ2 F w' T2 a'.tmps.toList) → (Code.seq (.cond (.tmp ex) .skip (.exit bid)) (.block bid2 (.seq (.region i2 ops2 false) rest))).wpIn fence n P
    (Exit.then (fun a' w' => (∃ seen, RM B μ2 F w1 L.blk clock T2 seen a' w') ∧ abu entries w1.heap.size w' < abu entries w1.heap.size w) (Exit.inBlock bid Q)) a' w') →
   wpOpsIn fence n P ops1 (Exit.then ((Code.seq (.cond (.tmp ex) .skip (.exit bid)) (.block bid2 (.seq (.region i2 ops2 false) rest))).wpIn fence n P
    (Exit.then (fun a' w' => (∃ seen, RM B μ2 F w1 L.blk clock T2 seen a' w') ∧ abu entries w1.heap.size w' < abu entries w1.heap.size w) (Exit.inBlock bid Q)))
    (Exit.then (fun a' w' => (∃ seen, RM B μ2 F w1 L.blk clock T2 seen a' w') ∧ abu entries w1.heap.size w' < abu entries w1.heap.size w) (Exit.inBlock bid Q))) (List.range 2) a w := by
  intro tp bv w' htp hrun hk
  show wpOpsIn fence n P ops1 _ [0, 1] a w
  refine adr hF hg0 n3 (fun c hc => by rw [n1] at hc; cases hc) (u := .tuple tp) (w' := w') (.inl ?_) ?_
  ·unfold execOp
   rw [n1]
   simp only [hptr]
   exact run_v hrun
  rw [n2]
  have hnxs : nx < a.tmps.size := by omega
  refine adr hF hg1 e3 (fun c hc => by rw [e1] at hc; cases hc) (.inl (aiz e1 (alr hnxs) htp)) ?_
  rw [e2]
  refine hk _ rfl (alr (by simp [Act.put]; omega)) fun hT => ?_
  exact ae3 (ae3 hT (hund (by simp) (by omega))) (hund (by simp) (by omega))
 have hmapw : w.heap[L.blk]? = some (.map entries clock) := (J.keep _ hmb).trans hmap
 rcases run_next_at (P := P) w o1.type w1.heap.size L.blk clock clock seen entries clock J.it hmapw hborn.1 (Nat.le_refl _) with ⟨-, hover⟩ | ⟨e, he, wd, hwd, hnext⟩
 ·refine step _ false w rfl hover fun a' hd hev hT => ?_
  refine wpIn_seq (wpIn_cond_false hev (wpIn_exit ?_))
  show Exit.inBlock bid Q (.exit bid) a' w
  simp only [Exit.inBlock, if_true]
  exact hdone a' w seen ⟨J.it, J.keep, J.tape, J.os, J.out, hT J.hT, hd ▸ J.hD⟩
 ·obtain ⟨hein, hnew⟩ := mem_left he
  have hdh : wd.heap = w.heap := by rcases hwd with rfl | rfl <;> rfl
  obtain ⟨w', hw'⟩ : ∃ w', w' = ChangeMaps.setBlock wd w1.heap.size (.mapIter (some L.blk) clock (seen.push e.born) clock) := ⟨_, rfl⟩
  rw [← hw'] at hnext
  have hheap : w'.heap = w.heap.setIfInBounds w1.heap.size (.mapIter (some L.blk) clock (seen.push e.born) clock) := by rw [hw', ← hdh]; rfl
  have hother : ∀ c, c ≠ w1.heap.size → w'.heap[c]? = w.heap[c]? := fun c hc => by rw [hheap, Array.getElem?_setIfInBounds_ne (Ne.symm hc)]
  have hself : w'.heap[w1.heap.size]? = some (.mapIter (some L.blk) clock (seen.push e.born) clock) := by rw [hheap]; simp [hlw]
  have hto : w'.tape = w.tape ∧ w'.os = w.os ∧ w'.output = w.output := by rw [hw']; rcases hwd with rfl | rfl <;> exact ⟨rfl, rfl, rfl⟩
  refine step _ true w' rfl hnext fun a' hd hev hT => ?_
  have hkeep : ∀ c, c < w1.heap.size → w'.heap[c]? = w1.heap[c]? := fun c hc => (hother c (by omega)).trans (J.keep c hc)
  have hTw : LR μ2 F w' T2 a.tmps.toList := J.hT.mono (fun _ _ h => h) (fun _ h => h) fun c hc => hother c (by have := hH1.fb c hc; omega)
  have hDw : DM B μ2 F w' a'.defers := by
   rw [hd]
   refine J.hD.keep (by rw [hheap]; simp) fun D hD => hother D fun e => ?_
   rw [e, J.it] at hD; cases hD
  have J' : RM B μ2 F w1 L.blk clock T2 (seen.push e.born) a' w' := ⟨hself, hkeep, hto.1.trans J.tape, hto.2.1.trans J.os, hto.2.2.trans J.out, hT hTw, hDw⟩
  refine wpIn_seq (wpIn_cond_true hev (wpIn_skip ?_))
  refine alb hcal hF (B := B) (μ2 := μ2) (w1 := w1) (id := id) (mb := L.blk) (clock := clock) (en := en) (bid2 := bid2) (W := nx :: ex :: en :: W) (T2 := T2) (H1 := H') h2 hros ih hit hμid hBw1 hall hmb hmap
   (hk.mono hext (fun _ h => h) fun _ _ => rfl) (hv.mono hext (fun _ h => h) fun _ _ => rfl) hH1.fb hein J' hHw fun a4 w4 J4 => ?_
  refine ⟨⟨_, J4⟩, ?_⟩
  unfold abu
  rw [J4.it, J.it]
  exact left_shrinks entries seen e he
end
end Go.Proofs.YtcmbokfnglkfnaaGreatDoor.Ev
