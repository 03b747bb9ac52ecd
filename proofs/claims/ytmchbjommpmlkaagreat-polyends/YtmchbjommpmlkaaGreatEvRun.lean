/-
  THE EVALUATOR's CALLS are the model's: a function that it runs returns what it says.
-/
import Derived.Test.YtmchbjommpmlkaaGreatEvStmt
namespace Go.Proofs.YtmchbjommpmlkaaGreat.Ev
open Go
set_option linter.all false

section
variable {P : Program} {μ : Mu} {F : Nat → Prop} {H : Heap} {w : World} {T : Tm} {a : Act} {B : Nat}

theorem resA_sound {tmps : Array Value} {r : ResultVar} {ar : Nat × Option (Option Nat)} {v : AV} (hT : LR μ F w T tmps.toList) (hH : HR P μ F H w) (hr : cRes P r = some ar) (h : resA T H ar = some v) :
    ∃ u, ((match r with | .tmp t => pure (tmps.getD t undef) | .cell a t => do loadVar t (← asAddr (tmps.getD a undef)) : Sem Value)).run P w = .ok u w ∧ VR μ F w v u := by
  have hg := fun t => getT_vr (a := ⟨tmps, []⟩) hT t
  cases r with
  | tmp t => cases hr; cases h; exact ⟨_, rfl, hg t⟩
  | cell a t =>
    simp only [cRes, Option.bind_eq_bind, Option.bind_eq_some_iff] at hr
    obtain ⟨k, hk, hr⟩ := hr
    cases hr
    simp only [resA] at h
    have hx := hg a
    split at h
    · rename_i b o e
      rw [e] at hx
      obtain ⟨L, hL, hp⟩ := ptr_inv hx
      split at h
      · rename_i cs ty rw hb
        obtain ⟨arr, fr, h1, h2, h3, h4, h5, h6, h7⟩ := ent_cells hH hb hL
        obtain ⟨u, hu, hr⟩ := load_at (o := o) (off := 0) h1 (by omega) (by simpa using h5) hk h
        rw [Nat.zero_add] at hu
        simp only at hp
        refine ⟨u, ?_, hr⟩
        simp only [Sem.run_bind, hp, asAddr, Sem.run_pure, Result.andThen_ok, hu]
      · cases h
    · cases h

theorem resList_sound {tmps : Array Value} (hT : LR μ F w T tmps.toList) (hH : HR P μ F H w) : ∀ (rs : List ResultVar) (ars : List (Nat × Option (Option Nat))) (vs : List AV), rs.mapM (cRes P) = some ars → ars.mapM (resA T H) = some vs →
    ∃ us : List Value, (rs.mapM fun | .tmp t => pure (tmps.getD t undef) | .cell a t => do loadVar t (← asAddr (tmps.getD a undef)) : Sem (List Value)).run P w = .ok us w ∧ LR μ F w vs us
  | [], ars, vs, h, h' => by simp at h; subst h; simp at h'; subst h'; exact ⟨[], by simp, LR.nil⟩
  | r :: rs, ars, vs, h, h' => by
    simp only [List.mapM_cons, Option.pure_def, Option.bind_eq_bind, Option.bind_eq_some_iff] at h
    obtain ⟨x, hx, xs, hxs, h⟩ := h
    cases h
    simp only [List.mapM_cons, Option.pure_def, Option.bind_eq_bind, Option.bind_eq_some_iff] at h'
    obtain ⟨y, hy, ys, hys, h'⟩ := h'
    cases h'
    obtain ⟨u, hu, hr⟩ := resA_sound hT hH hx hy
    obtain ⟨us, hus, hrs⟩ := resList_sound hT hH rs xs ys hxs hys
    refine ⟨u :: us, ?_, LR.cons hr hrs⟩
    simp only [List.mapM_cons, Sem.run_bind, hu, Result.andThen_ok, hus, Sem.run_pure]

theorem results_sound {fn : Func} {tmps : Array Value} {ars : List (Nat × Option (Option Nat))} {v : AV} (hT : LR μ F w T tmps.toList) (hH : HR P μ F H w) (hars : fn.results.toList.mapM (cRes P) = some ars) (h : resultsA T H ars = some v) :
    ∃ u, (results fn tmps).run P w = .ok u w ∧ VR μ F w v u := by
  simp only [resultsA, Option.bind_eq_bind, Option.bind_eq_some_iff] at h
  obtain ⟨vs, hvs, h⟩ := h
  obtain ⟨us, hus, hr⟩ := resList_sound hT hH _ _ _ hars hvs
  have hm : (fn.results.mapM fun | .tmp t => pure (tmps.getD t undef) | .cell a t => do loadVar t (← asAddr (tmps.getD a undef)) : Sem (Array Value)).run P w = .ok us.toArray w := by
    rw [Array.mapM_eq_mapM_toList]
    simp only [Sem.run_map, hus, Result.andThen_ok]
  have hres : (results fn tmps).run P w = .ok (if h : us.toArray.size = 1 then us.toArray[0] else .tuple us.toArray) w := by
    unfold results
    simp only [Sem.run_bind]
    exact (congrArg (fun r : Result (Array Value) => r.andThen fun a w' => Sem.run P (pure (if h : a.size = 1 then a[0] else Value.tuple a)) w') hm)
  refine ⟨_, hres, ?_⟩
  split at h
  · cases h
    match us, hr with
    | [u], hr => exact hr.head
    | [], hr => have := hr.1; simp at this
    | _ :: _ :: _, hr => have := hr.1; simp at this
  · rename_i hne
    cases h
    have hl := hr.1
    have h1 : us.toArray.size ≠ 1 := by
      intro e
      simp at e
      match vs, hl with
      | [v], _ => exact hne v rfl
      | [], hl => simp at hl; omega
      | _ :: _ :: _, hl => simp at hl; omega
    rw [dif_neg h1]
    exact .tup _ _ (by simpa using hl) fun i c u hc hu => hr.2 i c u hc (by simpa using hu)

/-- A mark's block is shut: the evaluator knows nothing of it. -/
theorem other_put (hH : HR P μ F H w) {D : Nat} {o : Obj} (hF : ¬ F D) (hn : ∀ b L, μ b = some L → L.blk ≠ D) : HR P μ F H (w.putObj D o) := by
  have hw : ∀ c, c ≠ D → (w.putObj D o).heap[c]? = w.heap[c]? := fun c hc => World.putObj_heap_other hc
  have hsz : (w.putObj D o).heap.size = w.heap.size := by simp [World.putObj]
  refine ⟨fun b L hb => ?_, fun c hc => ?_, fun b e hb => ?_, hH.inj⟩
  · rw [hsz]; exact hH.dom b L hb
  · rw [hsz]; exact hH.fb c hc
  · obtain ⟨L, hL, hE⟩ := hH.ent b e hb
    exact ⟨L, hL, hE.mono (fun _ _ h => h) (fun _ h => h) (fun c hc => hw c fun e => hF (e ▸ hc)) (hw _ (hn b L hL)) (fun hr => hE.notF hr)⟩

theorem leaves_marks {fn : Func} {tmps : Array Value} {ars : List (Nat × Option (Option Nat))} {v : AV} {μ0 : Mu} {H0 : Heap} {w0 : World} (n : Nat) (hars : fn.results.toList.mapM (cRes P) = some ars) (hv : resultsA T H ars = some v) :
    ∀ (Ds : List Nat) (w : World), Ds.Nodup → (∀ D ∈ Ds, w0.heap.size ≤ D ∧ D < w.heap.size ∧ w.heap[D]? = some (.deferred (some [])) ∧ ¬ F D ∧ ∀ b L, μ b = some L → L.blk ≠ D) →
      LR μ F w T tmps.toList → HR P μ F H w → Stp NoI P μ0 F H0 w0 μ F H w →
      LeavesInM Fence.wide n P fn tmps (fun e w' => ∃ u, e = .returned u ∧ ∃ μ', Done NoI P μ0 F H0 w0 v H u w' μ') (Ds.map fun D => { target := .collected D, args := #[] }) .returning w
  | [], w, _, _, hT, hH, hS => by
    obtain ⟨u, hu, hr⟩ := results_sound hT hH hars hv
    exact ⟨u, hu, u, rfl, μ, hr, hH, hS⟩
  | D :: Ds, w, hnd, hD, hT, hH, hS => by
    obtain ⟨g1, g2, g3, g4, g5⟩ := hD D (List.mem_cons_self ..)
    have hnd := List.nodup_cons.1 hnd
    have hw : ∀ c, c ≠ D → (w.putObj D (.deferred none)).heap[c]? = w.heap[c]? := fun c hc => World.putObj_heap_other hc
    have hsz : (w.putObj D (.deferred none)).heap.size = w.heap.size := by simp [World.putObj]
    refine ⟨fun e => (by cases e), .inl ⟨D, _, rfl, run_takeDeferred g3, ?_⟩⟩
    refine leaves_marks n hars hv Ds _ hnd.2 (fun D' hD' => ?_) (hT.mono (fun _ _ h => h) (fun _ h => h) fun c hc => hw c fun e => g4 (e ▸ hc)) (other_put hH g4 g5) ?_
    · obtain ⟨k1, k2, k3, k4, k5⟩ := hD D' (List.mem_cons_of_mem _ hD')
      exact ⟨k1, by rw [hsz]; exact k2, by rw [hw D' fun e => hnd.1 (e ▸ hD')]; exact k3, k4, k5⟩
    · exact ⟨hS.mu, hS.fr, by rw [hsz]; exact hS.size, fun c hc hn => by rw [hw c (by omega)]; exact hS.keep c hc hn, hS.rw, hS.next, hS.new, hS.rng, hS.old, hS.alv, hS.tape, hS.os, hS.out⟩

theorem replicate_lr {μ : Mu} {F : Nat → Prop} {w : World} (n : Nat) : LR μ F w (List.replicate n .undef) (List.replicate n undef) := by
  induction n with
  | zero => exact LR.nil
  | succ n ih => exact LR.cons (.undef _) ih

theorem runFn_sound {cal : Cal} (hcal : CalOK P cal) (hmix : P.follows .mixedOrders = true) {m : Nat} {f : Nat} {fn : Func} {afn : AFn} {args : List AV} {v : AV} {H' : Heap} (hf : P.funcs[f]? = some fn) (hb : fn.body.isSome = true) (hb2 : ∀ c, fn.body = some c → cCode P c = some afn.body)
    (hars : fn.results.toList.mapM (cRes P) = some afn.results) (hnt : afn.ntmps = fn.ntmps)
    (h : runFn cal m afn args H = some (v, H')) {vs : List Value} (hvs : LR μ F w args vs) (hH : HR P μ F H w) (n : Nat) {fence : Fence} {rd : Bool} (hF : FenceOK fence rd) :
    CallsIn fence n P f vs.toArray w fun e w' => ∃ u, e = .returned u ∧ ∃ μ', Done NoI P μ F H w v H' u w' μ' := by
  have key : CallsIn Fence.wide n P f vs.toArray w fun e w' => ∃ u, e = .returned u ∧ ∃ μ', Done NoI P μ F H w v H' u w' μ' := by
    obtain ⟨c, hc⟩ := Option.isSome_iff_exists.1 hb
    unfold runFn at h
    split at h
    · have hstart : StR P w.heap.size μ F H w (args ++ List.replicate (afn.ntmps - args.length) .undef) { tmps := vs.toArray ++ Array.replicate (fn.ntmps - vs.toArray.size) undef, defers := [] } := by
        refine ⟨?_, hH, DM.nil⟩
        have hl := hvs.1
        simp only [Array.toList_append, Array.toList_replicate, List.size_toArray]
        rw [← hl, hnt]
        exact hvs.append (replicate_lr _)
      refine callsIn_of_wp_marks hf hc trivial ?_
      have fin : ∀ (x : Ex) (T1 : Tm) (H1 : Heap), (x = .nrm ∨ x = .ret) → codeA cal m false afn.body (args ++ List.replicate (afn.ntmps - args.length) .undef) H = some (x, T1, H1) → (resultsA T1 H1 afn.results).map (fun v => (v, H1)) = some (v, H') →
          c.wpIn Fence.wide n P (bodyPostM Fence.wide n P fn fun e w' => ∃ u, e = .returned u ∧ ∃ μ', Done NoI P μ F H w v H' u w' μ') { tmps := vs.toArray ++ Array.replicate (fn.ntmps - vs.toArray.size) undef, defers := [] } w := by
        intro x T1 H1 hx hrun hres
        simp only [Option.map_eq_some_iff] at hres
        obtain ⟨v', hv', hres⟩ := hres
        cases hres
        refine codeA_sound hcal hmix c afn.body (hb2 c hc) _ _ _ _ _ hrun Fence.wide n w.heap.size μ F w _ _ (.inl ⟨rfl, rfl⟩) (Nat.le_refl _) hstart fun a' w' μ' hS' hst => ?_
        obtain ⟨Ds, e1, e2, e3⟩ := hS'.hD
        have := leaves_marks (tmps := a'.tmps) (fn := fn) n hars hv' Ds w' e2 e3 hS'.hT hS'.hH hst
        rw [← e1] at this
        rcases hx with rfl | rfl <;> exact this
      split at h
      · rename_i T1 H1 hrun; exact fin .nrm T1 H1 (.inl rfl) hrun h
      · rename_i T1 H1 hrun; exact fin .ret T1 H1 (.inr rfl) hrun h
      · cases h
    · cases h
  rcases hF with ⟨_, rfl⟩ | ⟨_, l, rfl⟩
  · exact key
  · exact key

/-- One of the library's that has no text, or whose text is not walked here. -/
def ExtOK (P : Program) (f : Nat) (e : Ext) : Prop := ∀ H args v H', extA H e args = some (v, H') → ∀ (μ : Mu) (F : Nat → Prop) (w : World) (vs : List Value) (fence : Fence) (rd : Bool) (n : Nat), FenceOK fence rd → HR P μ F H w → LR μ F w args vs →
  Runs fence n P ((callFunc f vs.toArray).run P w) fun u w' => ∃ μ', Done NoI P μ F H w v H' u w' μ'

def TabOK (P : Program) (tab : Nat → Option AFn) : Prop := ∀ f afn, tab f = some afn → (∀ e, afn.ext = some e → ExtOK P f e) ∧ (afn.ext = none → ∃ fn, P.funcs[f]? = some fn ∧ cFn P fn = some afn)

theorem cFn_inv {fn : Func} {afn : AFn} (h : cFn P fn = some afn) (he : afn.ext = none) : fn.body.isSome = true ∧ (∀ c, fn.body = some c → cCode P c = some afn.body) ∧ fn.results.toList.mapM (cRes P) = some afn.results ∧ afn.ntmps = fn.ntmps ∧ fn.name ≠ "runtime.NumGoroutine" := by
  unfold cFn at h
  split at h
  · cases h; cases he
  split at h
  · cases h; cases he
  split at h
  · simp only [Option.bind_eq_bind, Option.bind_eq_some_iff] at h
    obtain ⟨t, ht, d, hd, h⟩ := h
    split at h
    · simp only [Option.bind_eq_some_iff] at h
      obtain ⟨n, hn, b, hb, h⟩ := h
      cases h; cases he
    · cases h
  · simp only [Option.bind_eq_bind, Option.bind_eq_some_iff] at h
    obtain ⟨b, hb, h⟩ := h
    split at h
    · cases h
    · rename_i hnm
      simp only [Option.bind_eq_some_iff] at h
      obtain ⟨rs, hrs, c, hc, h⟩ := h
      cases h
      exact ⟨by simp [hb], fun c' hc' => by rw [hb] at hc'; cases hc'; exact hc, hrs, rfl, hnm⟩

theorem putsT_lr {μ : Mu} {F : Nat → Prop} {w : World} : ∀ (ps : List Nat) (args : List AV) (vs : List Value) (T : Tm) (tm : Array Value), LR μ F w args vs → LR μ F w T tm.toList →
    LR μ F w (putsT T (ps.zip args)) ((ps.zip vs).foldl (fun (t : Array Value) (p : Nat × Value) => t.setIfInBounds p.1 p.2) tm).toList
  | [], args, vs, T, tm, _, h => by simpa [putsT] using h
  | p :: ps, [], [], T, tm, _, h => by simpa [putsT] using h
  | p :: ps, [], _ :: _, T, tm, h, _ => by have := h.1; simp at this
  | p :: ps, _ :: _, [], T, tm, h, _ => by have := h.1; simp at this
  | p :: ps, a :: args, v :: vs, T, tm, hl, h => by
    simp only [List.zip_cons_cons, putsT, List.foldl_cons]
    exact putsT_lr ps args vs _ _ hl.tail (by rw [Array.toList_setIfInBounds]; exact h.set p hl.head)

theorem enter_run {f : Nat} {fn : Func} (hf : P.funcs[f]? = some fn) (hb : fn.body.isSome = true) (hn : fn.name ≠ "runtime.NumGoroutine") (args : Array Value) (w : World) : (callFunc f args).run P w = .ok (.enter f args) w := by
  obtain ⟨c, hc⟩ := Option.isSome_iff_exists.1 hb
  simp [callFunc, hf, hn, hc]

/-- **THE EVALUATOR IS SOUND.** -/
theorem runA1_sound {tab : Nat → Option AFn} {m : Nat} (hmix : P.follows .mixedOrders = true) (htab : TabOK P tab) {cal : Cal} (ih : CalOK P cal) : CalOK P (runA1 tab cal m) := by
  intro t H v H' h μ F w vs fence rd k hF hH hl hround
  cases t with
  | fn f args =>
    simp only [runA1] at h
    split at h
    · cases h
    · rename_i afn hafn
      obtain ⟨t1, t2⟩ := htab f afn hafn
      refine ⟨fun f args e => (by cases e), ?_⟩
      split at h
      · rename_i e he
        exact t1 e he H args v H' h μ F w vs fence rd k hF hH hl
      · rename_i he
        obtain ⟨fn, hfn, hcf⟩ := t2 he
        obtain ⟨k1, k2, k3, k4, k5⟩ := cFn_inv hcf he
        simp only [taskRun, enter_run hfn k1 k5, Runs]
        exact runFn_sound ih hmix hfn k1 k2 k3 k4 h hl hH k hF
  | ent f args =>
    simp only [runA1] at h
    split at h
    · cases h
    · rename_i afn hafn
      obtain ⟨t1, t2⟩ := htab f afn hafn
      split at h
      · cases h
      · rename_i he
        obtain ⟨fn, hfn, hcf⟩ := t2 he
        obtain ⟨k1, k2, k3, k4, k5⟩ := cFn_inv hcf he
        refine ⟨fun f' args' e => by cases e; exact enter_run hfn k1 k5 _ _, ?_⟩
        simp only [taskRun, enter_run hfn k1 k5, Runs]
        exact runFn_sound ih hmix hfn k1 k2 k3 k4 h hl hH k hF
  | round b args =>
    refine ⟨fun f args e => (by cases e), ?_⟩
    obtain ⟨L, hL⟩ := hround b args rfl
    simp only [runA1] at h
    split at h
    · rename_i T0 ps asg body hb
      split at h
      · rename_i hlen
        obtain ⟨L', hL', hE⟩ := hH.ent b _ hb
        rw [hL] at hL'; cases hL'
        obtain ⟨hnF, r, g1, g2, g3, g4, g5, g6, g7⟩ := hE
        have hpend : r.pending = none := by
          cases hp : r.pending with
          | none => rfl
          | some c => rw [hp] at g7; exact g7.elim
        have hargs : vs.toArray.size = r.params.size := by
          have h1 := hl.1
          simp only [Task.args] at h1
          have h2 : r.params.size = ps.length := by rw [← g4]; simp
          simp; omega
        simp only [taskRun, hL, run_yield g1 hargs, Runs]
        split at h
        · rename_i T1 H1 hasg
          split at h
          · rename_i T00 ps00 asg00 body00 hb1
            split at h
            · rename_i x T2 H2 hbody
              split at h
              · rename_i T3 ps3 asg3 body3 hb2
                have key : RoundIn Fence.wide k P L.blk r.fn ((r.params.zip vs.toArray).foldl (fun tmps (t, a) => tmps.setIfInBounds t a) r.tmps) r.assign r.body w fun e w' => ∃ u, e = .returned u ∧ ∃ μ', Done NoI P μ F H w v H' u w' μ' := by
                  have hfold : ((r.params.zip vs.toArray).foldl (fun tmps (t, a) => tmps.setIfInBounds t a) r.tmps) = (ps.zip vs).foldl (fun (t : Array Value) (p : Nat × Value) => t.setIfInBounds p.1 p.2) r.tmps := by
                    rw [← Array.foldl_toList, Array.toList_zip, g4]
                  rw [hfold]
                  refine roundIn_of_wpIn trivial ?_
                  have hst0 : StR P w.heap.size μ F H w (putsT T0 (ps.zip args)) { tmps := (ps.zip vs).foldl (fun (t : Array Value) (p : Nat × Value) => t.setIfInBounds p.1 p.2) r.tmps, defers := [] } :=
                    ⟨putsT_lr ps args vs T0 r.tmps hl g3, hH, DM.nil⟩
                  refine codeA_sound ih hmix r.assign asg g5 _ _ _ _ _ hasg (Fence.wide.inRound L.blk) k w.heap.size μ F w _ _ (.inr ⟨rfl, _, rfl⟩) (Nat.le_refl _) hst0 fun a1 w1 μ1 hS1 hst1 => ?_
                  obtain ⟨L1, hL1, hE1⟩ := hS1.hH.ent b _ hb1
                  rw [hst1.mu _ _ hL] at hL1; cases hL1
                  obtain ⟨hnF1, r1, q1, q2, q3, q4, q5, q6, q7⟩ := hE1
                  have hlt1 := (Array.getElem?_eq_some_iff.1 q1).1
                  refine ⟨_, run_beginRound q1 q2, ?_⟩
                  obtain ⟨hP1, hP2⟩ := put_block (I := NoI) (e := .loop T00 ps00 asg00 body00 .busy none) hS1.hH hb1 rfl (hst1.mu _ _ hL) (w1.putObj L.blk (.loop { r1 with state := .busy })) (fun c hc => World.putObj_heap_other hc) (by simp [World.putObj]) rfl rfl rfl
                    (fun hw => ⟨hnF1, _, World.putObj_heap_same hlt1, rfl, q3.mono (fun _ _ h => h) (fun _ h => h) hw, q4, q5, q6, q7⟩) rfl
                  have hS1' : StR P w.heap.size μ1 F (H1.put b (.loop T00 ps00 asg00 body00 .busy none)) (w1.putObj L.blk (.loop { r1 with state := .busy })) T1 a1 := ⟨hP2.lr hS1.hH hS1.hT, hP1, hS1.hD.stp hP2⟩
                  refine codeA_sound ih hmix r.body body g6 _ _ _ _ _ hbody (Fence.wide.inRound L.blk) k w.heap.size μ1 F _ _ _ (.inr ⟨rfl, _, rfl⟩) (Nat.le_trans hst1.size hP2.size) hS1' fun a2 w2 μ2 hS2 hst2 => ?_
                  obtain ⟨L2, hL2, hE2⟩ := hS2.hH.ent b _ hb2
                  rw [hst2.mu _ _ (hst1.mu _ _ hL)] at hL2; cases hL2
                  obtain ⟨hnF2, r2, s1, s2, s3, s4, s5, s6, s7⟩ := hE2
                  have hlt2 := (Array.getElem?_eq_some_iff.1 s1).1
                  have fin : ∀ (jump : Option Code) (st : LoopState) (pe : Option ACode) (bv : Bool), (if jump.isNone then LoopState.ready else .done) = st → jump.isNone = bv → (match pe, jump with | none, none => True | some c, some c' => cCode P c' = some c | _, _ => False) →
                      some (AV.bool bv, H2.put b (.loop T3 ps3 asg3 body3 st pe)) = some (v, H') →
                      ∃ u w', (Instr.endRound L.blk jump).run P w2 = .ok u w' ∧ ∃ u', Ending.returned u = .returned u' ∧ ∃ μ', Done NoI P μ F H w v H' u' w' μ' := by
                    intro jump st pe bv e1 e2 e3 e4
                    cases e4
                    subst e2
                    refine ⟨_, _, run_endRound jump s1, _, rfl, μ2, ?_⟩
                    obtain ⟨z1, z2⟩ := put_block (I := NoI) (e := .loop T3 ps3 asg3 body3 st pe) hS2.hH hb2 rfl (hst2.mu _ _ (hst1.mu _ _ hL)) (w2.putObj L.blk (.loop { r2 with state := if jump.isNone then .ready else .done, pending := jump })) (fun c hc => World.putObj_heap_other hc) (by simp [World.putObj]) rfl rfl rfl
                      (fun hw => ⟨hnF2, _, World.putObj_heap_same hlt2, e1, s3.mono (fun _ _ h => h) (fun _ h => h) hw, s4, s5, s6, e3⟩) rfl
                    exact ⟨.bool _, z1, ((hst1.trans hP2).trans hst2).trans z2⟩
                  cases x with
                  | nrm => exact fin none .ready none true rfl rfl trivial h
                  | ret => exact fin (some .ret) .done (some .ret) false rfl rfl rfl h
                  | exit id => exact fin (some (.exit id)) .done (some (.exit id)) false rfl rfl rfl h
                  | goto g => exact fin (some (.goto g)) .done (some (.goto g)) false rfl rfl rfl h
                rcases hF with ⟨_, rfl⟩ | ⟨_, l, rfl⟩
                · exact key
                · exact key
              · cases h
            · cases h
          · cases h
        · cases h
      · cases h
    · cases h


theorem runA_sound {tab : Nat → Option AFn} {m : Nat} (hmix : P.follows .mixedOrders = true) (htab : TabOK P tab) : ∀ n, CalOK P (runA tab m n)
  | 0 => fun t H v H' h => by cases h
  | n + 1 => runA1_sound hmix htab (runA_sound hmix htab n)

end
end Go.Proofs.YtmchbjommpmlkaaGreat.Ev
