/- The evaluator, a part. -/
import Derived.Test.YtcmbokfnglkfnaaGreatDoorEvStmt
import Derived.RecoverIn
namespace Go.Proofs.YtcmbokfnglkfnaaGreatDoor.Ev
open Go
set_option linter.all false
section
variable {P : Program} {μ : Mu} {F : Nat → Prop} {H : Heap} {w : World} {T : Tm} {a : Act} {B : Nat}
theorem ams {tmps : Array Value} {r : ResultVar} {ar : Nat × Option (Option Nat)} {v : AV} (hT : LR μ F w T tmps.toList) (hH : HR P μ F H w) (hr : cRes P r = some ar) (h : resA T H ar = some v) :
  ∃ u, ((match r with | .tmp t => pure (tmps.getD t undef) | .cell a t => do loadVar t (← asAddr (tmps.getD a undef)) : Sem Value)).run P w = .ok u w ∧ VR μ F w v u := by
 have hg := fun t => ah1 (a := ⟨tmps, []⟩) hT t
 cases r with
 | tmp t => cases hr; cases h; exact ⟨_, rfl, hg t⟩
 | cell a t =>
  simp only [cRes, Option.bind_eq_bind, bes] at hr
  obtain ⟨k, hk, hr⟩ := hr
  cases hr
  simp only [resA] at h
  have hx := hg a
  split at h
  ·rename_i b o e
   rw [e] at hx
   obtain ⟨L, hL, hp⟩ := aex hx
   split at h
   ·rename_i cs ty rw hb
    obtain ⟨arr, fr, h1, h2, h3, h4, h5, h6, h7⟩ := aaz hH hb hL
    obtain ⟨u, hu, hr⟩ := ala (o := o) (off := 0) h1 (by omega) (by simpa using h5) hk h
    rw [Nat.zero_add] at hu
    simp only at hp
    refine ⟨u, ?_, hr⟩
    simp only [Sem.run_bind, hp, asAddr, Sem.run_pure, Result.andThen_ok, hu]
   ·cases h
  ·cases h
theorem ad7 {tmps : Array Value} (hT : LR μ F w T tmps.toList) (hH : HR P μ F H w) : ∀ (rs : List ResultVar) (ars : List (Nat × Option (Option Nat))) (vs : List AV), rs.mapM (cRes P) = some ars → ars.mapM (resA T H) = some vs →
  ∃ us : List Value, (rs.mapM fun | .tmp t => pure (tmps.getD t undef) | .cell a t => do loadVar t (← asAddr (tmps.getD a undef)) : Sem (List Value)).run P w = .ok us w ∧ LR μ F w vs us
 | [], ars, vs, h, h' => by simp at h; subst h; simp at h'; subst h'; exact ⟨[], by simp, LR.nil⟩
 | r :: rs, ars, vs, h, h' => by
  simp only [List.mapM_cons, Option.pure_def, Option.bind_eq_bind, bes] at h
  obtain ⟨x, hx, xs, hxs, h⟩ := h
  cases h
  simp only [List.mapM_cons, Option.pure_def, Option.bind_eq_bind, bes] at h'
  obtain ⟨y, hy, ys, hys, h'⟩ := h'
  cases h'
  obtain ⟨u, hu, hr⟩ := ams hT hH hx hy
  obtain ⟨us, hus, hrs⟩ := ad7 hT hH rs xs ys hxs hys
  refine ⟨u :: us, ?_, LR.cons hr hrs⟩
  simp only [List.mapM_cons, Sem.run_bind, hu, Result.andThen_ok, hus, Sem.run_pure]
theorem ach {fn : Func} {tmps : Array Value} {ars : List (Nat × Option (Option Nat))} {v : AV} (hT : LR μ F w T tmps.toList) (hH : HR P μ F H w) (hars : fn.results.toList.mapM (cRes P) = some ars) (h : aap T H ars = some v) :
  ∃ u, (results fn tmps).run P w = .ok u w ∧ VR μ F w v u := by
 simp only [aap, Option.bind_eq_bind, bes] at h
 obtain ⟨vs, hvs, h⟩ := h
 obtain ⟨us, hus, hr⟩ := ad7 hT hH _ _ _ hars hvs
 have hm : (fn.results.mapM fun | .tmp t => pure (tmps.getD t undef) | .cell a t => do loadVar t (← asAddr (tmps.getD a undef)) : Sem (Array Value)).run P w = .ok us.toArray w := by
  rw [Array.mapM_eq_mapM_toList]
  simp only [Sem.run_map, hus, Result.andThen_ok]
 have hres : (results fn tmps).run P w = .ok (if h : us.toArray.size = 1 then us.toArray[0] else .tuple us.toArray) w := by
  unfold results
  simp only [Sem.run_bind]
  exact (congrArg (fun r : Result (Array Value) => r.andThen fun a w' => Sem.run P (pure (if h : a.size = 1 then a[0] else Value.tuple a)) w') hm)
 refine ⟨_, hres, ?_⟩
 split at h
 ·cases h
  match us, hr with
  | [u], hr => exact hr.head
  | [], hr => have := hr.1; simp at this
  | _ :: _ :: _, hr => have := hr.1; simp at this
 ·rename_i hne
  cases h
  have hl := hr.1
  have h1 : us.toArray.size ≠ 1 := by
   intro e
   simp at e
   match vs, hl with
   | [v], _ => exact hne v rfl
   | [], hl => simp at hl; omega
   | _ :: _ :: _, hl => simp at hl; omega
  rw [dif_neg h1]
  exact .tup _ _ (by simpa using hl) fun i c u hc hu => hr.2 i c u hc (by simpa using hu)
theorem anh (hH : HR P μ F H w) {D : Nat} {o : Obj} (hF : ¬ F D) (hn : ∀ b L, μ b = some L → L.blk ≠ D) : HR P μ F H (w.putObj D o) := by
 have hw : ∀ c, c ≠ D → (w.putObj D o).heap[c]? = w.heap[c]? := fun c hc => World.putObj_heap_other hc
 have hsz : (w.putObj D o).heap.size = w.heap.size := by simp [World.putObj]
 refine ⟨fun b L hb => ?_, fun c hc => ?_, fun b e hb => ?_, hH.inj, fun g cs hg => (hH.gl g cs hg).mono (fun _ _ h => h) (fun _ h => h) fun c hc => hw c fun e => hF (e ▸ hc)⟩
 ·rw [hsz]; exact hH.dom b L hb
 ·rw [hsz]; exact hH.fb c hc
 ·obtain ⟨L, hL, hE⟩ := hH.ent b e hb
  exact ⟨L, hL, hE.mono (fun _ _ h => h) (fun _ h => h) (fun c hc => hw c fun e => hF (e ▸ hc)) (hw _ (hn b L hL)) (fun hr => hE.notF hr)⟩
theorem afa {fn : Func} {tmps : Array Value} {ars : List (Nat × Option (Option Nat))} {v : AV} {μ0 : Mu} {H0 : Heap} {w0 : World} (n : Nat) (hars : fn.results.toList.mapM (cRes P) = some ars) (hv : aap T H ars = some v) :
  ∀ (Ds : List Nat) (w : World), Ds.Nodup → (∀ D ∈ Ds, w0.heap.size ≤ D ∧ D < w.heap.size ∧ w.heap[D]? = some (.deferred (some [])) ∧ ¬ F D ∧ ∀ b L, μ b = some L → L.blk ≠ D) →
   LR μ F w T tmps.toList → HR P μ F H w → Stp NoI P μ0 F H0 w0 μ F H w →
   LeavesInM Fence.wide n P fn tmps (fun e w' => ∃ u, e = .returned u ∧ ∃ μ', Done NoI P μ0 F H0 w0 v H u w' μ') (Ds.map fun D => { target := .collected D, args := #[] }) .returning w
 | [], w, _, _, hT, hH, hS => by
  obtain ⟨u, hu, hr⟩ := ach hT hH hars hv
  exact ⟨u, hu, u, rfl, μ, hr, hH, hS⟩
 | D :: Ds, w, hnd, hD, hT, hH, hS => by
  obtain ⟨g1, g2, g3, g4, g5⟩ := hD D (List.mem_cons_self ..)
  have hnd := List.nodup_cons.1 hnd
  have hw : ∀ c, c ≠ D → (w.putObj D (.deferred none)).heap[c]? = w.heap[c]? := fun c hc => World.putObj_heap_other hc
  have hsz : (w.putObj D (.deferred none)).heap.size = w.heap.size := by simp [World.putObj]
  refine ⟨fun e => (by cases e), .inl ⟨D, _, rfl, run_takeDeferred g3, ?_⟩⟩
  refine afa n hars hv Ds _ hnd.2 (fun D' hD' => ?_) (hT.mono (fun _ _ h => h) (fun _ h => h) fun c hc => hw c fun e => g4 (e ▸ hc)) (anh hH g4 g5) ?_
  ·obtain ⟨k1, k2, k3, k4, k5⟩ := hD D' (List.mem_cons_of_mem _ hD')
   exact ⟨k1, by rw [hsz]; exact k2, by rw [hw D' fun e => hnd.1 (e ▸ hD')]; exact k3, k4, k5⟩
  ·exact ⟨hS.mu, hS.fr, by rw [hsz]; exact hS.size, fun c hc hn => by rw [hw c (by omega)]; exact hS.keep c hc hn, hS.rw, hS.next, hS.new, hS.rng, hS.old, hS.alv, hS.tape, hS.os, hS.out⟩
theorem abx {μ : Mu} {F : Nat → Prop} {w : World} (n : Nat) : LR μ F w (List.replicate n .undef) (List.replicate n undef) := by
 induction n with
 | zero => exact LR.nil
 | succ n ih => exact LR.cons (.undef _) ih
theorem acd {cal : Cal} (hcal : CalOK P cal) (hmix : P.follows .mixedOrders = true) {m : Nat} {f : Nat} {fn : Func} {afn : AFn} {args : List AV} {v : AV} {H' : Heap} (hf : P.funcs[f]? = some fn) (hb : fn.body.isSome = true) (hb2 : ∀ c, fn.body = some c → cCode P c = some afn.body)
  (hars : fn.results.toList.mapM (cRes P) = some afn.results) (hnt : afn.ntmps = fn.ntmps)
  (h : runFn cal m afn args H = some (v, H')) {vs : List Value} (hvs : LR μ F w args vs) (hH : HR P μ F H w) (n : Nat) {fence : Fence} {rd : Bool} (hF : FenceOK fence rd) :
  CallsIn fence n P f vs.toArray w fun e w' => ∃ u, e = .returned u ∧ ∃ μ', Done NoI P μ F H w v H' u w' μ' := by
 have key : CallsIn Fence.wide n P f vs.toArray w fun e w' => ∃ u, e = .returned u ∧ ∃ μ', Done NoI P μ F H w v H' u w' μ' := by
  obtain ⟨c, hc⟩ := Option.isSome_iff_exists.1 hb
  unfold runFn at h
  split at h
  ·have hstart : StR P (w.heap.size, []) μ F H w (args ++ List.replicate (afn.ntmps - args.length) .undef) { tmps := vs.toArray ++ Array.replicate (fn.ntmps - vs.toArray.size) undef, defers := [] } := by
    refine ⟨?_, hH, DM.nil⟩
    have hl := hvs.1
    simp only [Array.toList_append, Array.toList_replicate, List.size_toArray]
    rw [← hl, hnt]
    exact hvs.append (abx _)
   refine callsIn_of_wp_marks hf hc trivial ?_
   have fin : ∀ (x : Ex) (T1 : Tm) (H1 : Heap), (x = .nrm ∨ x = .ret) → codeA cal m false afn.body (args ++ List.replicate (afn.ntmps - args.length) .undef) H = some (x, T1, H1) → (aap T1 H1 afn.results).map (fun v => (v, H1)) = some (v, H') →
     c.wpIn Fence.wide n P (bodyPostM Fence.wide n P fn fun e w' => ∃ u, e = .returned u ∧ ∃ μ', Done NoI P μ F H w v H' u w' μ') { tmps := vs.toArray ++ Array.replicate (fn.ntmps - vs.toArray.size) undef, defers := [] } w := by
    intro x T1 H1 hx hrun hres
    simp only [Option.map_eq_some_iff] at hres
    obtain ⟨v', hv', hres⟩ := hres
    cases hres
    refine aao hcal hmix c afn.body (hb2 c hc) _ _ _ _ _ hrun Fence.wide n (w.heap.size, []) μ F w _ _ (.inl ⟨rfl, rfl⟩) (Nat.le_refl _) hstart fun a' w' μ' hS' hst => ?_
    obtain ⟨Ds, e1, e2, e3⟩ := hS'.hD
    have e1 : a'.defers = Ds.map (fun D => ({ target := .collected D, args := #[] } : Deferred)) := e1.trans (List.append_nil _)
    have := afa (tmps := a'.tmps) (fn := fn) n hars hv' Ds w' e2 e3 hS'.hT hS'.hH hst
    rw [← e1] at this
    rcases hx with rfl | rfl <;> exact this
   split at h
   ·rename_i T1 H1 hrun; exact fin .nrm T1 H1 (.inl rfl) hrun h
   ·rename_i T1 H1 hrun; exact fin .ret T1 H1 (.inr rfl) hrun h
   ·cases h
  ·cases h
 rcases hF with ⟨_, rfl⟩ | ⟨_, l, rfl⟩
 ·exact key
 ·exact key
def ExtOK (P : Program) (f : Nat) (e : Ext) : Prop := ∀ H args v H', extA H e args = some (v, H') → ∀ (μ : Mu) (F : Nat → Prop) (w : World) (vs : List Value) (fence : Fence) (rd : Bool) (n : Nat), FenceOK fence rd → HR P μ F H w → LR μ F w args vs →
 Runs fence n P ((callFunc f vs.toArray).run P w) fun u w' => ∃ μ', Done NoI P μ F H w v H' u w' μ'
def TabOK (P : Program) (tab : Nat → Option AFn) : Prop := ∀ f afn, tab f = some afn → (∀ e, afn.ext = some e → ExtOK P f e) ∧ ((∀ e, afn.ext = some e → e.code = true) → ∃ fn, P.funcs[f]? = some fn ∧ cFn P fn = some afn)
theorem ahz {fn : Func} {afn : AFn} (h : cFn P fn = some afn) (he : afn.ext = none) : fn.body.isSome = true ∧ (∀ c, fn.body = some c → cCode P c = some afn.body) ∧ fn.results.toList.mapM (cRes P) = some afn.results ∧ afn.ntmps = fn.ntmps ∧ fn.name ≠ "runtime.NumGoroutine" := by
 unfold cFn at h
 split at h
 ·cases h; cases he
 split at h
 ·cases h; cases he
 split at h
 ·simp only [Option.bind_eq_bind, bes] at h
  obtain ⟨t, ht, d, hd, h⟩ := h
  split at h
  ·simp only [bes] at h
   obtain ⟨n, hn, b, hb, h⟩ := h
   cases h; cases he
  ·cases h
 ·simp only [Option.bind_eq_bind, bes] at h
  obtain ⟨b, hb, h⟩ := h
  split at h
  ·cases h
  ·rename_i hnm
   split at h
   ·simp only [bes] at h
    obtain ⟨t, ht, d, hd, h⟩ := h
    split at h
    ·simp only [bes] at h
     obtain ⟨rs, hrs, c, hc, u, hu, h⟩ := h
     cases h; cases he
    ·simp only [bes] at h
     obtain ⟨rs, hrs, c, hc, u, hu, h⟩ := h
     cases h; cases he
    ·cases h
   split at h
   ·simp only [bes] at h
    obtain ⟨rs, hrs, c, hc, h⟩ := h
    cases h; cases he
   ·split at h
    ·simp only [bes] at h
     obtain ⟨rs, hrs, h⟩ := h
     cases h; cases he
    ·simp only [bes] at h
     obtain ⟨rs, hrs, c, hc, h⟩ := h
     cases h
     exact ⟨by simp [hb], fun c' hc' => by rw [hb] at hc'; cases hc'; exact hc, hrs, rfl, hnm⟩
theorem cFn_keys {fn : Func} {afn : AFn} {str : Bool} {gs : List Nat} {ty : Nat} (h : cFn P fn = some afn) (he : afn.ext = some (.keys str gs ty)) : fn.body.isSome = true ∧ (∀ c, fn.body = some c → cCode P c = some afn.body) ∧ fn.results.toList.mapM (cRes P) = some afn.results ∧ afn.ntmps = fn.ntmps ∧ fn.name ≠ "runtime.NumGoroutine" := by
 unfold cFn at h
 split at h
 ·cases h; cases he
 split at h
 ·cases h; cases he
 split at h
 ·simp only [Option.bind_eq_bind, bes] at h
  obtain ⟨t, ht, d, hd, h⟩ := h
  split at h
  ·simp only [bes] at h
   obtain ⟨n, hn, b, hb, h⟩ := h
   cases h; cases he
  ·cases h
 ·simp only [Option.bind_eq_bind, bes] at h
  obtain ⟨b, hb, h⟩ := h
  split at h
  ·cases h
  ·rename_i hnm
   split at h
   ·simp only [bes] at h
    obtain ⟨t, ht, d, hd, h⟩ := h
    split at h
    ·simp only [bes] at h
     obtain ⟨rs, hrs, c, hc, u, hu, h⟩ := h
     cases h
     exact ⟨by simp [hb], fun c' hc' => by rw [hb] at hc'; cases hc'; exact hc, hrs, rfl, hnm⟩
    ·simp only [bes] at h
     obtain ⟨rs, hrs, c, hc, u, hu, h⟩ := h
     cases h
     exact ⟨by simp [hb], fun c' hc' => by rw [hb] at hc'; cases hc'; exact hc, hrs, rfl, hnm⟩
    ·cases h
   split at h
   ·simp only [bes] at h
    obtain ⟨rs, hrs, c, hc, h⟩ := h
    cases h; cases he
   ·split at h
    ·simp only [bes] at h
     obtain ⟨rs, hrs, h⟩ := h
     cases h; cases he
    ·simp only [bes] at h
     obtain ⟨rs, hrs, c, hc, h⟩ := h
     cases h; cases he
theorem cFn_rcv {fn : Func} {afn : AFn} {d : Nat} {c : ACode} (h : cFn P fn = some afn) (he : afn.ext = some (.rcv d c)) : ∃ b cc, fn.body = some b ∧ aeh b = some (d, cc) ∧ cCode P cc = some c ∧ fn.results.toList.mapM (cRes P) = some afn.results ∧ afn.ntmps = fn.ntmps ∧ fn.name ≠ "runtime.NumGoroutine" := by
 unfold cFn at h
 split at h
 ·cases h; cases he
 split at h
 ·cases h; cases he
 split at h
 ·simp only [Option.bind_eq_bind, bes] at h
  obtain ⟨t, ht, d, hd, h⟩ := h
  split at h
  ·simp only [bes] at h
   obtain ⟨n, hn, b, hb, h⟩ := h
   cases h; cases he
  ·cases h
 ·simp only [Option.bind_eq_bind, bes] at h
  obtain ⟨b, hb, h⟩ := h
  split at h
  ·cases h
  ·rename_i hnm
   split at h
   ·simp only [bes] at h
    obtain ⟨t, ht, d, hd, h⟩ := h
    split at h
    ·simp only [bes] at h
     obtain ⟨rs, hrs, c, hc, u, hu, h⟩ := h
     cases h; cases he
    ·simp only [bes] at h
     obtain ⟨rs, hrs, c, hc, u, hu, h⟩ := h
     cases h; cases he
    ·cases h
   split at h
   ·rename_i d' c' hrec
    simp only [bes] at h
    obtain ⟨rs, hrs, c, hc, h⟩ := h
    cases h; cases he
    exact ⟨b, c', hb, hrec, hc, hrs, rfl, hnm⟩
   ·split at h
    ·simp only [bes] at h
     obtain ⟨rs, hrs, h⟩ := h
     cases h; cases he
    ·simp only [bes] at h
     obtain ⟨rs, hrs, c, hc, h⟩ := h
     cases h; cases he
theorem cFn_dfr {fn : Func} {afn : AFn} {ab : ABody} (h : cFn P fn = some afn) (he : afn.ext = some (.dfr ab)) : ∃ b, fn.body = some b ∧ cBody P b = some ab ∧ fn.results.toList.mapM (cRes P) = some afn.results ∧ afn.ntmps = fn.ntmps ∧ fn.name ≠ "runtime.NumGoroutine" := by
 unfold cFn at h
 split at h
 ·cases h; cases he
 split at h
 ·cases h; cases he
 split at h
 ·simp only [Option.bind_eq_bind, bes] at h
  obtain ⟨t, ht, d, hd, h⟩ := h
  split at h
  ·simp only [bes] at h
   obtain ⟨n, hn, b, hb, h⟩ := h
   cases h; cases he
  ·cases h
 ·simp only [Option.bind_eq_bind, bes] at h
  obtain ⟨b, hb, h⟩ := h
  split at h
  ·cases h
  ·rename_i hnm
   split at h
   ·simp only [bes] at h
    obtain ⟨t, ht, d, hd, h⟩ := h
    split at h
    ·simp only [bes] at h
     obtain ⟨rs, hrs, c, hc, u, hu, h⟩ := h
     cases h; cases he
    ·simp only [bes] at h
     obtain ⟨rs, hrs, c, hc, u, hu, h⟩ := h
     cases h; cases he
    ·cases h
   split at h
   ·simp only [bes] at h
    obtain ⟨rs, hrs, c, hc, h⟩ := h
    cases h; cases he
   ·split at h
    ·rename_i ab' hab
     simp only [bes] at h
     obtain ⟨rs, hrs, h⟩ := h
     cases h; cases he
     exact ⟨b, hb, hab, hrs, rfl, hnm⟩
    ·simp only [bes] at h
     obtain ⟨rs, hrs, c, hc, h⟩ := h
     cases h; cases he
theorem aln {μ : Mu} {F : Nat → Prop} {w : World} : ∀ (ps : List Nat) (args : List AV) (vs : List Value) (T : Tm) (tm : Array Value), LR μ F w args vs → LR μ F w T tm.toList →
  LR μ F w (putsT T (ps.zip args)) ((ps.zip vs).foldl (fun (t : Array Value) (p : Nat × Value) => t.setIfInBounds p.1 p.2) tm).toList
 | [], args, vs, T, tm, _, h => by simpa [putsT] using h
 | p :: ps, [], [], T, tm, _, h => by simpa [putsT] using h
 | p :: ps, [], _ :: _, T, tm, h, _ => by have := h.1; simp at this
 | p :: ps, _ :: _, [], T, tm, h, _ => by have := h.1; simp at this
 | p :: ps, a :: args, v :: vs, T, tm, hl, h => by
  simp only [List.zip_cons_cons, putsT, List.foldl_cons]
  exact aln ps args vs _ _ hl.tail (by rw [Array.toList_setIfInBounds]; exact h.set p hl.head)
theorem aa5 {f : Nat} {fn : Func} (hf : P.funcs[f]? = some fn) (hb : fn.body.isSome = true) (hn : fn.name ≠ "runtime.NumGoroutine") (args : Array Value) (w : World) : (callFunc f args).run P w = .ok (.enter f args) w := by
 obtain ⟨c, hc⟩ := Option.isSome_iff_exists.1 hb
 simp [callFunc, hf, hn, hc]
/-! ### Marks, shut -/
structure Shut (Ds : List Nat) (w w' : World) : Prop where
 other : ∀ c, c ∉ Ds → w'.heap[c]? = w.heap[c]?
 size : w'.heap.size = w.heap.size
 tape : w'.tape = w.tape
 os : w'.os = w.os
 out : w'.output = w.output
theorem Shut.nil (w : World) : Shut [] w w := ⟨fun _ _ => rfl, rfl, rfl, rfl, rfl⟩
theorem Shut.cons {D : Nat} {Ds : List Nat} {w w' : World} (h : Shut Ds (w.putObj D (.deferred none)) w') : Shut (D :: Ds) w w' :=
 ⟨fun c hc => (h.other c fun hm => hc (List.mem_cons_of_mem _ hm)).trans (World.putObj_heap_other fun e => hc (e ▸ List.mem_cons_self ..)), h.size.trans (by simp [World.putObj]), h.tape, h.os, h.out⟩
theorem abg {n : Nat} {fn : Func} {tmps : Array Value} {R : Ending → World → Prop} {rest : List Deferred} {u : FrameMode} (hu : u ≠ .run) : ∀ (Ds : List Nat) (w : World), Ds.Nodup → (∀ D ∈ Ds, w.heap[D]? = some (.deferred (some []))) →
  (∀ w', Shut Ds w w' → LeavesInM Fence.wide n P fn tmps R rest u w') → LeavesInM Fence.wide n P fn tmps R (Ds.map (fun D => { target := .collected D, args := #[] }) ++ rest) u w
 | [], w, _, _, h => h w (Shut.nil w)
 | D :: Ds, w, hnd, hD, h => by
  have hnd := List.nodup_cons.1 hnd
  refine ⟨hu, .inl ⟨D, _, rfl, run_takeDeferred (hD D (List.mem_cons_self ..)), ?_⟩⟩
  exact abg hu Ds _ hnd.2 (fun D' hD' => (World.putObj_heap_other (fun (e : D' = D) => hnd.1 (e ▸ hD'))).trans (hD D' (List.mem_cons_of_mem _ hD'))) fun w' hs => h w' hs.cons
theorem af9 {cs : List Frame} : ∀ (Ds : List Nat) (fr : Frame) (w : World), fr.mode ≠ .run → fr.defers = Ds.map (fun D => { target := .collected D, args := #[] }) → Ds.Nodup → (∀ D ∈ Ds, w.heap[D]? = some (.deferred (some []))) →
  ∃ w', Shut Ds w w' ∧ StepsIn (Machine.fenced P Fence.wide) P (lone fr cs w) (lone { fr with defers := [] } cs w')
 | [], fr, w, _, hd, _, _ => ⟨w, Shut.nil w, by
   have : ({ fr with defers := [] } : Frame) = fr := by cases fr; simp only at hd; subst hd; rfl
   rw [this]; exact .refl _⟩
 | D :: Ds, fr, w, hm, hd, hnd, hD => by
  have hnd := List.nodup_cons.1 hnd
  obtain ⟨w', hs, hst⟩ := af9 Ds { fr with defers := [] ++ Ds.map (fun D => { target := .collected D, args := #[] }) } (w.putObj D (.deferred none)) hm rfl hnd.2 (fun D' hD' => (World.putObj_heap_other (fun (e : D' = D) => hnd.1 (e ▸ hD'))).trans (hD D' (List.mem_cons_of_mem _ hD')))
  exact ⟨w', hs.cons, .head (fenced_wide P _) (step_collected hm hd rfl (run_takeDeferred (hD D (List.mem_cons_self ..)))) hst⟩
theorem Shut.hr {Ds : List Nat} {w w' : World} (h : Shut Ds w w') (hH : HR P μ F H w) (hD : ∀ D ∈ Ds, ¬ F D ∧ ∀ b L, μ b = some L → L.blk ≠ D) : HR P μ F H w' := by
 have hF : ∀ c, F c → w'.heap[c]? = w.heap[c]? := fun c hc => h.other c fun hm => (hD c hm).1 hc
 refine ⟨fun b L hb => ?_, fun c hc => ?_, fun b e hb => ?_, hH.inj, fun g cs hg => (hH.gl g cs hg).mono (fun _ _ h => h) (fun _ h => h) hF⟩
 ·rw [h.size]; exact hH.dom b L hb
 ·rw [h.size]; exact hH.fb c hc
 ·obtain ⟨L, hL, hE⟩ := hH.ent b e hb
  exact ⟨L, hL, hE.mono (fun _ _ h => h) (fun _ h => h) hF (h.other _ fun hm => (hD _ hm).2 b L hL rfl) (fun hr => hE.notF hr)⟩
theorem Shut.lr {Ds : List Nat} {w w' : World} {as : List AV} {vs : List Value} (h : Shut Ds w w') (hl : LR μ F w as vs) (hD : ∀ D ∈ Ds, ¬ F D) : LR μ F w' as vs :=
 hl.mono (fun _ _ h => h) (fun _ h => h) fun c hc => h.other c fun hm => hD c hm hc
theorem Shut.stp {Ds : List Nat} {w0 w w' : World} {μ0 : Mu} {H0 : Heap} (h : Shut Ds w w') (hS : Stp NoI P μ0 F H0 w0 μ F H w) (hD : ∀ D ∈ Ds, w0.heap.size ≤ D) : Stp NoI P μ0 F H0 w0 μ F H w' :=
 ⟨hS.mu, hS.fr, by rw [h.size]; exact hS.size, fun c hc hn => (h.other c fun hm => by have := hD c hm; omega).trans (hS.keep c hc hn), hS.rw, hS.next, hS.new, hS.rng, hS.old, hS.alv, h.tape.trans hS.tape, h.os.trans hS.os, h.out.trans hS.out⟩
theorem ajv {fn : Func} {tmps : Array Value} {ars : List (Nat × Option (Option Nat))} {v : AV} {μ0 : Mu} {H0 : Heap} {w0 w : World} {T : Tm} {b1 : Nat} (n : Nat) (hars : fn.results.toList.mapM (cRes P) = some ars) (hv : aap T H ars = some v) {ds : List Deferred}
  (hd : DM (b1, []) μ F w ds) (hb : w0.heap.size ≤ b1) (hT : LR μ F w T tmps.toList) (hH : HR P μ F H w) (hS : Stp NoI P μ0 F H0 w0 μ F H w) :
  LeavesInM Fence.wide n P fn tmps (fun e w' => ∃ u, e = .returned u ∧ ∃ μ', Done NoI P μ0 F H0 w0 v H u w' μ') ds .returning w := by
 obtain ⟨Ds, e1, e2, e3⟩ := hd
 rw [e1]
 refine abg (fun e => by cases e) Ds w e2 (fun D hD => (e3 D hD).2.2.1) fun w' hs => ?_
 have hH' := hs.hr hH fun D hD => (e3 D hD).2.2.2
 have hT' := hs.lr hT fun D hD => (e3 D hD).2.2.2.1
 obtain ⟨u, hu, hr⟩ := ach hT' hH' hars hv
 exact ⟨u, hu, u, rfl, μ, hr, hH', hs.stp hS fun D hD => by have := (e3 D hD).1; simp only at this; omega⟩
/-! ### Deferred functions -/
def anv (P : Program) (fn : Func) (c₀ : Frame) (cs : List Frame) (R : Ending → FrameMode → World → Prop) : Exit → Act → List Frame → World → Prop
 | .normal, a, cs', w | .ret, a, cs', w =>
  ∃ Ds : List Nat, a.defers = Ds.map (fun D => { target := .collected D, args := #[] }) ∧ Ds.Nodup ∧ (∀ D ∈ Ds, w.heap[D]? = some (.deferred (some []))) ∧ ∃ u', cs' = { c₀ with mode := u' } :: cs ∧
   ∀ w', Shut Ds w w' → ∃ v, (results fn a.tmps).run P w' = .ok v w' ∧ R (.returned v) u' w'
 | _, _, _, _ => False
theorem agu {n : Nat} {f : FuncId} {fn : Func} {c : Code} {args : Array Value} {u : FrameMode} {w : World} {R : Ending → FrameMode → World → Prop}
  (hf : P.funcs[f]? = some fn) (hb : fn.body = some c)
  (h : ∀ (c₀ : Frame) (cs : List Frame), c₀.mode = u → c.wpSIn Fence.wide n P (anv P fn c₀ cs R) { tmps := args ++ Array.replicate (fn.ntmps - args.size) undef, defers := [] } (c₀ :: cs) w) :
  CallsDIn Fence.wide n P f args u w R := by
 refine ⟨trivial, fun c₀ cs hu hroom => ?_⟩
 let b : Frame := { (default : Frame) with fn := f, kind := .deferred, roundOf := none }
 have henter : Frame.enter P f args .deferred = b.atR { tmps := args ++ Array.replicate (fn.ntmps - args.size) undef, defers := [] } [.code c] := by
  simp [Frame.enter, Frame.atR, hf, hb, b]
 obtain ⟨e, a', cs', w', hl, hq, harr⟩ := h c₀ cs hu b [] rfl rfl trivial hroom
 rw [← henter] at harr
 have fin : ∀ (todo : List Item), StepsIn (Machine.fenced P Fence.wide) P (lone (Frame.enter P f args .deferred) (c₀ :: cs) w) (lone { b.atR a' todo with mode := .returning } cs' w') →
   (∃ Ds : List Nat, a'.defers = Ds.map (fun D => { target := .collected D, args := #[] }) ∧ Ds.Nodup ∧ (∀ D ∈ Ds, w'.heap[D]? = some (.deferred (some []))) ∧ ∃ u', cs' = { c₀ with mode := u' } :: cs ∧
    ∀ w2, Shut Ds w' w2 → ∃ v, (results fn a'.tmps).run P w2 = .ok v w2 ∧ R (.returned v) u' w2) →
   ∃ e u' w' fr, R e u' w' ∧ ComesIn (Machine.fenced P Fence.wide) P (lone (Frame.enter P f args .deferred) (c₀ :: cs) w) (lone fr ({ c₀ with mode := u' } :: cs) w') e ∧ fr.kind = .deferred ∧ fr.fn = f ∧ fr.going P w' e := by
  intro todo hst ⟨Ds, d1, d2, d3, u', hcs, hres⟩
  subst hcs
  obtain ⟨w2, hsh, hst2⟩ := af9 (P := P) (cs := { c₀ with mode := u' } :: cs) Ds { b.atR a' todo with mode := .returning } w' (fun e => by cases e) d1 d2 d3
  obtain ⟨v, hr, hR⟩ := hres w2 hsh
  exact ⟨.returned v, u', w2, _, hR, StepsIn.trans hst hst2, rfl, rfl, rfl, rfl, fn, hf, hr⟩
 cases e with
 | normal => exact fin [] (StepsIn.trans harr (.one (fenced_wide P _) (stepR_end rfl))) hq
 | ret =>
  obtain ⟨todo, hs⟩ := harr.1 rfl
  exact fin todo hs hq
 | panic chain => exact hq.elim
 | exit id => exact hq.elim
 | goto l => exact hq.elim
 | outgrown => exact hq.elim
def ModeOf (μ : Mu) (F : Nat → Prop) (w : World) (p : Option AV) (u : FrameMode) : Prop :=
 match p with
 | none => u = .returning
 | some v => ∃ x, VR μ F w v x ∧ u = .panicking [{ v := x, recovered := false }]
theorem air {b cc : Code} {d : Nat} (h : aeh b = some (d, cc)) : ∃ id ops o, b = .seq (.region id ops false) cc ∧ ops.toList = [o] ∧ (∃ args ts, o.op = .call ⟨.builtin .recover, args, ts⟩ ∧ args.size = 0) ∧ o.dst = some d ∧ o.guard = none := by
 unfold aeh at h
 split at h
 ·split at h
  ·rename_i hl
   split at h
   ·rename_i ha
    cases h
    exact ⟨_, _, _, rfl, hl, ⟨_, _, rfl, ha⟩, rfl, rfl⟩
   ·cases h
  ·cases h
 ·cases h
theorem ai3 {tab : Nat → Option AFn} {cal : Cal} (hcal : CalOK P cal) (hmix : P.follows .mixedOrders = true) (htab : TabOK P tab) {m : Nat} {p : Option AV} {fv : AV} {H2 : Heap} {gv : Value} {dfr : Deferred} {u : FrameMode} (n : Nat)
  (h : af4 tab cal m p fv H = some H2) (hv : VR μ F w fv gv) (hd : (Deferred.ofValue gv #[]).run P w = .ok dfr w) (hH : HR P μ F H w) (hu : ModeOf μ F w p u) :
  ∃ fv' cap f' args', dfr.target = .fn fv' cap ∧ (invoke dfr.target dfr.args).run P w = .ok (.enter f' args') w ∧ CallsDIn Fence.wide n P f' args' u w fun e u' w' => (∃ rv, e = .returned rv) ∧ settle u' = .returning ∧ ∃ μ', HR P μ' F H2 w' ∧ Stp NoI P μ F H w μ' F H2 w' := by
 unfold af4 at h
 split at h
 rotate_left
 ·cases h
 rename_i g args ht
 split at h
 rotate_left
 ·cases h
 rename_i gn hg
 split at h
 rotate_left
 ·cases h
 rename_i d c hext
 split at h
 rotate_left
 ·cases h
 rename_i hlen
 cases fv <;> simp only [aco] at ht <;> first | (cases ht; done) | skip
 rename_i fn first cap
 cases fn <;> simp only at ht <;> first | (cases ht; done) | skip
 rename_i fi
 cases ht
 cases hv with
 | fn _ _ _ us vs h1 h2 h3 h4 =>
 obtain ⟨-, t2⟩ := htab g gn hg
 obtain ⟨gfn, hgf, hcf⟩ := t2 fun e he => by rw [hext] at he; cases he; rfl
 obtain ⟨b, cc, k1, k2, k3, k4, k5, k6⟩ := cFn_rcv hcf hext
 obtain ⟨id, ops, o, rfl, hops, ⟨ca, cts, hop, hca⟩, hod, hog⟩ := air k2
 have hdfr : dfr = { target := .fn (.func g) vs, args := us ++ #[] } := by
  simp only [Deferred.ofValue, Sem.run_pure, Result.ok.injEq, and_true] at hd
  exact hd.symm
 subst hdfr
 refine ⟨.func g, vs, g, us ++ #[] ++ vs, rfl, ?_, ?_⟩
 ·simp only [invoke]
  exact aa5 hgf (by rw [k1]; rfl) k6 _ _
 have hl : LR μ F w (first ++ [] ++ cap) (us ++ #[] ++ vs).toList := by
  have := ((LR.of_agg h1 h2).append LR.nil).append (LR.of_agg h3 h4)
  simpa using this
 have hstart : LR μ F w (first ++ [] ++ cap ++ List.replicate (gn.ntmps - (first ++ [] ++ cap).length) AV.undef) ((us ++ #[] ++ vs) ++ Array.replicate (gfn.ntmps - (us ++ #[] ++ vs).size) undef).toList := by
  have e : (us ++ #[] ++ vs).size = (first ++ [] ++ cap).length := by have := hl.1; simp only [Array.length_toList] at this; exact this.symm
  rw [Array.toList_append, Array.toList_replicate, e, k5]
  exact hl.append (abx _)
 refine agu hgf k1 fun c₀ cs hc₀ => ?_
 have hsz : ops.size = 1 := by rw [← Array.length_toList, hops]; rfl
 have ho0 : ops[0]? = some o := by
  have : ops.toList[0]? = some o := by rw [hops]; rfl
  simpa using this
 refine wpSIn_seq (wpSIn_region ?_)
 rw [hsz]
 show wpOpsSIn Fence.wide n P ops _ [0] _ _ w
 simp only [wpOpsSIn, ho0]
 refine ⟨fun f _ => trivial, ?_⟩
 have hwant : ∀ tm, Region.wanted o (yielded ops tm) = true := fun tm => by unfold Region.wanted; rw [hog]
 rw [if_pos (hwant _)]
 have hrec : ∀ ρ : Operand → Value, (execOp ρ o).run P w = .ok .recover w := by
  intro ρ
  have : ca = #[] := Array.eq_empty_of_size_eq_zero hca
  subst this
  unfold execOp
  rw [hop]
  rfl
 rw [hrec]
 simp only
 -- what is recovered
 have rest : ∀ (x : Value) (u' : FrameMode), VR μ F w (p.getD .nilIf) x → settle u' = .returning →
   cc.wpSIn Fence.wide n P (anv P gfn c₀ cs fun e u' w' => (∃ rv, e = .returned rv) ∧ settle u' = .returning ∧ ∃ μ', HR P μ' F H2 w' ∧ Stp NoI P μ F H w μ' F H2 w')
    (({ tmps := (us ++ #[] ++ vs) ++ Array.replicate (gfn.ntmps - (us ++ #[] ++ vs).size) undef, defers := [] } : Act).put o.dst x) ({ c₀ with mode := u' } :: cs) w := by
  intro x u' hx hset
  refine wpSIn_of_wpIn rfl ?_
  have hst0 : StR P (w.heap.size, []) μ F H w ((first ++ [] ++ cap ++ List.replicate (gn.ntmps - (first ++ [] ++ cap).length) AV.undef).set d (p.getD .nilIf)) (({ tmps := (us ++ #[] ++ vs) ++ Array.replicate (gfn.ntmps - (us ++ #[] ++ vs).size) undef, defers := [] } : Act).put o.dst x) := by
   refine ⟨?_, hH, ?_⟩
   ·rw [hod]
    simp only [Act.put, Array.toList_setIfInBounds]
    exact hstart.set d hx
   ·rw [hod]; exact DM.nil (B := (w.heap.size, []))
  have fin : ∀ (ex : Ex) (T3 : Tm) (H3 : Heap), (ex = .nrm ∨ ex = .ret) → codeA cal m false c ((first ++ [] ++ cap ++ List.replicate (gn.ntmps - (first ++ [] ++ cap).length) AV.undef).set d (p.getD .nilIf)) H = some (ex, T3, H3) →
    ((aap T3 H3 gn.results).map fun _ => H3) = some H2 → cc.wpIn Fence.wide n P (fun e a' w' => anv P gfn c₀ cs (fun e u' w' => (∃ rv, e = .returned rv) ∧ settle u' = .returning ∧ ∃ μ', HR P μ' F H2 w' ∧ Stp NoI P μ F H w μ' F H2 w') e a' ({ c₀ with mode := u' } :: cs) w')
     (({ tmps := (us ++ #[] ++ vs) ++ Array.replicate (gfn.ntmps - (us ++ #[] ++ vs).size) undef, defers := [] } : Act).put o.dst x) w := by
   intro ex T3 H3 hex hrun hres
   simp only [Option.map_eq_some_iff] at hres
   obtain ⟨rv, hrv, rfl⟩ := hres
   refine aao hcal hmix cc c k3 _ _ _ _ _ hrun Fence.wide n (w.heap.size, []) μ F w _ _ (.inl ⟨rfl, rfl⟩) (Nat.le_refl _) hst0 fun a' w' μ' hS' hst => ?_
   obtain ⟨Ds, e1, e2, e3⟩ := hS'.hD
   have e1 : a'.defers = Ds.map (fun D => ({ target := .collected D, args := #[] } : Deferred)) := e1.trans (List.append_nil _)
   have goal : ∃ Ds : List Nat, a'.defers = Ds.map (fun D => ({ target := .collected D, args := #[] } : Deferred)) ∧ Ds.Nodup ∧ (∀ D ∈ Ds, w'.heap[D]? = some (.deferred (some []))) ∧ ∃ u2, ({ c₀ with mode := u' } :: cs : List Frame) = { c₀ with mode := u2 } :: cs ∧
     ∀ w2, Shut Ds w' w2 → ∃ v, (results gfn a'.tmps).run P w2 = .ok v w2 ∧ ((∃ rv, Ending.returned v = .returned rv) ∧ settle u2 = .returning ∧ ∃ μ', HR P μ' F H3 w2 ∧ Stp NoI P μ F H w μ' F H3 w2) := by
    refine ⟨Ds, e1, e2, fun D hD => (e3 D hD).2.2.1, u', rfl, fun w2 hsh => ?_⟩
    have hH' := hsh.hr hS'.hH fun D hD => (e3 D hD).2.2.2
    have hT' := hsh.lr hS'.hT fun D hD => (e3 D hD).2.2.2.1
    obtain ⟨v, hv, -⟩ := ach hT' hH' k4 hrv
    exact ⟨v, hv, ⟨v, rfl⟩, hset, μ', hH', hsh.stp hst fun D hD => (e3 D hD).1⟩
   rcases hex with rfl | rfl <;> exact goal
  split at h
  ·rename_i T3 H3 hrun; exact fin .nrm T3 H3 (.inl rfl) hrun h
  ·rename_i T3 H3 hrun; exact fin .ret T3 H3 (.inr rfl) hrun h
  ·cases h
 cases p with
 | none =>
  have hu : u = .returning := hu
  have hr : recoverD (c₀ :: cs) = none := by simp only [recoverD, hc₀, hu]
  rw [hr]
  have e : ({ c₀ with mode := .returning } : Frame) = c₀ := by rw [← hu, ← hc₀]
  have := rest .nilIface .returning .nilIf rfl
  rw [e] at this
  exact this
 | some v =>
  obtain ⟨x, hx, hu⟩ := hu
  have hr : recoverD (c₀ :: cs) = some (x, { c₀ with mode := .panicking [{ v := x, recovered := true }] } :: cs) := by simp only [recoverD, hc₀, hu]
  rw [hr]
  exact rest x _ hx rfl
/-! ### Bodies that defer -/
def ah6 (P : Program) : ABody → Code → Prop
 | .code ac, c => cCode P c = some ac
 | .seq a b, c => ∃ c1 c2, c = .seq c1 c2 ∧ cCode P c1 = some a ∧ ah6 P b c2
 | .dfr ops f b, c => ∃ c1 c2 ops0 os g, c = .seq c1 c2 ∧ afh c1 = some (ops0, os, g) ∧ os.mapM (cROp P ops0) = some ops ∧ cSrc g = some f ∧ ah6 P b c2
theorem ajt : ∀ (c : Code) (ab : ABody), cBody P c = some ab → ah6 P ab c := by
 intro c
 induction c with
 | seq a b iha ihb =>
  intro ab h
  simp only [cBody] at h
  split at h
  ·rename_i ops os g hd
   simp only [Option.bind_eq_bind, bes, Option.map_eq_some_iff] at h
   obtain ⟨ro, hro, f, hf, b', ⟨c', hc', rfl⟩, h⟩ := h
   cases h
   exact ⟨a, b, ops, os, g, rfl, hd, hro, hf, hc'⟩
  ·split at h
   ·rename_i b' hb'
    simp only [Option.bind_eq_bind, bes] at h
    obtain ⟨a', ha', h⟩ := h
    cases h
    exact ⟨a, b, rfl, ha', ihb b' hb'⟩
   ·cases h
 | _ => intro ab h; cases h
theorem ajl {c : Code} {ops : Array Oper} {os : List Oper} {g : Operand} (h : afh c = some (ops, os, g)) : ∃ id o, c = .region id ops false ∧ ops.toList = os ++ [o] ∧ (∃ args ts, o.op = .defer ⟨.value g, args, ts⟩ ∧ args.size = 0) ∧ o.dst = none ∧ o.guard = none := by
 unfold afh at h
 split at h
 ·split at h
  ·rename_i hl
   split at h
   ·rename_i ha
    cases h
    obtain ⟨ys, hys⟩ := List.getLast?_eq_some_iff.1 hl
    have e : ∀ (o : Oper), ops.toList = ys ++ [o] → ops.toList = ops.toList.dropLast ++ [o] := fun o h => by rw [h]; simp
    exact ⟨_, _, rfl, e _ hys, ⟨_, _, rfl, ha⟩, rfl, rfl⟩
   ·cases h
  ·cases h
 ·cases h
def EndOK (P : Program) (B : Nat × List Deferred) (d : Option AV) (μ : Mu) (F : Nat → Prop) (H : Heap) (w : World) (T : Tm) (a : Act) : Prop :=
 match d with
 | none => StR P B μ F H w T a
 | some fv => LR μ F w T a.tmps.toList ∧ HR P μ F H w ∧ ∃ gv dfr ds0 b1, VR μ F w fv gv ∧ (∀ w, (Deferred.ofValue gv #[]).run P w = .ok dfr w) ∧ DM (b1, dfr :: ds0) μ F w a.defers ∧ B.1 ≤ b1 ∧ ∀ w2 : World, (∀ c, c < b1 → w2.heap[c]? = w.heap[c]?) → w.heap.size ≤ w2.heap.size → DM B μ F w2 ds0
theorem agr {cal : Cal} {pc : PCal} (hcal : CalOK P cal) (hpc : acy P pc) (hmix : P.follows .mixedOrders = true) {m : Nat} : ∀ (ab : ABody) (c : Code), ah6 P ab c → ∀ (T : Tm) (H : Heap) (p d : Option AV) (T' : Tm) (H' : Heap), bodyB cal pc m ab T H = some (p, d, T', H') →
  ∀ (n : Nat) (B : Nat × List Deferred) (μ : Mu) (w : World) (a : Act) (Q : Exit → Act → World → Prop), B.1 ≤ w.heap.size → StR P B μ F H w T a →
  (∀ a' w' μ', EndOK P B d μ' F H' w' T' a' → Stp NoI P μ F H w μ' F H' w' → (p = none → Q .normal a' w' ∧ Q .ret a' w') ∧ (∀ v u, p = some v → VR μ' F w' v u → Q (.panic [{ v := u, recovered := false }]) a' w')) → c.wpIn Fence.wide n P Q a w := by
 intro ab
 have hF : FenceOK Fence.wide false := .inl ⟨rfl, rfl⟩
 induction ab with
 | code ac =>
  intro c hb T H p d T' H' h n B μ w a Q hB hS hQ
  simp only [bodyB] at h
  split at h
  ·rename_i T1 H1 hrun
   cases h
   exact aao hcal hmix c ac hb T H _ _ _ (ac4 _ _ _ _ _ _ hrun) Fence.wide n B μ F w a Q hF hB hS fun a' w' μ' hS' hst => ((hQ a' w' μ' hS' hst).1 rfl).1
  ·rename_i T1 H1 hrun
   cases h
   exact aao hcal hmix c ac hb T H _ _ _ (ac4 _ _ _ _ _ _ hrun) Fence.wide n B μ F w a Q hF hB hS fun a' w' μ' hS' hst => ((hQ a' w' μ' hS' hst).1 rfl).2
  ·rename_i v T1 H1 hrun
   cases h
   exact adk hcal hpc hmix c ac hb T H _ _ _ hrun Fence.wide n B μ F w a Q hF hB hS fun a' w' μ' u hu hS' hst => (hQ a' w' μ' hS' hst).2 v u rfl hu
  ·cases h
 | seq ac b ih =>
  intro c hb T H p d T' H' h n B μ w a Q hB hS hQ
  obtain ⟨c1, c2, rfl, h1, h2⟩ := hb
  simp only [bodyB] at h
  refine wpIn_seq ?_
  split at h
  ·rename_i T1 H1 hrun
   refine aao hcal hmix c1 ac h1 T H _ _ _ (ac4 _ _ _ _ _ _ hrun) Fence.wide n B μ F w a _ hF hB hS fun a' w' μ' hS' hst => ?_
   exact ih c2 h2 T1 H1 p d T' H' h n B μ' w' a' Q (Nat.le_trans hB hst.size) hS' fun a2 w2 μ2 hE hst2 => hQ a2 w2 μ2 hE (hst.trans hst2)
  ·rename_i T1 H1 hrun
   cases h
   exact aao hcal hmix c1 ac h1 T H _ _ _ (ac4 _ _ _ _ _ _ hrun) Fence.wide n B μ F w a _ hF hB hS fun a' w' μ' hS' hst => ((hQ a' w' μ' hS' hst).1 rfl).2
  ·rename_i v T1 H1 hrun
   cases h
   exact adk hcal hpc hmix c1 ac h1 T H _ _ _ hrun Fence.wide n B μ F w a _ hF hB hS fun a' w' μ' u hu hS' hst => (hQ a' w' μ' hS' hst).2 v u rfl hu
  ·cases h
 | dfr ops f b ih =>
  intro c hb T H p d T' H' h n B μ w a Q hB hS hQ
  obtain ⟨c1, c2, ops0, os, g, rfl, hd, hro, hsf, hb⟩ := hb
  obtain ⟨id, o, rfl, hops, ⟨ca, cts, hop, hca⟩, hod, hog⟩ := ajl hd
  simp only [bodyB] at h
  split at h
  rotate_left
  ·cases h
  rename_i T1 H1 hrun
  split at h
  rotate_left
  ·cases h
  rename_i gf fs cs hfv
  split at h
  rotate_left
  ·cases h
  rename_i p1 T2 H2 hrun2
  cases h
  have hlen : ops.length = os.length := by have := (aew _ _ hro).1; omega
  have hsz : ops0.size = os.length + 1 := by rw [← Array.length_toList, hops]; simp
  have hoi : ops0[os.length]? = some o := by
   have : ops0.toList[os.length]? = some o := by rw [hops]; simp
   simpa using this
  refine wpIn_seq (wpIn_region ?_)
  have hlist : List.range ops0.size = List.range' 0 os.length ++ [os.length] := by rw [hsz, List.range_succ, List.range_eq_range']
  rw [hlist]
  refine adf hcal hF (n := n) (ops := ops0) (base := H.next) (top := H.next + os.length) (tail := [os.length]) os ops 0 H.next μ { H with next := H.next + (ops.length + 1) } w T a (fun k o' hk => ?_) hro hrun (Nat.le_refl _) (Nat.le_refl _) (by show H.next + os.length ≤ H.next + (ops.length + 1); omega)
   (fun j h1 _ => aal hS.hH (by omega)) hS.hT (hS.hH.bump _) (fun a1 w1 μ1 hd1 hT1 hH1 hS1 => ?_)
  ·have hlt := (List.getElem?_eq_some_iff.1 hk).1
   have : ops0.toList[0 + k]? = some o' := by rw [hops, Nat.zero_add, List.getElem?_append_left hlt]; exact hk
   simpa using this
  have hst1 : Stp NoI P μ F H w μ1 F H1 w1 := adz (Stp.refl _ _ _ _ _ _) (hS1.mono fun b hb => hb.1)
  have hv := aad hT1 hsf
  rw [hfv] at hv
  obtain ⟨gv, hgv⟩ : ∃ gv, gv = a1.eval g := ⟨_, rfl⟩
  rw [← hgv] at hv
  obtain ⟨us, vs, hgf⟩ : ∃ us vs, gv = .func (.func gf) us vs := by cases hv with | fn _ _ _ us vs _ _ _ _ => exact ⟨us, vs, rfl⟩
  obtain ⟨dfr, hdfr⟩ : ∃ dfr : Deferred, dfr = { target := .fn (.func gf) vs, args := us ++ #[] } := ⟨_, rfl⟩
  have hof : ∀ w, (Deferred.ofValue gv #[]).run P w = .ok dfr w := fun w => by rw [hgf, hdfr]; rfl
  have hsem : (o.semAt Fence.wide.round a1.eval).run P w1 = .ok (.defer dfr) w1 := by
   have : ca = #[] := Array.eq_empty_of_size_eq_zero hca
   subst this
   show (Oper.semAt none a1.eval o).run P w1 = _
   rw [Oper.semAt_none]
   unfold execOp
   rw [hop]
   have hr : (resolve a1.eval ⟨.value g, #[], cts⟩ o.type).run P w1 = .ok dfr w1 := by
    simp only [resolve, ← hgv]
    simpa using hof w1
   simp [hr]
  simp only [wpOpsIn, hoi]
  rw [if_pos (by unfold Region.wanted; rw [hog])]
  refine ⟨fun f _ => trivial, ?_⟩
  rw [hsem, Oper.uponIn_defer, hod]
  show c2.wpIn Fence.wide n P Q { a1 with defers := dfr :: a1.defers } w1
  have hStart : StR P (w1.heap.size, dfr :: a1.defers) μ1 F H1 w1 T1 { a1 with defers := dfr :: a1.defers } := ⟨hT1, hH1, DM.nil (B := (w1.heap.size, dfr :: a1.defers))⟩
  refine ih c2 hb T1 H1 p none T' H' hrun2 n (w1.heap.size, dfr :: a1.defers) μ1 w1 _ Q (Nat.le_refl _) hStart fun a2 w2 μ2 hE hst2 => ?_
  have hE : StR P (w1.heap.size, dfr :: a1.defers) μ2 F H' w2 T' a2 := hE
  have hD0 : ∀ w3 : World, (∀ c, c < w1.heap.size → w3.heap[c]? = w2.heap[c]?) → w2.heap.size ≤ w3.heap.size → DM B μ2 F w3 a1.defers := by
   intro w3 hw3 hs3
   have h0 : DM B μ1 F w1 a1.defers := by rw [hd1]; exact hS.hD.stp hst1
   obtain ⟨Ds, g1, g2, g3⟩ := h0
   refine ⟨Ds, g1, g2, fun D hD => ?_⟩
   obtain ⟨k1, k2, k3, k4, k5⟩ := g3 D hD
   have := hst2.size
   refine ⟨k1, by omega, (hw3 D k2).trans ((hst2.keep D k2 fun b L _ hL => k5 b L hL).trans k3), k4, fun b L hb => ?_⟩
   rcases hst2.rng b L hb with ⟨b0, L0, h0, e⟩ | hge
   ·rw [← e]; exact k5 b0 L0 h0
   ·omega
  have := hQ a2 w2 μ2 ⟨hE.hT, hE.hH, gv, dfr, a1.defers, w1.heap.size, hst2.vr hH1 hv, hof, hE.hD, Nat.le_trans hB hst1.size, hD0⟩ (hst1.trans hst2)
  exact this
theorem ai4 {tab : Nat → Option AFn} {cal : Cal} {pc : PCal} (hcal : CalOK P cal) (hpc : acy P pc) (hmix : P.follows .mixedOrders = true) (htab : TabOK P tab) {m : Nat} {f : Nat} {fn : Func} {afn : AFn} {ab : ABody} {args : List AV} {v : AV} {H' : Heap} (hf : P.funcs[f]? = some fn)
  {c : Code} (hb : fn.body = some c) (hab : cBody P c = some ab) (hars : fn.results.toList.mapM (cRes P) = some afn.results) (hnt : afn.ntmps = fn.ntmps)
  (h : ag9 tab cal pc m afn ab args H = some (v, H')) {vs : List Value} (hvs : LR μ F w args vs) (hH : HR P μ F H w) (n : Nat) {fence : Fence} {rd : Bool} (hF : FenceOK fence rd) :
  CallsIn fence n P f vs.toArray w fun e w' => ∃ u, e = .returned u ∧ ∃ μ', Done NoI P μ F H w v H' u w' μ' := by
 have key : CallsIn Fence.wide n P f vs.toArray w fun e w' => ∃ u, e = .returned u ∧ ∃ μ', Done NoI P μ F H w v H' u w' μ' := by
  unfold ag9 at h
  split at h
  rotate_left
  ·cases h
  have hstart : StR P (w.heap.size, []) μ F H w (args ++ List.replicate (afn.ntmps - args.length) .undef) { tmps := vs.toArray ++ Array.replicate (fn.ntmps - vs.toArray.size) undef, defers := [] } := by
   refine ⟨?_, hH, DM.nil (B := (w.heap.size, []))⟩
   have hl := hvs.1
   simp only [Array.toList_append, Array.toList_replicate, List.size_toArray]
   rw [← hl, hnt]
   exact hvs.append (abx _)
  refine callsIn_of_wp_marks hf hb trivial ?_
  split at h
  ·rename_i T1 H1 hrun
   simp only [Option.map_eq_some_iff] at h
   obtain ⟨v', hv', h⟩ := h
   cases h
   refine agr hcal hpc hmix ab c (ajt c ab hab) _ _ _ _ _ _ hrun n (w.heap.size, []) μ w _ _ (Nat.le_refl _) hstart fun a' w' μ' hE hst => ⟨fun _ => ?_, fun v u hp => by cases hp⟩
   have hE : StR P (w.heap.size, []) μ' F H' w' T1 a' := hE
   have := ajv n hars hv' hE.hD (Nat.le_refl _) hE.hT hE.hH hst
   exact ⟨this, this⟩
  ·rename_i p fv T1 H1 hrun
   split at h
   rotate_left
   ·cases h
   rename_i H2 hrcv
   simp only [Option.map_eq_some_iff] at h
   obtain ⟨v', hv', h⟩ := h
   cases h
   refine agr hcal hpc hmix ab c (ajt c ab hab) _ _ _ _ _ _ hrun n (w.heap.size, []) μ w _ _ (Nat.le_refl _) hstart fun a' w' μ' hE hst => ?_
   obtain ⟨hT', hH', gv, dfr, ds0, b1, hgv, hof, hD1, hb1, hD0⟩ := hE
   -- the frame leaves: marks, the deferred function, marks
   have leave : ∀ (u : FrameMode), u ≠ .run → (∀ w2, (∀ c, F c → w2.heap[c]? = w'.heap[c]?) → ModeOf μ' F w2 p u) →
     LeavesInM Fence.wide n P fn a'.tmps (fun e w' => ∃ u, e = .returned u ∧ ∃ μ', Done NoI P μ F H w v H' u w' μ') a'.defers u w' := by
    intro u hu hmode
    obtain ⟨Ds, e1, e2, e3⟩ := hD1
    rw [e1]
    refine abg hu Ds w' e2 (fun D hD => (e3 D hD).2.2.1) fun w2 hs => ?_
    have hFD : ∀ D ∈ Ds, ¬ F D := fun D hD => (e3 D hD).2.2.2.1
    have hH2 := hs.hr hH' fun D hD => (e3 D hD).2.2.2
    have hT2 := hs.lr hT' hFD
    have hF2 : ∀ c, F c → w2.heap[c]? = w'.heap[c]? := fun c hc => hs.other c fun hm => hFD c hm hc
    have hst2 : Stp NoI P μ F H w μ' F H1 w2 := hs.stp hst fun D hD => by have := (e3 D hD).1; simp only at this hb1; omega
    have hgv2 : VR μ' F w2 fv gv := hgv.mono (fun _ _ h => h) (fun _ h => h) hF2
    obtain ⟨fv', cap, f', args', htar, hinv, hcall⟩ := ai3 hcal hmix htab (n - 1) hrcv hgv2 (hof w2) hH2 (hmode w2 hF2)
    have hD0' : DM (w.heap.size, []) μ' F w2 ds0 := hD0 w2 (fun c hc => hs.other c fun hm => by have := (e3 c hm).1; simp only at this; omega) (by rw [hs.size]; exact Nat.le_refl _)
    refine ⟨hu, .inr ⟨fun h => (by cases h), fv', cap, f', args', htar, hinv, fun g _ => trivial, hcall.mono fun e u' w3 ⟨⟨rv, he⟩, hset, μ3, hH3, hst3⟩ => ?_⟩⟩
    subst he
    show LeavesInM Fence.wide n P fn a'.tmps _ ds0 (settle u') w3
    rw [hset]
    exact ajv n hars hv' (hD0'.stp hst3) (Nat.le_refl _) (hst3.lr hH2 hT2) hH3 (hst2.trans hst3)
   refine ⟨fun hp => ?_, fun x y hp hxy => ?_⟩
   ·have := leave .returning (fun e => by cases e) fun w2 _ => by rw [hp]; rfl
    exact ⟨this, this⟩
   ·exact leave (.panicking [{ v := y, recovered := false }]) (fun e => by cases e) fun w2 hF2 => by
     rw [hp]
     exact ⟨y, hxy.mono (fun _ _ h => h) (fun _ h => h) hF2, rfl⟩
  ·cases h
 rcases hF with ⟨_, rfl⟩ | ⟨_, l, rfl⟩
 ·exact key
 ·exact key
theorem aj3 {tab : Nat → Option AFn} {cal : Cal} {pc : PCal} (hcal : CalOK P cal) (hpc : acy P pc) (hmix : P.follows .mixedOrders = true) (htab : TabOK P tab) {m f : Nat} {args : List AV} {v : AV} {H' : Heap} (h : runP1 tab cal pc m f args H = some (v, H'))
  {vs : List Value} (hvs : LR μ F w args vs) (hH : HR P μ F H w) (n : Nat) {fence : Fence} {rd : Bool} (hF : FenceOK fence rd) : RunsP fence n P ((callFunc f vs.toArray).run P w) fun u w' => ∃ μ', Done NoI P μ F H w v H' u w' μ' := by
 unfold runP1 at h
 split at h
 ·cases h
 rename_i afn hafn
 split at h
 ·cases h
 rename_i he
 split at h
 rotate_left
 ·cases h
 split at h
 rotate_left
 ·cases h
 rename_i v1 T1 H1 hrun
 cases h
 obtain ⟨-, t2⟩ := htab f afn hafn
 obtain ⟨fn, hfn, hcf⟩ := t2 fun e h => by rw [he] at h; cases h
 obtain ⟨k1, k2, k3, k4, k5⟩ := ahz hcf he
 obtain ⟨c, hc⟩ := Option.isSome_iff_exists.1 k1
 rw [aa5 hfn k1 k5]
 simp only [RunsP]
 have key : CallsIn Fence.wide n P f vs.toArray w fun e w' => ∃ u, e = .panicked [{ v := u, recovered := false }] ∧ ∃ μ', Done NoI P μ F H w v H' u w' μ' := by
  have hstart : StR P (w.heap.size, []) μ F H w (args ++ List.replicate (afn.ntmps - args.length) .undef) { tmps := vs.toArray ++ Array.replicate (fn.ntmps - vs.toArray.size) undef, defers := [] } := by
   refine ⟨?_, hH, DM.nil (B := (w.heap.size, []))⟩
   have hl := hvs.1
   simp only [Array.toList_append, Array.toList_replicate, List.size_toArray]
   rw [← hl, k4]
   exact hvs.append (abx _)
  refine callsIn_of_wp_marks hfn hc trivial ?_
  refine adk hcal hpc hmix c afn.body (k2 c hc) _ _ _ _ _ hrun Fence.wide n (w.heap.size, []) μ F w _ _ (.inl ⟨rfl, rfl⟩) (Nat.le_refl _) hstart fun a' w' μ' u hu hS' hst => ?_
  obtain ⟨Ds, e1, e2, e3⟩ := hS'.hD
  show LeavesInM Fence.wide n P fn a'.tmps _ a'.defers _ w'
  rw [e1]
  refine abg (fun e => by cases e) Ds w' e2 (fun D hD => (e3 D hD).2.2.1) fun w2 hs => ?_
  have hFD : ∀ D ∈ Ds, ¬ F D := fun D hD => (e3 D hD).2.2.2.1
  have hF2 : ∀ c, F c → w2.heap[c]? = w'.heap[c]? := fun c hc => hs.other c fun hm => hFD c hm hc
  exact ⟨u, rfl, μ', hu.mono (fun _ _ h => h) (fun _ h => h) hF2, hs.hr hS'.hH fun D hD => (e3 D hD).2.2.2, hs.stp hst fun D hD => (e3 D hD).1⟩
 rcases hF with ⟨_, rfl⟩ | ⟨_, l, rfl⟩
 ·exact key
 ·exact key
theorem ak3 {tab : Nat → Option AFn} {m : Nat} (hmix : P.follows .mixedOrders = true) (htab : TabOK P tab) {cal : Cal} {pc : PCal} (hpc : acy P pc) (ih : CalOK P cal) : CalOK P (runA1 tab pc cal m) := by
 intro t H v H' h μ F w vs fence rd k hF hH hl hround
 cases t with
 | fn f args =>
  simp only [runA1] at h
  split at h
  ·cases h
  ·rename_i afn hafn
   obtain ⟨t1, t2⟩ := htab f afn hafn
   refine ⟨fun f args e => (by cases e), ?_⟩
   split at h
   ·rename_i ab he
    obtain ⟨fn, hfn, hcf⟩ := t2 fun e h => by rw [he] at h; cases h; rfl
    obtain ⟨c, k1, k2, k3, k4, k5⟩ := cFn_dfr hcf he
    simp only [acg, aa5 hfn (by rw [k1]; rfl) k5, Runs]
    exact ai4 ih hpc hmix htab hfn k1 k2 k3 k4 h hl hH k hF
   ·rename_i str gs ty he
    split at h
    ·rename_i r hr
     cases h
     exact t1 _ he H args v H' hr μ F w vs fence rd k hF hH hl
    ·obtain ⟨fn, hfn, hcf⟩ := t2 fun e h => by rw [he] at h; cases h; rfl
     obtain ⟨k1, k2, k3, k4, k5⟩ := cFn_keys hcf he
     simp only [acg, aa5 hfn k1 k5, Runs]
     exact acd ih hmix hfn k1 k2 k3 k4 h hl hH k hF
   ·rename_i e _ _ he
    exact t1 e he H args v H' h μ F w vs fence rd k hF hH hl
   ·rename_i he
    obtain ⟨fn, hfn, hcf⟩ := t2 fun e h => by rw [he] at h; cases h
    obtain ⟨k1, k2, k3, k4, k5⟩ := ahz hcf he
    simp only [acg, aa5 hfn k1 k5, Runs]
    exact acd ih hmix hfn k1 k2 k3 k4 h hl hH k hF
 | ent f args =>
  simp only [runA1] at h
  split at h
  ·cases h
  ·rename_i afn hafn
   obtain ⟨t1, t2⟩ := htab f afn hafn
   split at h
   ·cases h
   ·rename_i he
    obtain ⟨fn, hfn, hcf⟩ := t2 fun e h => by rw [he] at h; cases h
    obtain ⟨k1, k2, k3, k4, k5⟩ := ahz hcf he
    refine ⟨fun f' args' e => by cases e; exact aa5 hfn k1 k5 _ _, ?_⟩
    simp only [acg, aa5 hfn k1 k5, Runs]
    exact acd ih hmix hfn k1 k2 k3 k4 h hl hH k hF
 | round b args =>
  refine ⟨fun f args e => (by cases e), ?_⟩
  obtain ⟨L, hL⟩ := hround b args rfl
  simp only [runA1] at h
  split at h
  ·rename_i T0 ps asg body hb
   split at h
   ·rename_i hlen
    obtain ⟨L', hL', hE⟩ := hH.ent b _ hb
    rw [hL] at hL'; cases hL'
    obtain ⟨hnF, r, g1, g2, g3, g4, g5, g6, g7⟩ := hE
    have hpend : r.pending = none := by
     cases hp : r.pending with
     | none => rfl
     | some c => rw [hp] at g7; exact g7.elim
    have hargs : vs.toArray.size = r.params.size := by
     have h1 := hl.1
     simp only [Task.args] at h1
     have h2 : r.params.size = ps.length := by rw [← g4]; simp
     simp; omega
    simp only [acg, hL, run_yield g1 hargs, Runs]
    split at h
    ·rename_i T1 H1 hasg
     split at h
     ·rename_i T00 ps00 asg00 body00 hb1
      split at h
      ·rename_i x T2 H2 hbody
       split at h
       ·rename_i T3 ps3 asg3 body3 hb2
        have key : RoundIn Fence.wide k P L.blk r.fn ((r.params.zip vs.toArray).foldl (fun tmps (t, a) => tmps.setIfInBounds t a) r.tmps) r.assign r.body w fun e w' => ∃ u, e = .returned u ∧ ∃ μ', Done NoI P μ F H w v H' u w' μ' := by
         have hfold : ((r.params.zip vs.toArray).foldl (fun tmps (t, a) => tmps.setIfInBounds t a) r.tmps) = (ps.zip vs).foldl (fun (t : Array Value) (p : Nat × Value) => t.setIfInBounds p.1 p.2) r.tmps := by
          rw [← Array.foldl_toList, Array.toList_zip, g4]
         rw [hfold]
         refine roundIn_of_wpIn trivial ?_
         have hst0 : StR P (w.heap.size, []) μ F H w (putsT T0 (ps.zip args)) { tmps := (ps.zip vs).foldl (fun (t : Array Value) (p : Nat × Value) => t.setIfInBounds p.1 p.2) r.tmps, defers := [] } :=
          ⟨aln ps args vs T0 r.tmps hl g3, hH, DM.nil⟩
         refine aao ih hmix r.assign asg g5 _ _ _ _ _ hasg (Fence.wide.inRound L.blk) k (w.heap.size, []) μ F w _ _ (.inr ⟨rfl, _, rfl⟩) (Nat.le_refl _) hst0 fun a1 w1 μ1 hS1 hst1 => ?_
         obtain ⟨L1, hL1, hE1⟩ := hS1.hH.ent b _ hb1
         rw [hst1.mu _ _ hL] at hL1; cases hL1
         obtain ⟨hnF1, r1, q1, q2, q3, q4, q5, q6, q7⟩ := hE1
         have hlt1 := (Array.getElem?_eq_some_iff.1 q1).1
         refine ⟨_, run_beginRound q1 q2, ?_⟩
         obtain ⟨hP1, hP2⟩ := abq (I := NoI) (e := .loop T00 ps00 asg00 body00 .busy none) hS1.hH hb1 rfl (hst1.mu _ _ hL) (w1.putObj L.blk (.loop { r1 with state := .busy })) (fun c hc => World.putObj_heap_other hc) (by simp [World.putObj]) rfl rfl rfl
          (fun hw => ⟨hnF1, _, World.putObj_heap_same hlt1, rfl, q3.mono (fun _ _ h => h) (fun _ h => h) hw, q4, q5, q6, q7⟩) rfl
         have hS1' : StR P (w.heap.size, []) μ1 F (H1.put b (.loop T00 ps00 asg00 body00 .busy none)) (w1.putObj L.blk (.loop { r1 with state := .busy })) T1 a1 := ⟨hP2.lr hS1.hH hS1.hT, hP1, hS1.hD.stp hP2⟩
         refine aao ih hmix r.body body g6 _ _ _ _ _ hbody (Fence.wide.inRound L.blk) k (w.heap.size, []) μ1 F _ _ _ (.inr ⟨rfl, _, rfl⟩) (Nat.le_trans hst1.size hP2.size) hS1' fun a2 w2 μ2 hS2 hst2 => ?_
         obtain ⟨L2, hL2, hE2⟩ := hS2.hH.ent b _ hb2
         rw [hst2.mu _ _ (hst1.mu _ _ hL)] at hL2; cases hL2
         obtain ⟨hnF2, r2, s1, s2, s3, s4, s5, s6, s7⟩ := hE2
         have hlt2 := (Array.getElem?_eq_some_iff.1 s1).1
         have fin : ∀ (jump : Option Code) (st : LoopState) (pe : Option ACode) (bv : Bool), (if jump.isNone then LoopState.ready else .done) = st → jump.isNone = bv → (match pe, jump with | none, none => True | some c, some c' => cCode P c' = some c | _, _ => False) →
           some (AV.bool bv, H2.put b (.loop T3 ps3 asg3 body3 st pe)) = some (v, H') →
           ∃ u w', (Instr.endRound L.blk jump).run P w2 = .ok u w' ∧ ∃ u', Ending.returned u = .returned u' ∧ ∃ μ', Done NoI P μ F H w v H' u' w' μ' := by
          intro jump st pe bv e1 e2 e3 e4
          cases e4
          subst e2
          refine ⟨_, _, run_endRound jump s1, _, rfl, μ2, ?_⟩
          obtain ⟨z1, z2⟩ := abq (I := NoI) (e := .loop T3 ps3 asg3 body3 st pe) hS2.hH hb2 rfl (hst2.mu _ _ (hst1.mu _ _ hL)) (w2.putObj L.blk (.loop { r2 with state := if jump.isNone then .ready else .done, pending := jump })) (fun c hc => World.putObj_heap_other hc) (by simp [World.putObj]) rfl rfl rfl
           (fun hw => ⟨hnF2, _, World.putObj_heap_same hlt2, e1, s3.mono (fun _ _ h => h) (fun _ h => h) hw, s4, s5, s6, e3⟩) rfl
          exact ⟨.bool _, z1, ((hst1.trans hP2).trans hst2).trans z2⟩
         cases x with
         | nrm => exact fin none .ready none true rfl rfl trivial h
         | ret => exact fin (some .ret) .done (some .ret) false rfl rfl rfl h
         | exit id => exact fin (some (.exit id)) .done (some (.exit id)) false rfl rfl rfl h
         | goto g => exact fin (some (.goto g)) .done (some (.goto g)) false rfl rfl rfl h
        rcases hF with ⟨_, rfl⟩ | ⟨_, l, rfl⟩
        ·exact key
        ·exact key
       ·cases h
      ·cases h
     ·cases h
    ·cases h
   ·cases h
  ·cases h
end
end Go.Proofs.YtcmbokfnglkfnaaGreatDoor.Ev
