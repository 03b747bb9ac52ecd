/- The evaluator, a part. -/
import Derived.Test.YtopigipibioclaaGreatDoorEvStmt
import Derived.RecoverIn
namespace Go.Proofs.YtopigipibioclaaGreatDoor.Ev
open Go
set_option linter.all false
section
variable {P : Program} {μ : Mu} {F : Nat → Prop} {H : Heap} {w : World} {T : Tm} {a : Act} {B : Nat}
theorem am0 {tmps : Array Value} {r : ResultVar} {c : Nat × Option (Option Nat)} {v : AV} (hT : LR μ F w T tmps.toList) (hH : HR P μ F H w) (hr : i3 P r = some c) (h : nT T H c = some v) :
  ∃ u, ((match r with | .tmp t => pure (tmps.getD t undef) | .cell a t => do loadVar t (← asAddr (tmps.getD a undef)) : Sem Value)).run P w = .ok u w ∧ VR μ F w v u := by
 have hg := fun t => Ys (a := ⟨tmps, []⟩) hT t
 cases r with
 | tmp t => cases hr; cases h; exact ⟨_, rfl, hg t⟩
 | cell a t =>
  simp only [i3, Option.bind_eq_bind, bN] at hr
  obtain ⟨k, hk, hr⟩ := hr
  cases hr
  simp only [nT] at h
  have hx := hg a
  split at h
  ·rename_i b o e
   rw [e] at hx
   obtain ⟨L, hL, hp⟩ := CH hx
   split at h
   ·rename_i cs ty rw hb
    obtain ⟨arr, fr, h1, h2, h3, h4, h5, f, g⟩ := uE hH hb hL
    obtain ⟨u, d, hr⟩ := aj9 (o := o) (off := 0) h1 (by omega) (by simpa using h5) hk h
    rw [Nat.zero_add] at d
    simp only at hp
    refine ⟨u, ?_, hr⟩
    simp only [Sem.run_bind, hp, asAddr, Sem.run_pure, Result.andThen_ok, d]
   ·cases h
  ·cases h
theorem ad7 {tmps : Array Value} (hT : LR μ F w T tmps.toList) (hH : HR P μ F H w) : ∀ (rs : List ResultVar) (b : List (Nat × Option (Option Nat))) (vs : List AV), rs.mapM (i3 P) = some b → b.mapM (nT T H) = some vs →
  ∃ us : List Value, (rs.mapM fun | .tmp t => pure (tmps.getD t undef) | .cell a t => do loadVar t (← asAddr (tmps.getD a undef)) : Sem (List Value)).run P w = .ok us w ∧ LR μ F w vs us
 | [], b, vs, h, h' => by simp at h; subst h; simp at h'; subst h'; exact ⟨[], by simp, LR.nil⟩
 | r :: rs, b, vs, h, h' => by
  simp only [List.mapM_cons, Option.pure_def, Option.bind_eq_bind, bN] at h
  obtain ⟨x, hx, xs, f, h⟩ := h
  cases h
  simp only [List.mapM_cons, Option.pure_def, Option.bind_eq_bind, bN] at h'
  obtain ⟨y, hy, i, g, h'⟩ := h'
  cases h'
  obtain ⟨u, d, hr⟩ := am0 hT hH hx hy
  obtain ⟨us, e, c⟩ := ad7 hT hH rs xs i f g
  refine ⟨u :: us, ?_, LR.cons hr c⟩
  simp only [List.mapM_cons, Sem.run_bind, d, Result.andThen_ok, e, Sem.run_pure]
theorem acl {fn : Func} {tmps : Array Value} {b : List (Nat × Option (Option Nat))} {v : AV} (hT : LR μ F w T tmps.toList) (hH : HR P μ F H w) (d : fn.results.toList.mapM (i3 P) = some b) (h : nL T H b = some v) :
  ∃ u, (results fn tmps).run P w = .ok u w ∧ VR μ F w v u := by
 simp only [nL, Option.bind_eq_bind, bN] at h
 obtain ⟨vs, k, h⟩ := h
 obtain ⟨us, j, hr⟩ := ad7 hT hH _ _ _ d k
 have hm : (fn.results.mapM fun | .tmp t => pure (tmps.getD t undef) | .cell a t => do loadVar t (← asAddr (tmps.getD a undef)) : Sem (Array Value)).run P w = .ok us.toArray w := by
  rw [Array.mapM_eq_mapM_toList]
  simp only [Sem.run_map, j, Result.andThen_ok]
 have hres : (results fn tmps).run P w = .ok (if h : us.toArray.size = 1 then us.toArray[0] else .tuple us.toArray) w := by
  unfold results
  simp only [Sem.run_bind]
  exact (congrArg (fun r : Result (Array Value) => r.andThen fun a w' => Sem.run P (pure (if h : a.size = 1 then a[0] else Value.tuple a)) w') hm)
 refine ⟨_, hres, ?_⟩
 split at h
 ·cases h
  match us, hr with
  | [u], hr => exact hr.head
  | [], hr => have := hr.1; simp at this
  | _ :: _ :: _, hr => have := hr.1; simp at this
 ·rename_i f
  cases h
  have hl := hr.1
  have h1 : us.toArray.size ≠ 1 := by
   intro e
   simp at e
   match vs, hl with
   | [v], _ => exact f v rfl
   | [], hl => simp at hl; omega
   | _ :: _ :: _, hl => simp at hl; omega
  rw [dif_neg h1]
  exact .tup _ _ (by simpa using hl) fun i c u hc g => hr.2 i c u hc (by simpa using g)
theorem aoj (hH : HR P μ F H w) {D : Nat} {o : Obj} (hF : ¬ F D) (hn : ∀ b L, μ b = some L → L.blk ≠ D) : HR P μ F H (w.putObj D o) := by
 have a : ∀ c, c ≠ D → (w.putObj D o).heap[c]? = w.heap[c]? := fun c hc => World.putObj_heap_other hc
 have hsz : (w.putObj D o).heap.size = w.heap.size := by simp [World.putObj]
 refine ⟨fun b L hb => ?_, fun c hc => ?_, fun b e hb => ?_, hH.inj, fun g cs hg => (hH.gl g cs hg).mono (fun _ _ h => h) (fun _ h => h) fun c hc => a c fun e => hF (e ▸ hc)⟩
 ·rw [hsz]; exact hH.dom b L hb
 ·rw [hsz]; exact hH.fb c hc
 ·obtain ⟨L, hL, d⟩ := hH.ent b e hb
  exact ⟨L, hL, d.mono (fun _ _ h => h) (fun _ h => h) (fun c hc => a c fun e => hF (e ▸ hc)) (a _ (hn b L hL)) (fun hr => d.notF hr)⟩
theorem ae8 {fn : Func} {tmps : Array Value} {g : List (Nat × Option (Option Nat))} {v : AV} {μ0 : Mu} {H0 : Heap} {w0 : World} (n : Nat) (k : fn.results.toList.mapM (i3 P) = some g) (hv : nL T H g = some v) :
  ∀ (Ds : List Nat) (w : World), Ds.Nodup → (∀ D ∈ Ds, w0.heap.size ≤ D ∧ D < w.heap.size ∧ w.heap[D]? = some (.deferred (some [])) ∧ ¬ F D ∧ ∀ b L, μ b = some L → L.blk ≠ D) →
   LR μ F w T tmps.toList → HR P μ F H w → Stp fB P μ0 F H0 w0 μ F H w →
   LeavesInM Fence.wide n P fn tmps (fun e w' => ∃ u, e = .returned u ∧ ∃ μ', Done fB P μ0 F H0 w0 v H u w' μ') (Ds.map fun D => { target := .collected D, args := #[] }) .returning w
 | [], w, _, _, hT, hH, a => by
  obtain ⟨u, o, hr⟩ := acl hT hH k hv
  exact ⟨u, o, u, rfl, μ, hr, hH, a⟩
 | D :: Ds, w, d, hD, hT, hH, a => by
  obtain ⟨p, q, l, i, m⟩ := hD D (List.mem_cons_self ..)
  have d := List.nodup_cons.1 d
  have f : ∀ c, c ≠ D → (w.putObj D (.deferred none)).heap[c]? = w.heap[c]? := fun c hc => World.putObj_heap_other hc
  have hsz : (w.putObj D (.deferred none)).heap.size = w.heap.size := by simp [World.putObj]
  refine ⟨fun e => (by cases e), .inl ⟨D, _, rfl, run_takeDeferred l, ?_⟩⟩
  refine ae8 n k hv Ds _ d.2 (fun D' j => ?_) (hT.mono (fun _ _ h => h) (fun _ h => h) fun c hc => f c fun e => i (e ▸ hc)) (aoj hH i m) ?_
  ·obtain ⟨k1, k2, k3, k4, k5⟩ := hD D' (List.mem_cons_of_mem _ j)
   exact ⟨k1, by rw [hsz]; exact k2, by rw [f D' fun e => d.1 (e ▸ j)]; exact k3, k4, k5⟩
  ·exact ⟨a.mu, a.fr, by rw [hsz]; exact a.size, fun c hc hn => by rw [f c (by omega)]; exact a.keep c hc hn, a.rw, a.next, a.new, a.rng, a.old, a.alv, a.tape, a.os, a.out⟩
theorem Zc {μ : Mu} {F : Nat → Prop} {w : World} (n : Nat) : LR μ F w (List.replicate n .undef) (List.replicate n undef) := by
 induction n with
 | zero => exact LR.nil
 | succ n ih => exact LR.cons (.undef _) ih
theorem Y0 {d : dZ} (r : dQ P d) (s : P.follows .mixedOrders = true) {m : Nat} {f : Nat} {fn : Func} {afn : AFn} {args : List AV} {v : AV} {H' : Heap} (hf : P.funcs[f]? = some fn) (hb : fn.body.isSome = true) (q : ∀ c, fn.body = some c → bB P c = some afn.body)
  (p : fn.results.toList.mapM (i3 P) = some afn.results) (t : afn.ntmps = fn.ntmps)
  (h : jl d m afn args H = some (v, H')) {vs : List Value} (k : LR μ F w args vs) (hH : HR P μ F H w) (n : Nat) {fence : Fence} {rd : Bool} (hF : FenceOK fence rd) :
  CallsIn fence n P f vs.toArray w fun e w' => ∃ u, e = .returned u ∧ ∃ μ', Done fB P μ F H w v H' u w' μ' := by
 have key : CallsIn Fence.wide n P f vs.toArray w fun e w' => ∃ u, e = .returned u ∧ ∃ μ', Done fB P μ F H w v H' u w' μ' := by
  obtain ⟨c, hc⟩ := Option.isSome_iff_exists.1 hb
  unfold jl at h
  split at h
  ·have y : StR P (w.heap.size, []) μ F H w (args ++ List.replicate (afn.ntmps - args.length) .undef) { tmps := vs.toArray ++ Array.replicate (fn.ntmps - vs.toArray.size) undef, defers := [] } := by
    refine ⟨?_, hH, DM.nil⟩
    have hl := k.1
    simp only [Array.toList_append, Array.toList_replicate, List.size_toArray]
    rw [← hl, t]
    exact k.append (Zc _)
   refine callsIn_of_wp_marks hf hc trivial ?_
   have j : ∀ (x : Ex) (a : Tm) (H1 : Heap), (x = .nrm ∨ x = .ret) → aZ d m false afn.body (args ++ List.replicate (afn.ntmps - args.length) .undef) H = some (x, a, H1) → (nL a H1 afn.results).map (fun v => (v, H1)) = some (v, H') →
     c.wpIn Fence.wide n P (bodyPostM Fence.wide n P fn fun e w' => ∃ u, e = .returned u ∧ ∃ μ', Done fB P μ F H w v H' u w' μ') { tmps := vs.toArray ++ Array.replicate (fn.ntmps - vs.toArray.size) undef, defers := [] } w := by
    intro x a H1 hx b hres
    simp only [Option.map_eq_some_iff] at hres
    obtain ⟨A, z, hres⟩ := hres
    cases hres
    refine uD r s c afn.body (q c hc) _ _ _ _ _ b Fence.wide n (w.heap.size, []) μ F w _ _ (.inl ⟨rfl, rfl⟩) (Nat.le_refl _) y fun i w' μ' g hst => ?_
    obtain ⟨Ds, e1, e2, o⟩ := g.hD
    have e1 : i.defers = Ds.map (fun D => ({ target := .collected D, args := #[] } : Deferred)) := e1.trans (List.append_nil _)
    have := ae8 (tmps := i.tmps) (fn := fn) n p z Ds w' e2 o g.hT g.hH hst
    rw [← e1] at this
    rcases hx with rfl | rfl <;> exact this
   split at h
   ·rename_i a H1 b; exact j .nrm a H1 (.inl rfl) b h
   ·rename_i a H1 b; exact j .ret a H1 (.inr rfl) b h
   ·cases h
  ·cases h
 rcases hF with ⟨_, rfl⟩ | ⟨_, l, rfl⟩
 ·exact key
 ·exact key
def iB (P : Program) (f : Nat) (e : Ext) : Prop := ∀ H args v H', lP H e args = some (v, H') → ∀ (μ : Mu) (F : Nat → Prop) (w : World) (vs : List Value) (fence : Fence) (rd : Bool) (n : Nat), FenceOK fence rd → HR P μ F H w → LR μ F w args vs →
 Runs fence n P ((callFunc f vs.toArray).run P w) fun u w' => ∃ μ', Done fB P μ F H w v H' u w' μ'
def jq (P : Program) (a : Nat → Option AFn) : Prop := ∀ f afn, a f = some afn → (∀ e, afn.ext = some e → iB P f e) ∧ ((∀ e, afn.ext = some e → e.code = true) → ∃ fn, P.funcs[f]? = some fn ∧ lD P fn = some afn)
theorem YA {fn : Func} {afn : AFn} (h : lD P fn = some afn) (he : afn.ext = none) : fn.body.isSome = true ∧ (∀ c, fn.body = some c → bB P c = some afn.body) ∧ fn.results.toList.mapM (i3 P) = some afn.results ∧ afn.ntmps = fn.ntmps ∧ fn.name ≠ "runtime.NumGoroutine" := by
 unfold lD at h
 split at h
 ·cases h; cases he
 split at h
 ·cases h; cases he
 split at h
 ·cases h; cases he
 split at h
 ·cases h; cases he
 split at h
 ·simp only [Option.bind_eq_bind, bN] at h
  obtain ⟨t, ht, d, hd, h⟩ := h
  split at h
  ·simp only [bN] at h
   obtain ⟨n, hn, b, hb, h⟩ := h
   cases h; cases he
  ·cases h
 ·simp only [Option.bind_eq_bind, bN] at h
  obtain ⟨b, hb, h⟩ := h
  split at h
  ·cases h
  ·rename_i f
   split at h
   ·simp only [bN] at h
    obtain ⟨t, ht, d, hd, h⟩ := h
    split at h
    ·simp only [bN] at h
     obtain ⟨rs, a, c, hc, u, g, h⟩ := h
     cases h; cases he
    ·simp only [bN] at h
     obtain ⟨rs, a, c, hc, u, g, h⟩ := h
     cases h; cases he
    ·cases h
   split at h
   ·simp only [bN] at h
    obtain ⟨rs, a, c, hc, h⟩ := h
    cases h; cases he
   ·split at h
    ·simp only [bN] at h
     obtain ⟨rs, a, h⟩ := h
     cases h; cases he
    ·simp only [bN] at h
     obtain ⟨rs, a, c, hc, h⟩ := h
     cases h
     exact ⟨by simp [hb], fun c' e => by rw [hb] at e; cases e; exact hc, a, rfl, f⟩
theorem tR {fn : Func} {afn : AFn} {str : Bool} {gs : List Nat} {ty : Nat} (h : lD P fn = some afn) (he : afn.ext = some (.keys str gs ty)) : fn.body.isSome = true ∧ (∀ c, fn.body = some c → bB P c = some afn.body) ∧ fn.results.toList.mapM (i3 P) = some afn.results ∧ afn.ntmps = fn.ntmps ∧ fn.name ≠ "runtime.NumGoroutine" := by
 unfold lD at h
 split at h
 ·cases h; cases he
 split at h
 ·cases h; cases he
 split at h
 ·cases h; cases he
 split at h
 ·cases h; cases he
 split at h
 ·simp only [Option.bind_eq_bind, bN] at h
  obtain ⟨t, ht, d, hd, h⟩ := h
  split at h
  ·simp only [bN] at h
   obtain ⟨n, hn, b, hb, h⟩ := h
   cases h; cases he
  ·cases h
 ·simp only [Option.bind_eq_bind, bN] at h
  obtain ⟨b, hb, h⟩ := h
  split at h
  ·cases h
  ·rename_i f
   split at h
   ·simp only [bN] at h
    obtain ⟨t, ht, d, hd, h⟩ := h
    split at h
    ·simp only [bN] at h
     obtain ⟨rs, a, c, hc, u, g, h⟩ := h
     cases h
     exact ⟨by simp [hb], fun c' e => by rw [hb] at e; cases e; exact hc, a, rfl, f⟩
    ·simp only [bN] at h
     obtain ⟨rs, a, c, hc, u, g, h⟩ := h
     cases h
     exact ⟨by simp [hb], fun c' e => by rw [hb] at e; cases e; exact hc, a, rfl, f⟩
    ·cases h
   split at h
   ·simp only [bN] at h
    obtain ⟨rs, a, c, hc, h⟩ := h
    cases h; cases he
   ·split at h
    ·simp only [bN] at h
     obtain ⟨rs, a, h⟩ := h
     cases h; cases he
    ·simp only [bN] at h
     obtain ⟨rs, a, c, hc, h⟩ := h
     cases h; cases he
theorem xv {fn : Func} {afn : AFn} {d : Nat} {c : ACode} (h : lD P fn = some afn) (he : afn.ext = some (.rcv d c)) : ∃ b e, fn.body = some b ∧ YN b = some (d, e) ∧ bB P e = some c ∧ fn.results.toList.mapM (i3 P) = some afn.results ∧ afn.ntmps = fn.ntmps ∧ fn.name ≠ "runtime.NumGoroutine" := by
 unfold lD at h
 split at h
 ·cases h; cases he
 split at h
 ·cases h; cases he
 split at h
 ·cases h; cases he
 split at h
 ·cases h; cases he
 split at h
 ·simp only [Option.bind_eq_bind, bN] at h
  obtain ⟨t, ht, d, hd, h⟩ := h
  split at h
  ·simp only [bN] at h
   obtain ⟨n, hn, b, hb, h⟩ := h
   cases h; cases he
  ·cases h
 ·simp only [Option.bind_eq_bind, bN] at h
  obtain ⟨b, hb, h⟩ := h
  split at h
  ·cases h
  ·rename_i f
   split at h
   ·simp only [bN] at h
    obtain ⟨t, ht, d, hd, h⟩ := h
    split at h
    ·simp only [bN] at h
     obtain ⟨rs, a, c, hc, u, i, h⟩ := h
     cases h; cases he
    ·simp only [bN] at h
     obtain ⟨rs, a, c, hc, u, i, h⟩ := h
     cases h; cases he
    ·cases h
   split at h
   ·rename_i j c' g
    simp only [bN] at h
    obtain ⟨rs, a, c, hc, h⟩ := h
    cases h; cases he
    exact ⟨b, c', hb, g, hc, a, rfl, f⟩
   ·split at h
    ·simp only [bN] at h
     obtain ⟨rs, a, h⟩ := h
     cases h; cases he
    ·simp only [bN] at h
     obtain ⟨rs, a, c, hc, h⟩ := h
     cases h; cases he
theorem xw {fn : Func} {afn : AFn} {e : ABody} (h : lD P fn = some afn) (he : afn.ext = some (.dfr e)) : ∃ b, fn.body = some b ∧ l6 P b = some e ∧ fn.results.toList.mapM (i3 P) = some afn.results ∧ afn.ntmps = fn.ntmps ∧ fn.name ≠ "runtime.NumGoroutine" := by
 unfold lD at h
 split at h
 ·cases h; cases he
 split at h
 ·cases h; cases he
 split at h
 ·cases h; cases he
 split at h
 ·cases h; cases he
 split at h
 ·simp only [Option.bind_eq_bind, bN] at h
  obtain ⟨t, ht, d, hd, h⟩ := h
  split at h
  ·simp only [bN] at h
   obtain ⟨n, hn, b, hb, h⟩ := h
   cases h; cases he
  ·cases h
 ·simp only [Option.bind_eq_bind, bN] at h
  obtain ⟨b, hb, h⟩ := h
  split at h
  ·cases h
  ·rename_i g
   split at h
   ·simp only [bN] at h
    obtain ⟨t, ht, d, hd, h⟩ := h
    split at h
    ·simp only [bN] at h
     obtain ⟨rs, a, c, hc, u, i, h⟩ := h
     cases h; cases he
    ·simp only [bN] at h
     obtain ⟨rs, a, c, hc, u, i, h⟩ := h
     cases h; cases he
    ·cases h
   split at h
   ·simp only [bN] at h
    obtain ⟨rs, a, c, hc, h⟩ := h
    cases h; cases he
   ·split at h
    ·rename_i j f
     simp only [bN] at h
     obtain ⟨rs, a, h⟩ := h
     cases h; cases he
     exact ⟨b, hb, f, a, rfl, g⟩
    ·simp only [bN] at h
     obtain ⟨rs, a, c, hc, h⟩ := h
     cases h; cases he
theorem alu {μ : Mu} {F : Nat → Prop} {w : World} : ∀ (ps : List Nat) (args : List AV) (vs : List Value) (T : Tm) (tm : Array Value), LR μ F w args vs → LR μ F w T tm.toList →
  LR μ F w (kT T (ps.zip args)) ((ps.zip vs).foldl (fun (t : Array Value) (p : Nat × Value) => t.setIfInBounds p.1 p.2) tm).toList
 | [], args, vs, T, tm, _, h => by simpa [kT] using h
 | p :: ps, [], [], T, tm, _, h => by simpa [kT] using h
 | p :: ps, [], _ :: _, T, tm, h, _ => by have := h.1; simp at this
 | p :: ps, _ :: _, [], T, tm, h, _ => by have := h.1; simp at this
 | p :: ps, a :: args, v :: vs, T, tm, hl, h => by
  simp only [List.zip_cons_cons, kT, List.foldl_cons]
  exact alu ps args vs _ _ hl.tail (by rw [Array.toList_setIfInBounds]; exact h.set p hl.head)
theorem xL {f : Nat} {fn : Func} (hf : P.funcs[f]? = some fn) (hb : fn.body.isSome = true) (hn : fn.name ≠ "runtime.NumGoroutine") (args : Array Value) (w : World) : (callFunc f args).run P w = .ok (.enter f args) w := by
 obtain ⟨c, hc⟩ := Option.isSome_iff_exists.1 hb
 simp [callFunc, hf, hn, hc]
/-! ### Marks, shut -/
structure Shut (Ds : List Nat) (w w' : World) : Prop where
 other : ∀ c, c ∉ Ds → w'.heap[c]? = w.heap[c]?
 size : w'.heap.size = w.heap.size
 tape : w'.tape = w.tape
 os : w'.os = w.os
 out : w'.output = w.output
theorem Shut.nil (w : World) : Shut [] w w := ⟨fun _ _ => rfl, rfl, rfl, rfl, rfl⟩
theorem Shut.cons {D : Nat} {Ds : List Nat} {w w' : World} (h : Shut Ds (w.putObj D (.deferred none)) w') : Shut (D :: Ds) w w' :=
 ⟨fun c hc => (h.other c fun hm => hc (List.mem_cons_of_mem _ hm)).trans (World.putObj_heap_other fun e => hc (e ▸ List.mem_cons_self ..)), h.size.trans (by simp [World.putObj]), h.tape, h.os, h.out⟩
theorem Za {n : Nat} {fn : Func} {tmps : Array Value} {R : Ending → World → Prop} {rest : List Deferred} {u : FrameMode} (c : u ≠ .run) : ∀ (Ds : List Nat) (w : World), Ds.Nodup → (∀ D ∈ Ds, w.heap[D]? = some (.deferred (some []))) →
  (∀ w', Shut Ds w w' → LeavesInM Fence.wide n P fn tmps R rest u w') → LeavesInM Fence.wide n P fn tmps R (Ds.map (fun D => { target := .collected D, args := #[] }) ++ rest) u w
 | [], w, _, _, h => h w (Shut.nil w)
 | D :: Ds, w, a, hD, h => by
  have a := List.nodup_cons.1 a
  refine ⟨c, .inl ⟨D, _, rfl, run_takeDeferred (hD D (List.mem_cons_self ..)), ?_⟩⟩
  exact Za c Ds _ a.2 (fun D' b => (World.putObj_heap_other (fun (e : D' = D) => a.1 (e ▸ b))).trans (hD D' (List.mem_cons_of_mem _ b))) fun w' hs => h w' hs.cons
theorem agm {cs : List Frame} : ∀ (Ds : List Nat) (fr : Frame) (w : World), fr.mode ≠ .run → fr.defers = Ds.map (fun D => { target := .collected D, args := #[] }) → Ds.Nodup → (∀ D ∈ Ds, w.heap[D]? = some (.deferred (some []))) →
  ∃ w', Shut Ds w w' ∧ StepsIn (Machine.fenced P Fence.wide) P (lone fr cs w) (lone { fr with defers := [] } cs w')
 | [], fr, w, _, hd, _, _ => ⟨w, Shut.nil w, by
   have : ({ fr with defers := [] } : Frame) = fr := by cases fr; simp only at hd; subst hd; rfl
   rw [this]; exact .refl _⟩
 | D :: Ds, fr, w, hm, hd, a, hD => by
  have a := List.nodup_cons.1 a
  obtain ⟨w', hs, hst⟩ := agm Ds { fr with defers := [] ++ Ds.map (fun D => { target := .collected D, args := #[] }) } (w.putObj D (.deferred none)) hm rfl a.2 (fun D' b => (World.putObj_heap_other (fun (e : D' = D) => a.1 (e ▸ b))).trans (hD D' (List.mem_cons_of_mem _ b)))
  exact ⟨w', hs.cons, .head (fenced_wide P _) (step_collected hm hd rfl (run_takeDeferred (hD D (List.mem_cons_self ..)))) hst⟩
theorem Shut.hr {Ds : List Nat} {w w' : World} (h : Shut Ds w w') (hH : HR P μ F H w) (hD : ∀ D ∈ Ds, ¬ F D ∧ ∀ b L, μ b = some L → L.blk ≠ D) : HR P μ F H w' := by
 have hF : ∀ c, F c → w'.heap[c]? = w.heap[c]? := fun c hc => h.other c fun hm => (hD c hm).1 hc
 refine ⟨fun b L hb => ?_, fun c hc => ?_, fun b e hb => ?_, hH.inj, fun g cs hg => (hH.gl g cs hg).mono (fun _ _ h => h) (fun _ h => h) hF⟩
 ·rw [h.size]; exact hH.dom b L hb
 ·rw [h.size]; exact hH.fb c hc
 ·obtain ⟨L, hL, a⟩ := hH.ent b e hb
  exact ⟨L, hL, a.mono (fun _ _ h => h) (fun _ h => h) hF (h.other _ fun hm => (hD _ hm).2 b L hL rfl) (fun hr => a.notF hr)⟩
theorem Shut.lr {Ds : List Nat} {w w' : World} {as : List AV} {vs : List Value} (h : Shut Ds w w') (hl : LR μ F w as vs) (hD : ∀ D ∈ Ds, ¬ F D) : LR μ F w' as vs :=
 hl.mono (fun _ _ h => h) (fun _ h => h) fun c hc => h.other c fun hm => hD c hm hc
theorem Shut.stp {Ds : List Nat} {w0 w w' : World} {μ0 : Mu} {H0 : Heap} (h : Shut Ds w w') (a : Stp fB P μ0 F H0 w0 μ F H w) (hD : ∀ D ∈ Ds, w0.heap.size ≤ D) : Stp fB P μ0 F H0 w0 μ F H w' :=
 ⟨a.mu, a.fr, by rw [h.size]; exact a.size, fun c hc hn => (h.other c fun hm => by have := hD c hm; omega).trans (a.keep c hc hn), a.rw, a.next, a.new, a.rng, a.old, a.alv, h.tape.trans a.tape, h.os.trans a.os, h.out.trans a.out⟩
theorem ajy {fn : Func} {tmps : Array Value} {b : List (Nat × Option (Option Nat))} {v : AV} {μ0 : Mu} {H0 : Heap} {w0 w : World} {T : Tm} {b1 : Nat} (n : Nat) (g : fn.results.toList.mapM (i3 P) = some b) (hv : nL T H b = some v) {ds : List Deferred}
  (hd : DM (b1, []) μ F w ds) (hb : w0.heap.size ≤ b1) (hT : LR μ F w T tmps.toList) (hH : HR P μ F H w) (d : Stp fB P μ0 F H0 w0 μ F H w) :
  LeavesInM Fence.wide n P fn tmps (fun e w' => ∃ u, e = .returned u ∧ ∃ μ', Done fB P μ0 F H0 w0 v H u w' μ') ds .returning w := by
 obtain ⟨Ds, e1, e2, a⟩ := hd
 rw [e1]
 refine Za (fun e => by cases e) Ds w e2 (fun D hD => (a D hD).2.2.1) fun w' hs => ?_
 have c := hs.hr hH fun D hD => (a D hD).2.2.2
 have f := hs.lr hT fun D hD => (a D hD).2.2.2.1
 obtain ⟨u, h, hr⟩ := acl f c g hv
 exact ⟨u, h, u, rfl, μ, hr, c, hs.stp d fun D hD => by have := (a D hD).1; simp only at this; omega⟩
/-! ### Deferred functions -/
def anp (P : Program) (fn : Func) (d : Frame) (cs : List Frame) (R : Ending → FrameMode → World → Prop) : Exit → Act → List Frame → World → Prop
 | .normal, a, b, w | .ret, a, b, w =>
  ∃ Ds : List Nat, a.defers = Ds.map (fun D => { target := .collected D, args := #[] }) ∧ Ds.Nodup ∧ (∀ D ∈ Ds, w.heap[D]? = some (.deferred (some []))) ∧ ∃ c, b = { d with mode := c } :: cs ∧
   ∀ w', Shut Ds w w' → ∃ v, (results fn a.tmps).run P w' = .ok v w' ∧ R (.returned v) c w'
 | _, _, _, _ => False
theorem agv {n : Nat} {f : FuncId} {fn : Func} {c : Code} {args : Array Value} {u : FrameMode} {w : World} {R : Ending → FrameMode → World → Prop}
  (hf : P.funcs[f]? = some fn) (hb : fn.body = some c)
  (h : ∀ (a : Frame) (cs : List Frame), a.mode = u → c.wpSIn Fence.wide n P (anp P fn a cs R) { tmps := args ++ Array.replicate (fn.ntmps - args.size) undef, defers := [] } (a :: cs) w) :
  CallsDIn Fence.wide n P f args u w R := by
 refine ⟨trivial, fun a cs s p => ?_⟩
 let b : Frame := { (default : Frame) with fn := f, kind := .deferred, roundOf := none }
 have o : Frame.enter P f args .deferred = b.atR { tmps := args ++ Array.replicate (fn.ntmps - args.size) undef, defers := [] } [.code c] := by
  simp [Frame.enter, Frame.atR, hf, hb, b]
 obtain ⟨e, g, j, w', hl, hq, i⟩ := h a cs s b [] rfl rfl trivial p
 rw [← o] at i
 have k : ∀ (todo : List Item), StepsIn (Machine.fenced P Fence.wide) P (lone (Frame.enter P f args .deferred) (a :: cs) w) (lone { b.atR g todo with mode := .returning } j w') →
   (∃ Ds : List Nat, g.defers = Ds.map (fun D => { target := .collected D, args := #[] }) ∧ Ds.Nodup ∧ (∀ D ∈ Ds, w'.heap[D]? = some (.deferred (some []))) ∧ ∃ d, j = { a with mode := d } :: cs ∧
    ∀ w2, Shut Ds w' w2 → ∃ v, (results fn g.tmps).run P w2 = .ok v w2 ∧ R (.returned v) d w2) →
   ∃ e d w' fr, R e d w' ∧ ComesIn (Machine.fenced P Fence.wide) P (lone (Frame.enter P f args .deferred) (a :: cs) w) (lone fr ({ a with mode := d } :: cs) w') e ∧ fr.kind = .deferred ∧ fr.fn = f ∧ fr.going P w' e := by
  intro todo hst ⟨Ds, d1, d2, d3, d, hcs, hres⟩
  subst hcs
  obtain ⟨w2, q, r⟩ := agm (P := P) (cs := { a with mode := d } :: cs) Ds { b.atR g todo with mode := .returning } w' (fun e => by cases e) d1 d2 d3
  obtain ⟨v, hr, m⟩ := hres w2 q
  exact ⟨.returned v, d, w2, _, m, StepsIn.trans hst r, rfl, rfl, rfl, rfl, fn, hf, hr⟩
 cases e with
 | normal => exact k [] (StepsIn.trans i (.one (fenced_wide P _) (stepR_end rfl))) hq
 | ret =>
  obtain ⟨todo, hs⟩ := i.1 rfl
  exact k todo hs hq
 | panic t => exact hq.elim
 | exit id => exact hq.elim
 | goto l => exact hq.elim
 | outgrown => exact hq.elim
def um (μ : Mu) (F : Nat → Prop) (w : World) (p : Option AV) (u : FrameMode) : Prop :=
 match p with
 | none => u = .returning
 | some v => ∃ x, VR μ F w v x ∧ u = .panicking [{ v := x, recovered := false }]
theorem air {b a : Code} {d : Nat} (h : YN b = some (d, a)) : ∃ id ops o, b = .seq (.region id ops false) a ∧ ops.toList = [o] ∧ (∃ args c, o.op = .call ⟨.builtin .recover, args, c⟩ ∧ args.size = 0) ∧ o.dst = some d ∧ o.guard = none := by
 unfold YN at h
 split at h
 ·split at h
  ·rename_i hl
   split at h
   ·rename_i ha
    cases h
    exact ⟨_, _, _, rfl, hl, ⟨_, _, rfl, ha⟩, rfl, rfl⟩
   ·cases h
  ·cases h
 ·cases h
theorem ajj {U : Nat → Option AFn} {A : dZ} (ab : dQ P A) (ag : P.follows .mixedOrders = true) (ap : jq P U) {m : Nat} {p : Option AV} {E : AV} {H2 : Heap} {N : Value} {dfr : Deferred} {u : FrameMode} (n : Nat)
  (h : Cb U A m p E H = some H2) (hv : VR μ F w E N) (hd : (Deferred.ofValue N #[]).run P w = .ok dfr w) (hH : HR P μ F H w) (r : um μ F w p u) :
  ∃ X cap L K, dfr.target = .fn X cap ∧ (invoke dfr.target dfr.args).run P w = .ok (.enter L K) w ∧ CallsDIn Fence.wide n P L K u w fun e a w' => (∃ k, e = .returned k) ∧ settle a = .returning ∧ ∃ μ', HR P μ' F H2 w' ∧ Stp fB P μ F H w μ' F H2 w' := by
 unfold Cb at h
 split at h
 rotate_left
 ·cases h
 rename_i g args ht
 split at h
 rotate_left
 ·cases h
 rename_i t hg
 split at h
 rotate_left
 ·cases h
 rename_i d c Q
 split at h
 rotate_left
 ·cases h
 rename_i hlen
 cases E <;> simp only [qK] at ht <;> first | (cases ht; done) | skip
 rename_i fn first cap
 cases fn <;> simp only at ht <;> first | (cases ht; done) | skip
 rename_i fi
 cases ht
 cases hv with
 | fn _ _ _ us vs h1 h2 h3 h4 =>
 obtain ⟨-, t2⟩ := ap g t hg
 obtain ⟨q, R, ad⟩ := t2 fun e he => by rw [Q] at he; cases he; rfl
 obtain ⟨b, C, k1, k2, k3, k4, k5, k6⟩ := xv ad Q
 obtain ⟨id, ops, o, rfl, T, ⟨W, ar, hop, aa⟩, S, ai⟩ := air k2
 have ae : dfr = { target := .fn (.func g) vs, args := us ++ #[] } := by
  simp only [Deferred.ofValue, Sem.run_pure, Result.ok.injEq, and_true] at hd
  exact hd.symm
 subst ae
 refine ⟨.func g, vs, g, us ++ #[] ++ vs, rfl, ?_, ?_⟩
 ·simp only [invoke]
  exact xL R (by rw [k1]; rfl) k6 _ _
 have hl : LR μ F w (first ++ [] ++ cap) (us ++ #[] ++ vs).toList := by
  have := ((LR.of_agg h1 h2).append LR.nil).append (LR.of_agg h3 h4)
  simpa using this
 have ao : LR μ F w (first ++ [] ++ cap ++ List.replicate (t.ntmps - (first ++ [] ++ cap).length) AV.undef) ((us ++ #[] ++ vs) ++ Array.replicate (q.ntmps - (us ++ #[] ++ vs).size) undef).toList := by
  have e : (us ++ #[] ++ vs).size = (first ++ [] ++ cap).length := by have := hl.1; simp only [Array.length_toList] at this; exact this.symm
  rw [Array.toList_append, Array.toList_replicate, e, k5]
  exact hl.append (Zc _)
 refine agv R k1 fun i cs I => ?_
 have hsz : ops.size = 1 := by rw [← Array.length_toList, T]; rfl
 have ah : ops[0]? = some o := by
  have : ops.toList[0]? = some o := by rw [T]; rfl
  simpa using this
 refine wpSIn_seq (wpSIn_region ?_)
 rw [hsz]
 show wpOpsSIn Fence.wide n P ops _ [0] _ _ w
 simp only [wpOpsSIn, ah]
 refine ⟨fun f _ => trivial, ?_⟩
 have aq : ∀ tm, Region.wanted o (yielded ops tm) = true := fun tm => by unfold Region.wanted; rw [ai]
 rw [if_pos (aq _)]
 have aj : ∀ ρ : Operand → Value, (execOp ρ o).run P w = .ok .recover w := by
  intro ρ
  have : W = #[] := Array.eq_empty_of_size_eq_zero aa
  subst this
  unfold execOp
  rw [hop]
  rfl
 rw [aj]
 simp only
 -- what is recovered
 have rest : ∀ (x : Value) (a : FrameMode), VR μ F w (p.getD .nilIf) x → settle a = .returning →
   C.wpSIn Fence.wide n P (anp P q i cs fun e a w' => (∃ k, e = .returned k) ∧ settle a = .returning ∧ ∃ μ', HR P μ' F H2 w' ∧ Stp fB P μ F H w μ' F H2 w')
    (({ tmps := (us ++ #[] ++ vs) ++ Array.replicate (q.ntmps - (us ++ #[] ++ vs).size) undef, defers := [] } : Act).put o.dst x) ({ i with mode := a } :: cs) w := by
  intro x a hx al
  refine wpSIn_of_wpIn rfl ?_
  have am : StR P (w.heap.size, []) μ F H w ((first ++ [] ++ cap ++ List.replicate (t.ntmps - (first ++ [] ++ cap).length) AV.undef).set d (p.getD .nilIf)) (({ tmps := (us ++ #[] ++ vs) ++ Array.replicate (q.ntmps - (us ++ #[] ++ vs).size) undef, defers := [] } : Act).put o.dst x) := by
   refine ⟨?_, hH, ?_⟩
   ·rw [S]
    simp only [Act.put, Array.toList_setIfInBounds]
    exact ao.set d hx
   ·rw [S]; exact DM.nil (B := (w.heap.size, []))
  have M : ∀ (ex : Ex) (l : Tm) (j : Heap), (ex = .nrm ∨ ex = .ret) → aZ A m false c ((first ++ [] ++ cap ++ List.replicate (t.ntmps - (first ++ [] ++ cap).length) AV.undef).set d (p.getD .nilIf)) H = some (ex, l, j) →
    ((nL l j t.results).map fun _ => j) = some H2 → C.wpIn Fence.wide n P (fun e s w' => anp P q i cs (fun e a w' => (∃ k, e = .returned k) ∧ settle a = .returning ∧ ∃ μ', HR P μ' F H2 w' ∧ Stp fB P μ F H w μ' F H2 w') e s ({ i with mode := a } :: cs) w')
     (({ tmps := (us ++ #[] ++ vs) ++ Array.replicate (q.ntmps - (us ++ #[] ++ vs).size) undef, defers := [] } : Act).put o.dst x) w := by
   intro ex l j af y hres
   simp only [Option.map_eq_some_iff] at hres
   obtain ⟨k, ak, rfl⟩ := hres
   refine uD ab ag C c k3 _ _ _ _ _ y Fence.wide n (w.heap.size, []) μ F w _ _ (.inl ⟨rfl, rfl⟩) (Nat.le_refl _) am fun s w' μ' G hst => ?_
   obtain ⟨Ds, e1, e2, z⟩ := G.hD
   have e1 : s.defers = Ds.map (fun D => ({ target := .collected D, args := #[] } : Deferred)) := e1.trans (List.append_nil _)
   have Y : ∃ Ds : List Nat, s.defers = Ds.map (fun D => ({ target := .collected D, args := #[] } : Deferred)) ∧ Ds.Nodup ∧ (∀ D ∈ Ds, w'.heap[D]? = some (.deferred (some []))) ∧ ∃ V, ({ i with mode := a } :: cs : List Frame) = { i with mode := V } :: cs ∧
     ∀ w2, Shut Ds w' w2 → ∃ v, (results q s.tmps).run P w2 = .ok v w2 ∧ ((∃ k, Ending.returned v = .returned k) ∧ settle V = .returning ∧ ∃ μ', HR P μ' F j w2 ∧ Stp fB P μ F H w μ' F j w2) := by
    refine ⟨Ds, e1, e2, fun D hD => (z D hD).2.2.1, a, rfl, fun w2 J => ?_⟩
    have O := J.hr G.hH fun D hD => (z D hD).2.2.2
    have Z := J.lr G.hT fun D hD => (z D hD).2.2.2.1
    obtain ⟨v, hv, -⟩ := acl Z O k4 ak
    exact ⟨v, hv, ⟨v, rfl⟩, al, μ', O, J.stp hst fun D hD => (z D hD).1⟩
   rcases af with rfl | rfl <;> exact Y
  split at h
  ·rename_i l j y; exact M .nrm l j (.inl rfl) y h
  ·rename_i l j y; exact M .ret l j (.inr rfl) y h
  ·cases h
 cases p with
 | none =>
  have r : u = .returning := r
  have hr : recoverD (i :: cs) = none := by simp only [recoverD, I, r]
  rw [hr]
  have e : ({ i with mode := .returning } : Frame) = i := by rw [← r, ← I]
  have := rest .nilIface .returning .nilIf rfl
  rw [e] at this
  exact this
 | some v =>
  obtain ⟨x, hx, r⟩ := r
  have hr : recoverD (i :: cs) = some (x, { i with mode := .panicking [{ v := x, recovered := true }] } :: cs) := by simp only [recoverD, I, r]
  rw [hr]
  exact rest x _ hx rfl
/-! ### Bodies that defer -/
def Yo (P : Program) : ABody → Code → Prop
 | .code ac, c => bB P c = some ac
 | .seq a b, c => ∃ c1 c2, c = .seq c1 c2 ∧ bB P c1 = some a ∧ Yo P b c2
 | .dfr ops f b, c => ∃ c1 c2 d os g, c = .seq c1 c2 ∧ YG c1 = some (d, os, g) ∧ os.mapM (jj P d) = some ops ∧ cH g = some f ∧ Yo P b c2
theorem ajc : ∀ (c : Code) (d : ABody), l6 P c = some d → Yo P d c := by
 intro c
 induction c with
 | seq a b n l =>
  intro d h
  simp only [l6] at h
  split at h
  ·rename_i ops os g hd
   simp only [Option.bind_eq_bind, bN, Option.map_eq_some_iff] at h
   obtain ⟨ro, k, f, hf, b', ⟨c', j, rfl⟩, h⟩ := h
   cases h
   exact ⟨a, b, ops, os, g, rfl, hd, k, hf, j⟩
  ·split at h
   ·rename_i b' i
    simp only [Option.bind_eq_bind, bN] at h
    obtain ⟨m, e, h⟩ := h
    cases h
    exact ⟨a, b, rfl, e, l b' i⟩
   ·cases h
 | _ => intro d h; cases h
theorem ajx {c : Code} {ops : Array Oper} {os : List Oper} {g : Operand} (h : YG c = some (ops, os, g)) : ∃ id o, c = .region id ops false ∧ ops.toList = os ++ [o] ∧ (∃ args b, o.op = .defer ⟨.value g, args, b⟩ ∧ args.size = 0) ∧ o.dst = none ∧ o.guard = none := by
 unfold YG at h
 split at h
 ·split at h
  ·rename_i hl
   split at h
   ·rename_i ha
    cases h
    obtain ⟨d, a⟩ := List.getLast?_eq_some_iff.1 hl
    have e : ∀ (o : Oper), ops.toList = d ++ [o] → ops.toList = ops.toList.dropLast ++ [o] := fun o h => by rw [h]; simp
    exact ⟨_, _, rfl, e _ a, ⟨_, _, rfl, ha⟩, rfl, rfl⟩
   ·cases h
  ·cases h
 ·cases h
def X5 (P : Program) (B : Nat × List Deferred) (d : Option AV) (μ : Mu) (F : Nat → Prop) (H : Heap) (w : World) (T : Tm) (a : Act) : Prop :=
 match d with
 | none => StR P B μ F H w T a
 | some f => LR μ F w T a.tmps.toList ∧ HR P μ F H w ∧ ∃ e dfr b b1, VR μ F w f e ∧ (∀ w, (Deferred.ofValue e #[]).run P w = .ok dfr w) ∧ DM (b1, dfr :: b) μ F w a.defers ∧ B.1 ≤ b1 ∧ ∀ w2 : World, (∀ c, c < b1 → w2.heap[c]? = w.heap[c]?) → w.heap.size ≤ w2.heap.size → DM B μ F w2 b
theorem age {O : dZ} {pc : fj} (A : dQ P O) (X : tY P pc) (E : P.follows .mixedOrders = true) {m : Nat} : ∀ (J : ABody) (c : Code), Yo P J c → ∀ (T : Tm) (H : Heap) (p d : Option AV) (y : Tm) (H' : Heap), g8 O pc m J T H = some (p, d, y, H') →
  ∀ (n : Nat) (B : Nat × List Deferred) (μ : Mu) (w : World) (a : Act) (Q : Exit → Act → World → Prop), B.1 ≤ w.heap.size → StR P B μ F H w T a →
  (∀ i w' μ', X5 P B d μ' F H' w' y i → Stp fB P μ F H w μ' F H' w' → (p = none → Q .normal i w' ∧ Q .ret i w') ∧ (∀ v u, p = some v → VR μ' F w' v u → Q (.panic [{ v := u, recovered := false }]) i w')) → c.wpIn Fence.wide n P Q a w := by
 intro J
 have hF : FenceOK Fence.wide false := .inl ⟨rfl, rfl⟩
 induction J with
 | code ac =>
  intro c hb T H p d y H' h n B μ w a Q s q x
  simp only [g8] at h
  split at h
  ·rename_i t H1 l
   cases h
   exact uD A E c ac hb T H _ _ _ (CI _ _ _ _ _ _ l) Fence.wide n B μ F w a Q hF s q fun i w' μ' r hst => ((x i w' μ' r hst).1 rfl).1
  ·rename_i t H1 l
   cases h
   exact uD A E c ac hb T H _ _ _ (CI _ _ _ _ _ _ l) Fence.wide n B μ F w a Q hF s q fun i w' μ' r hst => ((x i w' μ' r hst).1 rfl).2
  ·rename_i v t H1 l
   cases h
   exact adi A X E c ac hb T H _ _ _ l Fence.wide n B μ F w a Q hF s q fun i w' μ' u N r hst => (x i w' μ' r hst).2 v u rfl N
  ·cases h
 | seq ac b ih =>
  intro c hb T H p d y H' h n B μ w a Q s q x
  obtain ⟨c1, c2, rfl, h1, h2⟩ := hb
  simp only [g8] at h
  refine wpIn_seq ?_
  split at h
  ·rename_i t H1 l
   refine uD A E c1 ac h1 T H _ _ _ (CI _ _ _ _ _ _ l) Fence.wide n B μ F w a _ hF s q fun i w' μ' r hst => ?_
   exact ih c2 h2 t H1 p d y H' h n B μ' w' i Q (Nat.le_trans s hst.size) r fun a2 w2 μ2 z C => x a2 w2 μ2 z (hst.trans C)
  ·rename_i t H1 l
   cases h
   exact uD A E c1 ac h1 T H _ _ _ (CI _ _ _ _ _ _ l) Fence.wide n B μ F w a _ hF s q fun i w' μ' r hst => ((x i w' μ' r hst).1 rfl).2
  ·rename_i v t H1 l
   cases h
   exact adi A X E c1 ac h1 T H _ _ _ l Fence.wide n B μ F w a _ hF s q fun i w' μ' u N r hst => (x i w' μ' r hst).2 v u rfl N
  ·cases h
 | dfr ops f b ih =>
  intro c hb T H p d y H' h n B μ w a Q s q x
  obtain ⟨c1, c2, G, os, g, rfl, hd, Y, ar, hb⟩ := hb
  obtain ⟨id, o, rfl, K, ⟨Z, aa, hop, af⟩, am, ao⟩ := ajx hd
  simp only [g8] at h
  split at h
  rotate_left
  ·cases h
  rename_i t H1 l
  split at h
  rotate_left
  ·cases h
  rename_i R fs cs ai
  split at h
  rotate_left
  ·cases h
  rename_i p1 T2 H2 ap
  cases h
  have hlen : ops.length = os.length := by have := (CE _ _ Y).1; omega
  have hsz : G.size = os.length + 1 := by rw [← Array.length_toList, K]; simp
  have hoi : G[os.length]? = some o := by
   have : G.toList[os.length]? = some o := by rw [K]; simp
   simpa using this
  refine wpIn_seq (wpIn_region ?_)
  have ak : List.range G.size = List.range' 0 os.length ++ [os.length] := by rw [hsz, List.range_succ, List.range_eq_range']
  rw [ak]
  refine Y5 A hF (n := n) (ops := G) (base := H.next) (top := H.next + os.length) (tail := [os.length]) os ops 0 H.next μ { H with next := H.next + (ops.length + 1) } w T a (fun k o' hk => ?_) Y l (Nat.le_refl _) (Nat.le_refl _) (by show H.next + os.length ≤ H.next + (ops.length + 1); omega)
   (fun j h1 _ => pB q.hH (by omega)) q.hT (q.hH.bump _) (fun a1 w1 μ1 ag U S ad => ?_)
  ·have al := (List.getElem?_eq_some_iff.1 hk).1
   have : G.toList[0 + k]? = some o' := by rw [K, Nat.zero_add, List.getElem?_append_left al]; exact hk
   simpa using this
  have M : Stp fB P μ F H w μ1 F H1 w1 := XN (Stp.refl _ _ _ _ _ _) (ad.mono fun b hb => hb.1)
  have hv := fw U ar
  rw [ai] at hv
  obtain ⟨I, V⟩ : ∃ I, I = a1.eval g := ⟨_, rfl⟩
  rw [← V] at hv
  obtain ⟨us, vs, aj⟩ : ∃ us vs, I = .func (.func R) us vs := by cases hv with | fn _ _ _ us vs _ _ _ _ => exact ⟨us, vs, rfl⟩
  obtain ⟨dfr, ah⟩ : ∃ dfr : Deferred, dfr = { target := .fn (.func R) vs, args := us ++ #[] } := ⟨_, rfl⟩
  have W : ∀ w, (Deferred.ofValue I #[]).run P w = .ok dfr w := fun w => by rw [aj, ah]; rfl
  have aq : (o.semAt Fence.wide.round a1.eval).run P w1 = .ok (.defer dfr) w1 := by
   have : Z = #[] := Array.eq_empty_of_size_eq_zero af
   subst this
   show (Oper.semAt none a1.eval o).run P w1 = _
   rw [Oper.semAt_none]
   unfold execOp
   rw [hop]
   have hr : (resolve a1.eval ⟨.value g, #[], aa⟩ o.type).run P w1 = .ok dfr w1 := by
    simp only [resolve, ← V]
    simpa using W w1
   simp [hr]
  simp only [wpOpsIn, hoi]
  rw [if_pos (by unfold Region.wanted; rw [ao])]
  refine ⟨fun f _ => trivial, ?_⟩
  rw [aq, Oper.uponIn_defer, am]
  show c2.wpIn Fence.wide n P Q { a1 with defers := dfr :: a1.defers } w1
  have ae : StR P (w1.heap.size, dfr :: a1.defers) μ1 F H1 w1 t { a1 with defers := dfr :: a1.defers } := ⟨U, S, DM.nil (B := (w1.heap.size, dfr :: a1.defers))⟩
  refine ih c2 hb t H1 p none y H' ap n (w1.heap.size, dfr :: a1.defers) μ1 w1 _ Q (Nat.le_refl _) ae fun a2 w2 μ2 z C => ?_
  have z : StR P (w1.heap.size, dfr :: a1.defers) μ2 F H' w2 y a2 := z
  have ab : ∀ w3 : World, (∀ c, c < w1.heap.size → w3.heap[c]? = w2.heap[c]?) → w2.heap.size ≤ w3.heap.size → DM B μ2 F w3 a1.defers := by
   intro w3 au av
   have h0 : DM B μ1 F w1 a1.defers := by rw [ag]; exact q.hD.stp M
   obtain ⟨Ds, g1, g2, g3⟩ := h0
   refine ⟨Ds, g1, g2, fun D hD => ?_⟩
   obtain ⟨k1, k2, k3, k4, k5⟩ := g3 D hD
   have := C.size
   refine ⟨k1, by omega, (au D k2).trans ((C.keep D k2 fun b L _ hL => k5 b L hL).trans k3), k4, fun b L hb => ?_⟩
   rcases C.rng b L hb with ⟨b0, L0, h0, e⟩ | hge
   ·rw [← e]; exact k5 b0 L0 h0
   ·omega
  have := x a2 w2 μ2 ⟨z.hT, z.hH, I, dfr, a1.defers, w1.heap.size, C.vr S hv, W, z.hD, Nat.le_trans s M.size, ab⟩ (M.trans C)
  exact this
theorem ajg {O : Nat → Option AFn} {z : dZ} {pc : fj} (k : dQ P z) (J : tY P pc) (o : P.follows .mixedOrders = true) (ap : jq P O) {m : Nat} {f : Nat} {fn : Func} {afn : AFn} {b : ABody} {args : List AV} {v : AV} {H' : Heap} (hf : P.funcs[f]? = some fn)
  {c : Code} (hb : fn.body = some c) (G : l6 P c = some b) (I : fn.results.toList.mapM (i3 P) = some afn.results) (aj : afn.ntmps = fn.ntmps)
  (h : CD O z pc m afn b args H = some (v, H')) {vs : List Value} (M : LR μ F w args vs) (hH : HR P μ F H w) (n : Nat) {fence : Fence} {rd : Bool} (hF : FenceOK fence rd) :
  CallsIn fence n P f vs.toArray w fun e w' => ∃ u, e = .returned u ∧ ∃ μ', Done fB P μ F H w v H' u w' μ' := by
 have key : CallsIn Fence.wide n P f vs.toArray w fun e w' => ∃ u, e = .returned u ∧ ∃ μ', Done fB P μ F H w v H' u w' μ' := by
  unfold CD at h
  split at h
  rotate_left
  ·cases h
  have K : StR P (w.heap.size, []) μ F H w (args ++ List.replicate (afn.ntmps - args.length) .undef) { tmps := vs.toArray ++ Array.replicate (fn.ntmps - vs.toArray.size) undef, defers := [] } := by
   refine ⟨?_, hH, DM.nil (B := (w.heap.size, []))⟩
   have hl := M.1
   simp only [Array.toList_append, Array.toList_replicate, List.size_toArray]
   rw [← hl, aj]
   exact M.append (Zc _)
  refine callsIn_of_wp_marks hf hb trivial ?_
  split at h
  ·rename_i t H1 q
   simp only [Option.map_eq_some_iff] at h
   obtain ⟨v', s, h⟩ := h
   cases h
   refine age k J o b c (ajc c b G) _ _ _ _ _ _ q n (w.heap.size, []) μ w _ _ (Nat.le_refl _) K fun d w' μ' a hst => ⟨fun _ => ?_, fun v u hp => by cases hp⟩
   have a : StR P (w.heap.size, []) μ' F H' w' t d := a
   have := ajy n I s a.hD (Nat.le_refl _) a.hT a.hH hst
   exact ⟨this, this⟩
  ·rename_i p S t H1 q
   split at h
   rotate_left
   ·cases h
   rename_i H2 al
   simp only [Option.map_eq_some_iff] at h
   obtain ⟨v', s, h⟩ := h
   cases h
   refine age k J o b c (ajc c b G) _ _ _ _ _ _ q n (w.heap.size, []) μ w _ _ (Nat.le_refl _) K fun d w' μ' a hst => ?_
   obtain ⟨aa, Y, U, dfr, A, b1, af, ak, X, ad, V⟩ := a
   -- the frame leaves: marks, the deferred function, marks
   have N : ∀ (u : FrameMode), u ≠ .run → (∀ w2, (∀ c, F c → w2.heap[c]? = w'.heap[c]?) → um μ' F w2 p u) →
     LeavesInM Fence.wide n P fn d.tmps (fun e w' => ∃ u, e = .returned u ∧ ∃ μ', Done fB P μ F H w v H' u w' μ') d.defers u w' := by
    intro u L ai
    obtain ⟨Ds, e1, e2, i⟩ := X
    rw [e1]
    refine Za L Ds w' e2 (fun D hD => (i D hD).2.2.1) fun w2 hs => ?_
    have C : ∀ D ∈ Ds, ¬ F D := fun D hD => (i D hD).2.2.2.1
    have E := hs.hr Y fun D hD => (i D hD).2.2.2
    have ab := hs.lr aa C
    have j : ∀ c, F c → w2.heap[c]? = w'.heap[c]? := fun c hc => hs.other c fun hm => C c hm hc
    have ao : Stp fB P μ F H w μ' F H1 w2 := hs.stp hst fun D hD => by have := (i D hD).1; simp only at this ad; omega
    have ag : VR μ' F w2 S U := af.mono (fun _ _ h => h) (fun _ h => h) j
    obtain ⟨T, cap, R, Q, aq, ah, ae⟩ := ajj k o ap (n - 1) al ag (ak w2) E (ai w2 j)
    have W : DM (w.heap.size, []) μ' F w2 A := V w2 (fun c hc => hs.other c fun hm => by have := (i c hm).1; simp only at this; omega) (by rw [hs.size]; exact Nat.le_refl _)
    refine ⟨L, .inr ⟨fun h => (by cases h), T, cap, R, Q, aq, ah, fun g _ => trivial, ae.mono fun e u' w3 ⟨⟨rv, he⟩, am, μ3, Z, r⟩ => ?_⟩⟩
    subst he
    show LeavesInM Fence.wide n P fn d.tmps _ A (settle u') w3
    rw [am]
    exact ajy n I s (W.stp r) (Nat.le_refl _) (r.lr E ab) Z (ao.trans r)
   refine ⟨fun hp => ?_, fun x y hp ar => ?_⟩
   ·have := N .returning (fun e => by cases e) fun w2 _ => by rw [hp]; rfl
    exact ⟨this, this⟩
   ·exact N (.panicking [{ v := y, recovered := false }]) (fun e => by cases e) fun w2 j => by
     rw [hp]
     exact ⟨y, ar.mono (fun _ _ h => h) (fun _ h => h) j, rfl⟩
  ·cases h
 rcases hF with ⟨_, rfl⟩ | ⟨_, l, rfl⟩
 ·exact key
 ·exact key
theorem akz {j : Nat → Option AFn} {d : dZ} {pc : fj} (q : dQ P d) (t : tY P pc) (s : P.follows .mixedOrders = true) (z : jq P j) {m f : Nat} {args : List AV} {v : AV} {H' : Heap} (h : iQ j d pc m f args H = some (v, H'))
  {vs : List Value} (i : LR μ F w args vs) (hH : HR P μ F H w) (n : Nat) {fence : Fence} {rd : Bool} (hF : FenceOK fence rd) : RunsP fence n P ((callFunc f vs.toArray).run P w) fun u w' => ∃ μ', Done fB P μ F H w v H' u w' μ' := by
 unfold iQ at h
 split at h
 ·cases h
 rename_i afn p
 split at h
 ·cases h
 rename_i he
 split at h
 rotate_left
 ·cases h
 split at h
 rotate_left
 ·cases h
 rename_i G E H1 x
 cases h
 obtain ⟨-, C⟩ := z f afn p
 obtain ⟨fn, hfn, r⟩ := C fun e h => by rw [he] at h; cases h
 obtain ⟨k1, k2, k3, k4, k5⟩ := YA r he
 obtain ⟨c, hc⟩ := Option.isSome_iff_exists.1 k1
 rw [xL hfn k1 k5]
 simp only [RunsP]
 have key : CallsIn Fence.wide n P f vs.toArray w fun e w' => ∃ u, e = .panicked [{ v := u, recovered := false }] ∧ ∃ μ', Done fB P μ F H w v H' u w' μ' := by
  have y : StR P (w.heap.size, []) μ F H w (args ++ List.replicate (afn.ntmps - args.length) .undef) { tmps := vs.toArray ++ Array.replicate (fn.ntmps - vs.toArray.size) undef, defers := [] } := by
   refine ⟨?_, hH, DM.nil (B := (w.heap.size, []))⟩
   have hl := i.1
   simp only [Array.toList_append, Array.toList_replicate, List.size_toArray]
   rw [← hl, k4]
   exact i.append (Zc _)
  refine callsIn_of_wp_marks hfn hc trivial ?_
  refine adi q t s c afn.body (k2 c hc) _ _ _ _ _ x Fence.wide n (w.heap.size, []) μ F w _ _ (.inl ⟨rfl, rfl⟩) (Nat.le_refl _) y fun b w' μ' u A g hst => ?_
  obtain ⟨Ds, e1, e2, a⟩ := g.hD
  show LeavesInM Fence.wide n P fn b.tmps _ b.defers _ w'
  rw [e1]
  refine Za (fun e => by cases e) Ds w' e2 (fun D hD => (a D hD).2.2.1) fun w2 hs => ?_
  have o : ∀ D ∈ Ds, ¬ F D := fun D hD => (a D hD).2.2.2.1
  have k : ∀ c, F c → w2.heap[c]? = w'.heap[c]? := fun c hc => hs.other c fun hm => o c hm hc
  exact ⟨u, rfl, μ', A.mono (fun _ _ h => h) (fun _ h => h) k, hs.hr g.hH fun D hD => (a D hD).2.2.2, hs.stp hst fun D hD => (a D hD).1⟩
 rcases hF with ⟨_, rfl⟩ | ⟨_, l, rfl⟩
 ·exact key
 ·exact key
theorem ak0 {ay : Nat → Option AFn} {m : Nat} (j : P.follows .mixedOrders = true) (D : jq P ay) {R : dZ} {pc : fj} (aq : tY P pc) (ih : dQ P R) : dQ P (fA ay pc R m) := by
 intro t H v H' h μ F w vs fence rd k hF hH hl ar
 cases t with
 | fn f args =>
  simp only [fA] at h
  split at h
  ·cases h
  ·rename_i afn B
   obtain ⟨G, q⟩ := D f afn B
   refine ⟨fun f args e => (by cases e), ?_⟩
   split at h
   ·rename_i ab he
    obtain ⟨fn, hfn, i⟩ := q fun e h => by rw [he] at h; cases h; rfl
    obtain ⟨c, k1, k2, k3, k4, k5⟩ := xw i he
    simp only [xE, xL hfn (by rw [k1]; rfl) k5, Runs]
    exact ajg ih aq j D hfn k1 k2 k3 k4 h hl hH k hF
   ·rename_i str gs ty he
    split at h
    ·rename_i r hr
     cases h
     exact G _ he H args v H' hr μ F w vs fence rd k hF hH hl
    ·obtain ⟨fn, hfn, i⟩ := q fun e h => by rw [he] at h; cases h; rfl
     obtain ⟨k1, k2, k3, k4, k5⟩ := tR i he
     simp only [xE, xL hfn k1 k5, Runs]
     exact Y0 ih j hfn k1 k2 k3 k4 h hl hH k hF
   ·rename_i e _ _ he
    exact G e he H args v H' h μ F w vs fence rd k hF hH hl
   ·rename_i he
    obtain ⟨fn, hfn, i⟩ := q fun e h => by rw [he] at h; cases h
    obtain ⟨k1, k2, k3, k4, k5⟩ := YA i he
    simp only [xE, xL hfn k1 k5, Runs]
    exact Y0 ih j hfn k1 k2 k3 k4 h hl hH k hF
 | ent f args =>
  simp only [fA] at h
  split at h
  ·cases h
  ·rename_i afn B
   obtain ⟨G, q⟩ := D f afn B
   split at h
   ·cases h
   ·rename_i he
    obtain ⟨fn, hfn, i⟩ := q fun e h => by rw [he] at h; cases h
    obtain ⟨k1, k2, k3, k4, k5⟩ := YA i he
    refine ⟨fun f' av e => by cases e; exact xL hfn k1 k5 _ _, ?_⟩
    simp only [xE, xL hfn k1 k5, Runs]
    exact Y0 ih j hfn k1 k2 k3 k4 h hl hH k hF
 | round b args =>
  refine ⟨fun f args e => (by cases e), ?_⟩
  obtain ⟨L, hL⟩ := ar b args rfl
  simp only [fA] at h
  split at h
  ·rename_i T0 ps ad body hb
   split at h
   ·rename_i hlen
    obtain ⟨L', hL', hE⟩ := hH.ent b _ hb
    rw [hL] at hL'; cases hL'
    obtain ⟨aw, r, g1, g2, g3, S, g5, g6, T⟩ := hE
    have ax : r.pending = none := by
     cases hp : r.pending with
     | none => rfl
     | some c => rw [hp] at T; exact T.elim
    have hargs : vs.toArray.size = r.params.size := by
     have h1 := hl.1
     simp only [Task.args] at h1
     have h2 : r.params.size = ps.length := by rw [← S]; simp
     simp; omega
    simp only [xE, hL, run_yield g1 hargs, Runs]
    split at h
    ·rename_i T1 H1 ai
     split at h
     ·rename_i J Z M O X
      split at h
      ·rename_i x T2 H2 aj
       split at h
       ·rename_i K aa N Q Y
        have key : RoundIn Fence.wide k P L.blk r.fn ((r.params.zip vs.toArray).foldl (fun tmps (t, a) => tmps.setIfInBounds t a) r.tmps) r.assign r.body w fun e w' => ∃ u, e = .returned u ∧ ∃ μ', Done fB P μ F H w v H' u w' μ' := by
         have ak : ((r.params.zip vs.toArray).foldl (fun tmps (t, a) => tmps.setIfInBounds t a) r.tmps) = (ps.zip vs).foldl (fun (t : Array Value) (p : Nat × Value) => t.setIfInBounds p.1 p.2) r.tmps := by
          rw [← Array.foldl_toList, Array.toList_zip, S]
         rw [ak]
         refine roundIn_of_wpIn trivial ?_
         have au : StR P (w.heap.size, []) μ F H w (kT T0 (ps.zip args)) { tmps := (ps.zip vs).foldl (fun (t : Array Value) (p : Nat × Value) => t.setIfInBounds p.1 p.2) r.tmps, defers := [] } :=
          ⟨alu ps args vs T0 r.tmps hl g3, hH, DM.nil⟩
         refine uD ih j r.assign ad g5 _ _ _ _ _ ai (Fence.wide.inRound L.blk) k (w.heap.size, []) μ F w _ _ (.inr ⟨rfl, _, rfl⟩) (Nat.le_refl _) au fun a1 w1 μ1 o n => ?_
         obtain ⟨L1, U, ae⟩ := o.hH.ent b _ X
         rw [n.mu _ _ hL] at U; cases U
         obtain ⟨ao, r1, q1, q2, q3, q4, q5, q6, q7⟩ := ae
         have al := (Array.getElem?_eq_some_iff.1 q1).1
         refine ⟨_, run_beginRound q1 q2, ?_⟩
         obtain ⟨ag, y⟩ := Ci (I := fB) (e := .loop J Z M O .busy none) o.hH X rfl (n.mu _ _ hL) (w1.putObj L.blk (.loop { r1 with state := .busy })) (fun c hc => World.putObj_heap_other hc) (by simp [World.putObj]) rfl rfl rfl
          (fun E => ⟨ao, _, World.putObj_heap_same al, rfl, q3.mono (fun _ _ h => h) (fun _ h => h) E, q4, q5, q6, q7⟩) rfl
         have ah : StR P (w.heap.size, []) μ1 F (H1.put b (.loop J Z M O .busy none)) (w1.putObj L.blk (.loop { r1 with state := .busy })) T1 a1 := ⟨y.lr o.hH o.hT, ag, o.hD.stp y⟩
         refine uD ih j r.body body g6 _ _ _ _ _ aj (Fence.wide.inRound L.blk) k (w.heap.size, []) μ1 F _ _ _ (.inr ⟨rfl, _, rfl⟩) (Nat.le_trans n.size y.size) ah fun a2 w2 μ2 W C => ?_
         obtain ⟨L2, V, af⟩ := W.hH.ent b _ Y
         rw [C.mu _ _ (n.mu _ _ hL)] at V; cases V
         obtain ⟨ap, r2, s1, s2, s3, s4, s5, s6, s7⟩ := af
         have am := (Array.getElem?_eq_some_iff.1 s1).1
         have s : ∀ (d : Option Code) (st : LoopState) (z : Option ACode) (A : Bool), (if d.isNone then LoopState.ready else .done) = st → d.isNone = A → (match z, d with | none, none => True | some c, some c' => bB P c' = some c | _, _ => False) →
           some (AV.bool A, H2.put b (.loop K aa N Q st z)) = some (v, H') →
           ∃ u w', (Instr.endRound L.blk d).run P w2 = .ok u w' ∧ ∃ u', Ending.returned u = .returned u' ∧ ∃ μ', Done fB P μ F H w v H' u' w' μ' := by
          intro d st z A e1 e2 e3 e4
          cases e4
          subst e2
          refine ⟨_, _, run_endRound d s1, _, rfl, μ2, ?_⟩
          obtain ⟨z1, z2⟩ := Ci (I := fB) (e := .loop K aa N Q st z) W.hH Y rfl (C.mu _ _ (n.mu _ _ hL)) (w2.putObj L.blk (.loop { r2 with state := if d.isNone then .ready else .done, pending := d })) (fun c hc => World.putObj_heap_other hc) (by simp [World.putObj]) rfl rfl rfl
           (fun E => ⟨ap, _, World.putObj_heap_same am, e1, s3.mono (fun _ _ h => h) (fun _ h => h) E, s4, s5, s6, e3⟩) rfl
          exact ⟨.bool _, z1, ((n.trans y).trans C).trans z2⟩
         cases x with
         | nrm => exact s none .ready none true rfl rfl trivial h
         | ret => exact s (some .ret) .done (some .ret) false rfl rfl rfl h
         | exit id => exact s (some (.exit id)) .done (some (.exit id)) false rfl rfl rfl h
         | goto g => exact s (some (.goto g)) .done (some (.goto g)) false rfl rfl rfl h
        rcases hF with ⟨_, rfl⟩ | ⟨_, l, rfl⟩
        ·exact key
        ·exact key
       ·cases h
      ·cases h
     ·cases h
    ·cases h
   ·cases h
  ·cases h
end
end Go.Proofs.YtopigipibioclaaGreatDoor.Ev
