/-
  THE EVALUATOR's CODE is the model's: operations, regions, statements.
-/
import Derived.Test.YtedembbgeljdkaaGreatDoorEvHeapAll
import Derived.LoopNIn
import Derived.RangeFuncLeaves
namespace Go.Proofs.YtedembbgeljdkaaGreatDoor.Ev
open Go
set_option linter.all false

def Runs (F : Fence) (n : Nat) (P : Program) (r : Result Next) (post : Value → World → Prop) : Prop :=
  match r with
  | .ok (.value u) w' => post u w'
  | .ok (.enter f args) w' => CallsIn F n P f args w' fun e w'' => ∃ u, e = .returned u ∧ post u w''
  | .ok (.round l f tmps asg body) w' => RoundIn F n P l f tmps asg body w' fun e w'' => ∃ u, e = .returned u ∧ post u w''
  | _ => False

def FenceOK (F : Fence) (rd : Bool) : Prop := (rd = false ∧ F = Fence.wide) ∨ (rd = true ∧ ∃ l, F = Fence.wide.inRound l)

def NoI : Nat → Prop := fun _ => False

def taskRun (P : Program) (μ : Mu) (t : Task) (vs : List Value) (w : World) : Result Next :=
  match t with
  | .fn f _ => (callFunc f vs.toArray).run P w
  | .ent f _ => (callFunc f vs.toArray).run P w
  | .round b _ => match μ b with
    | some L => (Instr.yield L.blk vs.toArray).run P w
    | none => .halt (.stuck "") w

def Task.args : Task → List AV
  | .fn _ args => args
  | .round _ args => args
  | .ent _ args => args

def CalOK (P : Program) (cal : Cal) : Prop := ∀ t H v H', cal t H = some (v, H') → ∀ (μ : Mu) (F : Nat → Prop) (w : World) (vs : List Value) (fence : Fence) (rd : Bool) (n : Nat), FenceOK fence rd → HR P μ F H w → LR μ F w t.args vs →
  (∀ b args, t = .round b args → ∃ L, μ b = some L) →
  (∀ f args, t = .ent f args → (callFunc f vs.toArray).run P w = .ok (.enter f vs.toArray) w) ∧ Runs fence n P (taskRun P μ t vs w) fun u w' => ∃ μ', Done NoI P μ F H w v H' u w' μ'

section
variable {P : Program}

theorem Runs.mono {F : Fence} {n : Nat} {r : Result Next} {p q : Value → World → Prop} (h : Runs F n P r p) (hpq : ∀ u w, p u w → q u w) : Runs F n P r q := by
  unfold Runs at *
  split at h
  · exact hpq _ _ h
  · exact h.mono fun e w ⟨u, h1, h2⟩ => ⟨u, h1, hpq _ _ h2⟩
  · exact h.mono fun e w ⟨u, h1, h2⟩ => ⟨u, h1, hpq _ _ h2⟩
  · exact h.elim

theorem FenceOK.fn {F : Fence} {rd : Bool} (h : FenceOK F rd) (f : FuncId) : F.fn f := by
  rcases h with ⟨_, rfl⟩ | ⟨_, l, rfl⟩ <;> trivial
theorem FenceOK.depth {F : Fence} {rd : Bool} (h : FenceOK F rd) (n : Nat) : F.depth.isSome = true → 1 ≤ n := by
  rcases h with ⟨_, rfl⟩ | ⟨_, l, rfl⟩ <;> intro h <;> cases h

theorem oper_ends {fence : Fence} {rd : Bool} {n : Nat} {o : Oper} {a : Act} {w w' : World} {u : Value} {next : Act → World → Prop} {Q : Exit → Act → World → Prop} (hF : FenceOK fence rd) (hd : ∀ c, o.op ≠ .defer c)
    (h : Ends P a w o u w') (hn : next (a.put o.dst u) w') : o.wpIn fence n P a w next Q := by
  refine ⟨fun f _ => hF.fn f, ?_⟩
  rw [Oper.semAt_eq _ _ _ hd]
  rcases h with h | ⟨h, rfl⟩
  · rw [h]; exact hn
  · rw [h]; exact hn

theorem oper_runs {fence : Fence} {rd : Bool} {n : Nat} {o : Oper} {a : Act} {w : World} {next : Act → World → Prop} {Q : Exit → Act → World → Prop} (hF : FenceOK fence rd) (hd : ∀ c, o.op ≠ .defer c)
    (h : Runs fence (n - 1) P ((execOp a.eval o).run P w) fun u w' => next (a.put o.dst u) w') : o.wpIn fence n P a w next Q := by
  refine ⟨fun f _ => hF.fn f, ?_⟩
  rw [Oper.semAt_eq _ _ _ hd]
  generalize (execOp a.eval o).run P w = r at h
  unfold Runs at h
  split at h
  · exact h
  · exact ⟨hF.depth n, h.mono fun e w ⟨u, h1, h2⟩ => by subst h1; exact h2⟩
  · exact ⟨hF.depth n, h.mono fun e w ⟨u, h1, h2⟩ => by subst h1; exact h2⟩
  · exact h.elim

theorem cOp_defer {o : Oper} {ao : AOp} (h : cOp P o = some ao) : ∀ c, o.op ≠ .defer c := by
  intro c hc
  unfold cOp at h
  rw [hc] at h
  cases h

variable {μ : Mu} {F : Nat → Prop} {H : Heap} {w : World} {T : Tm} {a : Act}

theorem taskOf_runs {cal : Cal} (hcal : CalOK P cal) {f : AV} {args : List AV} {t : Task} {v : AV} {H' : Heap} {vf : Value} {vs : List Value} (hf : VR μ F w f vf) (hargs : LR μ F w args vs) (ht : taskOf f args = some t)
    (h : cal t H = some (v, H')) (hH : HR P μ F H w) {fence : Fence} {rd : Bool} (hF : FenceOK fence rd) (n : Nat) {c : Call} {ty : TypeId} {ρ : Operand → Value} {g : Operand} (hc : c.callee = .value g) (hg : ρ g = vf) (hvs : (c.args.map ρ).toList = vs) :
    Runs fence n P ((do let d ← resolve ρ c ty; invoke d.target d.args : Sem Next).run P w) fun u w' => ∃ μ', Done NoI P μ F H w v H' u w' μ' := by
  have hvs' : c.args.map ρ = vs.toArray := by rw [← hvs]
  cases f <;> simp only [taskOf] at ht <;> first | (cases ht; done) | skip
  · rename_i fn first cap
    cases fn <;> simp only at ht <;> first | (cases ht; done) | skip
    rename_i fi
    cases ht
    cases hf with
    | fn _ _ _ us vs' h1 h2 h3 h4 =>
    have hl := ((LR.of_agg h1 h2).append hargs).append (LR.of_agg h3 h4)
    have := (hcal _ _ _ _ h μ F w _ fence rd n hF hH hl (fun b args e => by cases e)).2
    simp only [taskRun] at this
    have e : (do let d ← resolve ρ c ty; invoke d.target d.args : Sem Next).run P w = (callFunc fi (us.toList ++ vs ++ vs'.toList).toArray).run P w := by
      simp only [resolve, hc, hg, hvs', Deferred.ofValue, Sem.run_bind, Sem.run_pure, Result.andThen_ok, invoke]
      congr 2
      apply Array.ext'; simp
    rw [e]; exact this
  · rename_i b
    cases ht
    cases hf with
    | loopv _ L hL =>
    have := (hcal _ _ _ _ h μ F w vs fence rd n hF hH hargs (fun b' args' e => by cases e; exact ⟨L, hL⟩)).2
    simp only [taskRun, hL] at this
    have e : (do let d ← resolve ρ c ty; invoke d.target d.args : Sem Next).run P w = (Instr.yield L.blk vs.toArray).run P w := by
      simp only [resolve, hc, hg, hvs', Deferred.ofValue, Sem.run_bind, Sem.run_pure, Result.andThen_ok, invoke]
      congr 2
      apply Array.ext'; simp
    rw [e]; exact this

theorem opA_sound {cal : Cal} (hcal : CalOK P cal) {I : Nat → Prop} {o : Oper} {ao : AOp} {v : AV} {H' : Heap} {id : Nat} (hc : cOp P o = some ao) (hp : opA cal (Src.ev T) H id ao = some (v, H')) (hT : LR μ F w T a.tmps.toList) (hH : HR P μ F H w)
    (hid : μ id = none) (hlt : id < H.next) (hI : I id) {fence : Fence} {rd : Bool} (hF : FenceOK fence rd) {n : Nat} {next : Act → World → Prop} {Q : Exit → Act → World → Prop}
    (hn : ∀ u w' μ', Done I P μ F H w v H' u w' μ' → next (a.put o.dst u) w') : o.wpIn fence n P a w next Q := by
  have hd := cOp_defer hc
  have easy : (match pureA (Src.ev T) ao with | some v => some (v, H) | none => heapA (Src.ev T) H id ao) = some (v, H') → o.wpIn fence n P a w next Q := by
    intro hp
    split at hp
    · rename_i v' hv'
      cases hp
      obtain ⟨u, h1, h2⟩ := pureA_sound hc hv' hT
      exact oper_ends hF hd (.inl h1) (hn u w μ ⟨h2, hH, Stp.refl _ _ _ _ _ _⟩)
    · obtain ⟨u, w', μ', h1, h2⟩ := heapA_sound hc hp hT hH hid hlt hI
      exact oper_ends hF hd h1 (hn u w' μ' h2)
  cases ao with
  | call f args =>
    simp only [opA, Option.bind_eq_bind, Option.bind_eq_some_iff] at hp
    obtain ⟨t, ht, hp⟩ := hp
    -- the operation is a call of a function's value
    obtain ⟨g, cargs, argTypes, hop, hg, hargs⟩ : ∃ g cargs argTypes, o.op = .call ⟨.value g, cargs, argTypes⟩ ∧ cSrc g = some f ∧ cargs.toList.mapM cSrc = some args := by
      obtain ⟨dst, op, ty, pos, after, guard⟩ := o
      cases op <;> simp only [cOp] at hc
      case next x sb =>
        split at hc
        · simp only [Option.map_eq_some_iff] at hc
          obtain ⟨_, _, hc⟩ := hc
          cases hc
        · cases hc
      case call c =>
        simp only [Option.bind_eq_bind, Option.bind_eq_some_iff] at hc
        obtain ⟨as, has, hc⟩ := hc
        obtain ⟨callee, cargs, argTypes⟩ := c
        cases callee with
        | value g =>
          simp only [Option.bind_eq_some_iff] at hc
          obtain ⟨s, hs, hc⟩ := hc; cases hc
          exact ⟨g, cargs, argTypes, rfl, hs, has⟩
        | invoke r m => cases hc
        | builtin b =>
          simp only at hc
          split at hc
          all_goals (try simp only [Option.bind_eq_some_iff] at hc)
          all_goals (repeat' (first | (cases hc; done) | (obtain ⟨_, _, hc⟩ := hc) | (simp only [Option.bind_eq_some_iff] at hc) | (split at hc)))
      all_goals (try simp only [Option.bind_eq_bind, Option.bind_eq_some_iff, Option.map_eq_some_iff] at hc)
      all_goals (repeat' (first | (cases hc; done) | (obtain ⟨_, _, hc⟩ := hc) | (simp only [Option.bind_eq_some_iff] at hc) | (split at hc)))
    have hl := srcs_lr hT hargs
    refine oper_runs hF hd ?_
    have hex : execOp a.eval o = (do let d ← resolve a.eval ⟨.value g, cargs, argTypes⟩ o.type; invoke d.target d.args : Sem Next) := by
      unfold execOp; rw [hop]
    rw [hex]
    have := taskOf_runs hcal (src_vr hT hg) hl ht hp hH hF (n - 1) (c := ⟨.value g, cargs, argTypes⟩) (ty := o.type) (ρ := a.eval) (g := g) rfl rfl (by simp)
    exact this.mono fun u w' ⟨μ', hμ'⟩ => hn u w' μ' ⟨hμ'.val, hμ'.heap, hμ'.stp.mono fun _ h => h.elim⟩
  | _ => exact easy hp

end
end Go.Proofs.YtedembbgeljdkaaGreatDoor.Ev
