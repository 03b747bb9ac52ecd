/-
  CODE THAT IS LEFT BY A PANIC: the evaluator's word is the model's.
-/
import Derived.Test.YtedembbgeljdkaaGreatDoorEvStmt
namespace Go.Proofs.YtedembbgeljdkaaGreatDoor.Ev
open Go
set_option linter.all false

def RunsP (F : Fence) (n : Nat) (P : Program) (r : Result Next) (post : Value → World → Prop) : Prop :=
  match r with
  | .ok (.enter f args) w' => CallsIn F n P f args w' fun e w'' => ∃ u, e = .panicked [{ v := u, recovered := false }] ∧ post u w''
  | _ => False

def PCalOK (P : Program) (pc : PCal) : Prop := ∀ f args H v H', pc (.fn f args) H = some (v, H') → ∀ (μ : Mu) (F : Nat → Prop) (w : World) (vs : List Value) (fence : Fence) (rd : Bool) (n : Nat), FenceOK fence rd → HR P μ F H w → LR μ F w args vs →
  RunsP fence n P ((callFunc f vs.toArray).run P w) fun u w' => ∃ μ', Done NoI P μ F H w v H' u w' μ'

def CodePOK (P : Program) (rd : Bool) (c : Code) (T : Tm) (H : Heap) (v : AV) (T' : Tm) (H' : Heap) : Prop :=
  ∀ (fence : Fence) (n : Nat) (B : Nat × List Deferred) (μ : Mu) (F : Nat → Prop) (w : World) (a : Act) (Q : Exit → Act → World → Prop), FenceOK fence rd → B.1 ≤ w.heap.size → StR P B μ F H w T a →
    (∀ a' w' μ' u, VR μ' F w' v u → StR P B μ' F H' w' T' a' → Stp NoI P μ F H w μ' F H' w' → Q (.panic [{ v := u, recovered := false }]) a' w') → c.wpIn fence n P Q a w

section
variable {P : Program} {μ : Mu} {F : Nat → Prop} {H : Heap} {w : World} {T : Tm} {a : Act}

theorem call_inv {o : Oper} {f : Src} {args : List Src} (hc : cOp P o = some (.call f args)) : ∃ g cargs argTypes, o.op = .call ⟨.value g, cargs, argTypes⟩ ∧ cSrc g = some f ∧ cargs.toList.mapM cSrc = some args := by
  obtain ⟨dst, op, ty, pos, after, guard⟩ := o
  cases op <;> simp only [cOp] at hc
  case next x sb =>
    split at hc
    · simp only [Option.map_eq_some_iff] at hc
      obtain ⟨_, _, hc⟩ := hc
      cases hc
    · cases hc
  case call c =>
    simp only [Option.bind_eq_bind, Option.bind_eq_some_iff] at hc
    obtain ⟨as, has, hc⟩ := hc
    obtain ⟨callee, cargs, argTypes⟩ := c
    cases callee with
    | value g =>
      simp only [Option.bind_eq_some_iff] at hc
      obtain ⟨s, hs, hc⟩ := hc; cases hc
      exact ⟨g, cargs, argTypes, rfl, hs, has⟩
    | invoke r m => cases hc
    | builtin b =>
      simp only at hc
      split at hc
      all_goals (try simp only [Option.bind_eq_some_iff] at hc)
      all_goals (repeat' (first | (cases hc; done) | (obtain ⟨_, _, hc⟩ := hc) | (simp only [Option.bind_eq_some_iff] at hc) | (split at hc)))
  all_goals (try simp only [Option.bind_eq_bind, Option.bind_eq_some_iff, Option.map_eq_some_iff] at hc)
  all_goals (repeat' (first | (cases hc; done) | (obtain ⟨_, _, hc⟩ := hc) | (simp only [Option.bind_eq_some_iff] at hc) | (split at hc)))

theorem panic_inv {o : Oper} {x : Src} (hc : cOp P o = some (.panic x)) : ∃ g, o.op = .panic g ∧ cSrc g = some x := by
  obtain ⟨dst, op, ty, pos, after, guard⟩ := o
  cases op <;> simp only [cOp] at hc
  case panic g =>
    simp only [Option.map_eq_some_iff] at hc
    obtain ⟨s, hs, hc⟩ := hc
    cases hc
    exact ⟨g, rfl, hs⟩
  case next x sb =>
    split at hc
    · simp only [Option.map_eq_some_iff] at hc
      obtain ⟨_, _, hc⟩ := hc
      cases hc
    · cases hc
  case call c =>
    simp only [Option.bind_eq_bind, Option.bind_eq_some_iff] at hc
    obtain ⟨as, has, hc⟩ := hc
    obtain ⟨callee, cargs, argTypes⟩ := c
    cases callee with
    | value g =>
      simp only [Option.bind_eq_some_iff] at hc
      obtain ⟨s, hs, hc⟩ := hc; cases hc
    | invoke r m => cases hc
    | builtin b =>
      simp only at hc
      split at hc
      all_goals (try simp only [Option.bind_eq_some_iff] at hc)
      all_goals (repeat' (first | (cases hc; done) | (obtain ⟨_, _, hc⟩ := hc) | (simp only [Option.bind_eq_some_iff] at hc) | (split at hc)))
  all_goals (try simp only [Option.bind_eq_bind, Option.bind_eq_some_iff, Option.map_eq_some_iff] at hc)
  all_goals (repeat' (first | (cases hc; done) | (obtain ⟨_, _, hc⟩ := hc) | (simp only [Option.bind_eq_some_iff] at hc) | (split at hc)))

theorem oper_runsP {fence : Fence} {rd : Bool} {n : Nat} {o : Oper} {next : Act → World → Prop} {Q : Exit → Act → World → Prop} (hF : FenceOK fence rd) (hd : ∀ c, o.op ≠ .defer c)
    (h : RunsP fence (n - 1) P ((execOp a.eval o).run P w) fun u w' => Q (.panic [{ v := u, recovered := false }]) a w') : o.wpIn fence n P a w next Q := by
  refine ⟨fun f _ => hF.fn f, ?_⟩
  rw [Oper.semAt_eq _ _ _ hd]
  generalize (execOp a.eval o).run P w = r at h
  unfold RunsP at h
  split at h
  · exact ⟨hF.depth n, h.mono fun e w ⟨u, h1, h2⟩ => by subst h1; exact h2⟩
  · exact h.elim

theorem RunsP.mono {F : Fence} {n : Nat} {r : Result Next} {p q : Value → World → Prop} (h : RunsP F n P r p) (hpq : ∀ u w, p u w → q u w) : RunsP F n P r q := by
  unfold RunsP at *
  split at h
  · exact h.mono fun e w ⟨u, h1, h2⟩ => ⟨u, h1, hpq _ _ h2⟩
  · exact h.elim

theorem opP_sound {pc : PCal} (hpc : PCalOK P pc) {o : Oper} {ao : AOp} {v : AV} {H' : Heap} (hc : cOp P o = some ao) (hp : opP pc (Src.ev T) H ao = some (v, H')) (hT : LR μ F w T a.tmps.toList) (hH : HR P μ F H w)
    {fence : Fence} {rd : Bool} (hF : FenceOK fence rd) {n : Nat} {next : Act → World → Prop} {Q : Exit → Act → World → Prop}
    (hQ : ∀ u w' μ', Done NoI P μ F H w v H' u w' μ' → Q (.panic [{ v := u, recovered := false }]) a w') : o.wpIn fence n P a w next Q := by
  have hd := cOp_defer hc
  cases ao <;> simp only [opP] at hp <;> first | (cases hp; done) | skip
  · rename_i f args
    simp only [Option.bind_eq_bind, Option.bind_eq_some_iff] at hp
    obtain ⟨t, ht, hp⟩ := hp
    obtain ⟨g, cargs, argTypes, hop, hg, hargs⟩ := call_inv hc
    have hl := srcs_lr hT hargs
    refine oper_runsP hF hd ?_
    have hex : execOp a.eval o = (do let d ← resolve a.eval ⟨.value g, cargs, argTypes⟩ o.type; invoke d.target d.args : Sem Next) := by
      unfold execOp; rw [hop]
    rw [hex]
    have hf := src_vr hT hg
    generalize hgv : a.eval g = vf at hf
    generalize hfv : f.ev T = fv at hf ht
    cases fv <;> simp only [taskOf] at ht <;> first | (cases ht; done) | skip
    · rename_i fn first cap
      cases fn <;> simp only at ht <;> first | (cases ht; done) | skip
      rename_i fi
      cases ht
      simp only at hp
      cases hf with
      | fn _ _ _ us vs' h1 h2 h3 h4 =>
      have hll := ((LR.of_agg h1 h2).append hl).append (LR.of_agg h3 h4)
      have := hpc _ _ _ _ _ hp μ F w _ fence rd (n - 1) hF hH hll
      have e : (do let d ← resolve a.eval ⟨.value g, cargs, argTypes⟩ o.type; invoke d.target d.args : Sem Next).run P w = (callFunc fi (us.toList ++ (cargs.toList.map a.eval) ++ vs'.toList).toArray).run P w := by
        simp only [resolve, hgv, Deferred.ofValue, Sem.run_bind, Sem.run_pure, Result.andThen_ok, invoke]
        congr 2
        apply Array.ext'; simp
      rw [e]
      exact this.mono fun u w' ⟨μ', hμ'⟩ => hQ u w' μ' hμ'
    · cases ht
      cases hp
  · rename_i x
    obtain ⟨g, hop, hg⟩ := panic_inv hc
    split at hp
    · rename_i t v0 hx
      cases hp
      have hv := src_vr hT hg
      rw [hx] at hv
      generalize hgv : a.eval g = vg at hv
      refine ⟨fun f _ => hF.fn f, ?_⟩
      rw [Oper.semAt_eq _ _ _ hd]
      have hrun : (execOp a.eval o).run P w = .halt (.panic vg) w := by
        unfold execOp
        rw [hop]
        simp only [hgv]
        cases hv with
        | ifc _ _ u hu => rfl
      rw [hrun]
      exact hQ vg w μ ⟨hv, hH, Stp.refl _ _ _ _ _ _⟩
    · cases hp

theorem opsP_sound {cal : Cal} {pc : PCal} (hcal : CalOK P cal) (hpc : PCalOK P pc) {fence : Fence} {rd : Bool} (hF : FenceOK fence rd) {n : Nat} {ops : Array Oper} {Q : Exit → Act → World → Prop} {v : AV} {T' : Tm} {H' : Heap} {base : Nat} {tail : List Nat} :
    ∀ (os : List Oper) (rs : List ROp) (i id : Nat) (μ : Mu) (H : Heap) (w : World) (T : Tm) (a : Act), (∀ (k : Nat) (o : Oper), os[k]? = some o → ops[i + k]? = some o) → os.mapM (cROp P ops) = some rs → opsP cal pc id rs T H = some (v, T', H') → base ≤ id → id + os.length ≤ H.next →
    (∀ j, id ≤ j → j < id + os.length → μ j = none) → LR μ F w T a.tmps.toList → HR P μ F H w →
    (∀ a' w' μ' u, a'.defers = a.defers → VR μ' F w' v u → LR μ' F w' T' a'.tmps.toList → HR P μ' F H' w' → Stp (fun b => base ≤ b) P μ F H w μ' F H' w' → Q (.panic [{ v := u, recovered := false }]) a' w') →
    wpOpsIn fence n P ops Q (List.range' i os.length ++ tail) a w := by
  intro os
  induction os with
  | nil =>
    intro rs i id μ H w T a hos hrs hrun _ _ _ hT hH hQ
    simp at hrs; subst hrs
    cases hrun
  | cons o os ih =>
    intro rs i id μ H w T a hos hrs hrun hbase hnext hfresh hT hH hQ
    simp only [List.mapM_cons, Option.pure_def, Option.bind_eq_bind, Option.bind_eq_some_iff] at hrs
    obtain ⟨r, hr, rs', hrs', hrs⟩ := hrs
    cases hrs
    have hoi : ops[i]? = some o := hos 0 o rfl
    have hos' : ∀ (k : Nat) (o : Oper), os[k]? = some o → ops[i + 1 + k]? = some o := fun k o h => by
      have := hos (k + 1) o (by simpa using h)
      rwa [show i + (k + 1) = i + 1 + k by omega] at this
    simp only [cROp, Option.map_eq_some_iff] at hr
    obtain ⟨g, hg, hr⟩ := hr
    cases hr
    simp only [List.length_cons] at hnext hfresh ⊢
    simp only [opsP] at hrun
    simp only [List.range'_succ, List.cons_append, wpOpsIn, hoi]
    split at hrun
    · rename_i hw
      have hw' := wanted_ok (o := o) hT hg hw
      rw [if_pos hw']
      split at hrun
      · rename_i v' H1 hop
        cases hrun
        have hcop : cOp P o = some ((cOp P o).getD .bad) := by
          cases hco : cOp P o with
          | some x => rfl
          | none => rw [hco] at hop; simp [opP] at hop
        exact opP_sound hpc hcop hop hT hH hF fun u w' μ' hd => hQ a w' μ' u rfl hd.val (hd.stp.lr hH hT) hd.heap (hd.stp.mono fun b hb => hb.elim)
      · split at hrun
        · rename_i v' H1 hop
          have hcop : cOp P o = some ((cOp P o).getD .bad) := by
            cases hco : cOp P o with
            | some x => rfl
            | none => rw [hco] at hop; simp [opA, pureA, heapA] at hop
          refine opA_sound hcal (I := fun b => b = id) hcop hop hT hH (hfresh id (Nat.le_refl _) (by omega)) (by omega) rfl hF fun u w' μ' hdone => ?_
          refine ih rs' (i + 1) (id + 1) μ' H1 w' _ _ hos' hrs' hrun (by omega) (by have := hdone.stp.next; omega) (fun j h1 h2 => ?_) (put_lr (hdone.stp.lr hH hT) _ hdone.val) hdone.heap fun a' w2 μ2 u2 hdef hv2 hT2 hH2 hS2 => ?_
          · exact hdone.stp.new j (by omega) (by omega) (hfresh j (by omega) (by omega))
          · refine hQ a' w2 μ2 u2 (hdef.trans ?_) hv2 hT2 hH2 ((hdone.stp.mono fun b hb => ?_).trans hS2)
            · cases o.dst <;> rfl
            · subst hb; exact hbase
        · cases hrun
    · rename_i hw
      have hw' := wanted_ok (o := o) hT hg hw
      rw [if_neg (by rw [hw']; decide)]
      refine ⟨fun f _ => hF.fn f, ?_⟩
      refine ih rs' (i + 1) (id + 1) μ H w _ _ hos' hrs' hrun (by omega) (by omega) (fun j h1 h2 => hfresh j (by omega) (by omega)) (put_lr hT _ tup_nil) hH fun a' w2 μ2 u2 hdef hv2 hT2 hH2 hS2 => ?_
      refine hQ a' w2 μ2 u2 (hdef.trans ?_) hv2 hT2 hH2 hS2
      cases o.dst <;> rfl
    · cases hrun

theorem regionP_sound {cal : Cal} {pc : PCal} (hcal : CalOK P cal) (hpc : PCalOK P pc) {fence : Fence} {rd : Bool} (hF : FenceOK fence rd) {n id : Nat} {ops : Array Oper} {rs : List ROp} {Q : Exit → Act → World → Prop} {v : AV} {T' : Tm} {H' : Heap}
    (hrs : ops.toList.mapM (cROp P ops) = some rs) (hrun : opsP cal pc H.next rs T { H with next := H.next + rs.length } = some (v, T', H')) (hT : LR μ F w T a.tmps.toList) (hH : HR P μ F H w)
    (hQ : ∀ a' w' μ' u, a'.defers = a.defers → VR μ' F w' v u → LR μ' F w' T' a'.tmps.toList → HR P μ' F H' w' → Stp NoI P μ F H w μ' F H' w' → Q (.panic [{ v := u, recovered := false }]) a' w') :
    (Code.region id ops false).wpIn fence n P Q a w := by
  refine wpIn_region ?_
  have hlen : rs.length = ops.toList.length := by have := (mapM_at _ _ hrs).1; omega
  have := opsP_sound hcal hpc hF (n := n) (ops := ops) (Q := Q) (base := H.next) (tail := []) ops.toList rs 0 H.next μ _ w T a (fun k o h => by simpa using h) hrs hrun (Nat.le_refl _) (by simp [hlen]) (fun j h1 _ => fresh_next hH h1) hT (hH.bump _)
    (fun a' w' μ' u hd hv hT' hH' hS => hQ a' w' μ' u hd hv hT' hH' (base_stp (Stp.refl _ _ _ _ _ _) hS))
  rw [List.range_eq_range']; simpa using this


/-! ### Regions whose order is open -/

theorem drawGoP_at {cal : Cal} {base : Nat} {T0 : Tm} : ∀ (ds : List DOp) (i : Nat) (sk : List Nat) (s0 : DS) (sk' : List Nat) (s : DS), (∀ d ∈ ds, d.cls = 0 ∨ d.cls = 1 ∨ d.cls = 2) → (∀ j ∈ sk, j < i) → s0.Vs.length = i → s0.Es.length = i →
    drawGoP cal base T0 i sk ds s0 = some (sk', s) →
    Pre s0 s ∧ s.Cs = s0.Cs ∧ s.Vs.length = i + ds.length ∧ (∀ j ∈ sk, j ∈ sk') ∧ (∀ j ∈ sk', j < i → j ∈ sk) ∧
    ∀ (q : Nat) (d : DOp), ds[q]? = some d → (i + q ∈ sk' ∧ ∃ sk1, (∀ j ∈ sk1, j ∈ sk' ∧ j < i + q) ∧ skipP sk1 d = true) ∨
      (i + q ∉ sk' ∧ d.cls ≠ 2 ∧ ∃ s1 s2, drawOp cal base T0 (i + q) d s1 = some s2 ∧ Pre s2 s ∧ s1.Vs.length = i + q ∧ s1.Es.length = i + q) := by
  intro ds
  induction ds with
  | nil =>
    intro i sk s0 sk' s _ _ hV _ h
    cases h
    exact ⟨Pre.refl _, rfl, by simp [hV], fun j h => h, fun j h _ => h, fun q d h => by simp at h⟩
  | cons d ds ih =>
    intro i sk s0 sk' s hcl hsk hV hE h
    simp only [drawGoP] at h
    have hcl' : ∀ d' ∈ ds, d'.cls = 0 ∨ d'.cls = 1 ∨ d'.cls = 2 := fun d' hd' => hcl d' (List.mem_cons_of_mem _ hd')
    split at h
    · rename_i hskip
      obtain ⟨k1, k2, k3, k4, k5, k6⟩ := ih (i + 1) (i :: sk) ⟨s0.Vs ++ [.undef], s0.Cs, s0.Es ++ [none]⟩ sk' s hcl' (fun j hj => by
        rcases List.mem_cons.1 hj with rfl | hj
        · omega
        · have := hsk j hj; omega) (by simp [hV]) (by simp [hE]) h
      have p0 : Pre s0 ⟨s0.Vs ++ [.undef], s0.Cs, s0.Es ++ [none]⟩ := ⟨List.prefix_append _ _, List.prefix_rfl, List.prefix_append _ _⟩
      refine ⟨p0.trans k1, k2, by rw [k3]; simp; omega, fun j hj => k4 j (List.mem_cons_of_mem _ hj), fun j hj hlt => ?_, fun q d' hq => ?_⟩
      · rcases List.mem_cons.1 (k5 j hj (by omega)) with rfl | h
        · omega
        · exact h
      · cases q with
        | zero =>
          simp at hq; subst hq
          exact .inl ⟨k4 i (List.mem_cons_self ..), sk, fun j hj => ⟨k4 j (List.mem_cons_of_mem _ hj), hsk j hj⟩, hskip⟩
        | succ q =>
          rw [show i + (q + 1) = i + 1 + q by omega]
          exact k6 q d' (by simpa using hq)
    · rename_i hskip
      split at h
      · rename_i s1 h1
        have hc2 : d.cls ≠ 2 := fun e => hskip (by simp [skipP, e])
        obtain ⟨g1, g2, g3, g4⟩ := drawOp_grow h1 (hcl d (List.mem_cons_self ..))
        obtain ⟨k1, k2, k3, k4, k5, k6⟩ := ih (i + 1) sk s1 sk' s hcl' (fun j hj => by have := hsk j hj; omega) (by omega) (by omega) h
        have hC : s1.Cs = s0.Cs := by
          obtain ⟨c, hc⟩ := g1.2.1
          rw [if_neg hc2, ← hc, List.length_append] at g4
          have : c = [] := List.length_eq_zero_iff.1 (by omega)
          rw [← hc, this, List.append_nil]
        refine ⟨g1.trans k1, k2.trans hC, by rw [k3]; simp; omega, k4, fun j hj hlt => k5 j hj (by omega), fun q d' hq => ?_⟩
        cases q with
        | zero =>
          simp at hq; subst hq
          refine .inr ⟨fun hm => ?_, hc2, s0, s1, h1, k1, hV, hE⟩
          have := hsk i (k5 i hm (by omega))
          omega
        | succ q =>
          rw [show i + (q + 1) = i + 1 + q by omega]
          exact k6 q d' (by simpa using hq)
      · cases h

variable {ops : Array Oper} {l : List DI} {ds : List DOp} {T0 : Tm} {s : DS} {base : Nat} {μ0 : Mu} {H0 : Heap} {w0 : World} {df : List Deferred}

theorem skip_behind {sk : List Nat} {i0 : Nat} (G : DrawOK P ops l ds) (h0 : i0 < l.length) (hc0 : clOf l i0 = 2) (hfirst : ∀ j, j < i0 → clOf l j ≠ 2)
    (hsk : ∀ i, i < l.length → i ∈ sk → ∃ sk1, (∀ j ∈ sk1, j ∈ sk ∧ j < i) ∧ skipP sk1 (ds.getD i default) = true) {S : Nat → Bool} (hcl : ∀ j, j < l.length → S j = true → ∀ p ∈ prOf l j, S p = true) :
    ∀ i, i < l.length → i ∈ sk → i ≠ i0 → (∀ p ∈ prOf l i, S p = true) → S i0 = true := by
  intro i
  induction i using Nat.strongRecOn with
  | _ i ih =>
    intro hi hm hne hp
    have hacts : ∀ j, j < l.length → clOf l j = 2 → j = i0 ∨ i0 < j := fun j hj hc => by
      rcases Nat.lt_trichotomy j i0 with h | h | h
      · exact absurd hc (hfirst j h)
      · exact .inl h
      · exact .inr h
    have byAct : ∀ j, j < l.length → clOf l j = 2 → S j = true → S i0 = true := fun j hj hc hS => by
      rcases hacts j hj hc with rfl | h
      · exact hS
      · exact hcl j hj hS i0 (G.acts i0 j h hj hc0 hc)
    obtain ⟨sk1, h1, h2⟩ := hsk i hi hm
    obtain ⟨gd1, gd2, gd3, gd4⟩ := G.dso i hi
    unfold skipP at h2
    simp only [Bool.or_eq_true, beq_iff_eq, List.any_eq_true, Bool.and_eq_true, List.all_eq_true, Bool.not_eq_true', beq_eq_false_iff_ne, ne_eq] at h2
    rcases h2 with (h2 | ⟨⟨t, u⟩, hu, h2⟩) | ⟨⟨h2, -⟩, hl⟩
    · rcases hacts i hi (gd4 ▸ h2) with e | e
      · exact absurd e hne
      · exact hp i0 (G.acts i0 i e hi hc0 (gd4 ▸ h2))
    · cases u with
      | none => cases h2
      | some j =>
        have hj : j ∈ sk1 := by simpa using h2
        obtain ⟨hjs, hji⟩ := h1 j hj
        obtain ⟨g1, -, -, -⟩ := G.useS i hi t j hu
        have hSj := hp j g1
        by_cases e : j = i0
        · rw [← e]; exact hSj
        · exact ih j hji (by omega) hjs e fun p hpp => hcl j (by omega) hSj p hpp
    · rcases G.seen i hi (gd4 ▸ h2) 0 (Nat.zero_le _) with ⟨q, hq, g1, -⟩ | ⟨q, hq, g1, g2⟩ | ⟨adds, hm⟩
      · exact byAct _ (acts_mem hq).1 (acts_mem hq).2 (hp _ g1)
      · omega
      · exact absurd rfl (hl _ hm)

theorem Stp.subH {I : Nat → Prop} {A D H' : Heap} {μ μ' : Mu} {w w' : World} (hsub : ∀ b e, D.get b = some e → A.get b = some e) (hn : D.next = A.next) (h : Stp I P μ F D w μ' F H' w') : Stp I P μ F A w μ' F H' w' :=
  ⟨h.mu, h.fr, h.size, fun c hc hn => h.keep c hc fun b L ⟨e, he, hr⟩ hL => hn b L ⟨e, hsub b e he, hr⟩ hL, fun b L hb hL => (h.rw b L hb hL).imp id fun ⟨b0, L0, ⟨e, he, hr⟩, h2, h3⟩ => ⟨b0, L0, ⟨e, hsub _ _ he, hr⟩, h2, h3⟩, hn ▸ h.next,
    fun b hb hi hx => h.new b (hn ▸ hb) hi hx, h.rng, fun b e he hb hi => let ⟨e0, h0⟩ := h.old b e he (hn ▸ hb) hi; ⟨e0, hsub _ _ h0⟩, fun b e L he hL => (h.alv b e L he hL).imp id fun ⟨b0, e0, L0, h1, h2, h3⟩ => ⟨b0, e0, L0, hsub _ _ h1, h2, h3⟩, h.tape, h.os, h.out⟩

theorem draw_anyP {cal : Cal} (hcal : CalOK P cal) {fence : Fence} {rd : Bool} (hF : FenceOK fence rd) {n : Nat} {Q : Exit → Act → World → Prop} (G : DrawOK P ops l ds) {sk : List Nat} {i0 : Nat} (h0 : i0 < l.length) (hc0 : clOf l i0 = 2) (ha0 : (actsOf l).getD 0 0 = i0) (hsk0 : i0 ∈ sk)
    (hop : ∀ i, i < l.length → i ∉ sk → OpS cal base T0 s i (ds.getD i default)) (hsame : ∀ i, i < l.length → i ∉ sk → sameAt base T0 s i 0 (ds.getD i default))
    (hskip : ∀ (S : Nat → Bool), (∀ j, j < l.length → S j = true → ∀ p ∈ prOf l j, S p = true) → ∀ i, i < l.length → i ∈ sk → i ≠ i0 → (∀ p ∈ prOf l i, S p = true) → S i0 = true)
    (hext : ∀ (S : Nat → Bool), (∀ j, j < l.length → S j = true → ∀ p ∈ prOf l j, S p = true) → ∀ i o, l.length ≤ i → ops[i]? = some o → (∀ j ∈ bindsOf o, S j = true) → S i0 = true)
    (hact : ∀ (S : Nat → Bool) (μ : Mu) (a : Act) (w : World) (K : Act → World → Prop), Inv P l T0 s base F μ0 H0 w0 df S 0 μ a w → S i0 = false → (∀ p ∈ prOf l i0, S p = true) → wpOpIn fence n P ops Q i0 K a w) :
    ∀ (fuel : Nat) (listed : Array Bool) (μ : Mu) (a : Act) (w : World), listed.size = ops.size → listed.getD i0 false = false → cnt (fun j => listed.getD j false) l.length ≤ fuel →
      Inv P l T0 s base F μ0 H0 w0 df (fun j => listed.getD j false) 0 μ a w → wpAnyIn fence n P .any ops Q fuel listed a w := by
  intro fuel
  induction fuel with
  | zero =>
    intro listed μ a w hsz hi0 hcnt J
    have := cnt_zero _ (Nat.le_zero.1 hcnt) i0 h0
    rw [hi0] at this; cases this
  | succ fuel ih =>
    intro listed μ a w hsz hi0 hcnt J
    refine ⟨fun hr => ?_, fun i hi => ?_⟩
    · have := ready_all hsz G hr i0 h0
      rw [hi0] at this; cases this
    · obtain ⟨hr0, o, ho, hall⟩ := mem_ready.1 hi
      have hlt := getD_lt hr0
      have hS := getD_tf hlt hr0
      have hb : ∀ j ∈ bindsOf o, listed.getD j false = true := fun j hj => by
        obtain ⟨e, he, hb, rfl⟩ := binds_inv hj; exact hall e he hb
      rcases Nat.lt_or_ge i l.length with hil | hil
      · have hpre : ∀ p ∈ prOf l i, (fun j => listed.getD j false) p = true := fun p hp => ready_pre J (o := o) hb (fun j hj => by have := G.back i o hil ho j hj; omega) (G.pre i o hil ho p hp)
        by_cases e : i = i0
        · subst e; exact hact _ μ a w _ J hS hpre
        · have hns : i ∉ sk := fun hm => by
            have this : listed.getD i0 false = true := hskip _ J.cl i hil hm e hpre
            rw [hi0] at this; cases this
          have hset := set_add hlt
          refine draw_step hcal hF J G (hop i hil hns) (hsame i hil hns) hil hS hpre fun a' w' μ' k' J' => ?_
          have hi0' : add (fun j => listed.getD j false) i i0 = false := by simp only [add, if_neg (Ne.symm e)]; exact hi0
          have hk' : k' = 0 := by
            rcases Nat.eq_zero_or_pos k' with h | h
            · exact h
            · have hq : 0 < (actsOf l).length := by have := J'.kle; omega
              have := (J'.act 0 hq).2 h
              rw [ha0, hi0'] at this; cases this
          subst hk'
          refine ih _ μ' a' w' (by simp [hsz]) ?_ ?_ (hset ▸ J')
          · have := congrFun hset i0; rw [this]; exact hi0'
          · rw [hset]
            have := cnt_add (S := fun j => listed.getD j false) hS l.length hil
            omega
      · have this : listed.getD i0 false = true := hext _ J.cl i o hil ho hb
        rw [hi0] at this; cases this


theorem findIdx_first {ds : List DOp} {i0 : Nat} (h : ds.findIdx? (fun d => d.cls == 2) = some i0) : i0 < ds.length ∧ (ds.getD i0 default).cls = 2 ∧ ∀ j, j < i0 → (ds.getD j default).cls ≠ 2 := by
  obtain ⟨h1, h2, h3⟩ := List.findIdx?_eq_some_iff_getElem.1 h
  refine ⟨h1, ?_, fun j hj => ?_⟩
  · rw [getD_of (List.getElem?_eq_getElem h1)]; simpa using h2
  · rw [getD_of (List.getElem?_eq_getElem (by omega))]
    have := h3 j hj
    simpa using this

theorem acts_first {i0 : Nat} (hi : i0 < l.length) (hc : clOf l i0 = 2) (hf : ∀ j, j < i0 → clOf l j ≠ 2) : (actsOf l).getD 0 0 = i0 := by
  obtain ⟨h1, h2⟩ := acts_idx hi hc
  have : ((List.range i0).filter fun i => (l.getD i default).cls == 2) = [] := by
    rw [List.filter_eq_nil_iff]
    intro j hj
    have := hf j (by simpa using hj)
    simpa [clOf] using this
  rw [this] at h2
  exact h2

theorem noCal_ok : CalOK P noCal := fun t H v H' h => by cases h

theorem drawP_sound {pc : PCal} (hpc : PCalOK P pc) (hmix : P.follows .mixedOrders = true) {fence : Fence} {rd : Bool} (hF : FenceOK fence rd) {n id : Nat} {mid : List Nat} {Q : Exit → Act → World → Prop} {v : AV} {T T' : Tm} {H H' : Heap} {μ : Mu} {a : Act} {w : World}
    (G : DrawOK P ops l ds) (hext : ∀ (S : Nat → Bool) (i0 : Nat), i0 < l.length → i0 ∉ mid → (∀ j, j < l.length → S j = true → ∀ p ∈ prOf l j, S p = true) → ∀ i o, l.length ≤ i → ops[i]? = some o → (∀ j ∈ bindsOf o, S j = true) → S i0 = true)
    (hrun : drawP pc ds mid T H = some (v, T', H')) (hT : LR μ F w T a.tmps.toList) (hH : HR P μ F H w)
    (hQ : ∀ a' w' μ' u, a'.defers = a.defers → VR μ' F w' v u → LR μ' F w' T' a'.tmps.toList → HR P μ' F H' w' → Stp NoI P μ F H w μ' F H' w' → Q (.panic [{ v := u, recovered := false }]) a' w') :
    (Code.region id ops true).wpIn fence n P Q a w := by
  unfold drawP at hrun
  split at hrun
  · cases hrun
  rename_i i0 hf
  split at hrun
  · cases hrun
  rename_i sk s hs
  split at hrun
  rotate_left
  · cases hrun
  rename_i hchk
  simp only [Bool.and_eq_true, Bool.not_eq_true'] at hchk
  obtain ⟨hsame, hmid⟩ := hchk
  have hmid : i0 ∉ mid := by simpa using hmid
  split at hrun
  rotate_left
  · cases hrun
  rename_i adds hw hlk
  split at hrun
  rotate_left
  · cases hrun
  rename_i v1 H1 hopP
  cases hrun
  obtain ⟨hi0, hc0, hff⟩ := findIdx_first hf
  have hi0 : i0 < l.length := by rw [← G.dlen]; exact hi0
  have hcl : ∀ i, i < l.length → (ds.getD i default).cls = clOf l i := fun i hi => (G.dso i hi).2.2.2
  have hc0' : clOf l i0 = 2 := (hcl i0 hi0) ▸ hc0
  have hff' : ∀ j, j < i0 → clOf l j ≠ 2 := fun j hj => (hcl j (by omega)) ▸ hff j hj
  have hcls : ∀ d ∈ ds, d.cls = 0 ∨ d.cls = 1 ∨ d.cls = 2 := by
    intro d hd
    obtain ⟨i, hi, rfl⟩ := List.getElem_of_mem hd
    have hi' : i < l.length := by rw [← G.dlen]; exact hi
    have h1 := G.cl i hi'
    rw [← (G.dso i hi').2.2.2, getD_of (List.getElem?_eq_getElem hi)] at h1
    exact h1
  obtain ⟨k1, k2, k3, k4, k5, k6⟩ := drawGoP_at ds 0 [] _ sk s hcls (fun j hj => by cases hj) rfl rfl hs
  have hdi : ∀ i, i < l.length → ds[i]? = some (ds.getD i default) := by
    intro i hi
    have : i < ds.length := by rw [G.dlen]; exact hi
    rw [List.getElem?_eq_getElem this]
    simp [List.getD_eq_getElem?_getD, List.getElem?_eq_getElem this]
  have hC0 : s.Cs.getD 0 default = { H with next := H.next + (ds.length + 1) } := by rw [k2]; rfl
  have hsk : ∀ i, i < l.length → i ∈ sk → ∃ sk1, (∀ j ∈ sk1, j ∈ sk ∧ j < i) ∧ skipP sk1 (ds.getD i default) = true := by
    intro i hi hm
    rcases k6 i _ (hdi i hi) with ⟨-, h⟩ | ⟨h, -⟩
    · rw [Nat.zero_add] at h; exact h
    · rw [Nat.zero_add] at h; exact absurd hm h
  have hop : ∀ i, i < l.length → i ∉ sk → OpS noCal H.next T s i (ds.getD i default) := by
    intro i hi hns
    rcases k6 i _ (hdi i hi) with ⟨h, -⟩ | ⟨-, h2, s1, s2, e1, e2, e3, e4⟩
    · rw [Nat.zero_add] at h; exact absurd h hns
    · rw [Nat.zero_add] at e1 e3 e4
      refine opS_of e1 e2 (hcls _ (List.mem_of_getElem? (hdi i hi))) e3 e4 (fun u hu j hj => ?_) (fun h => absurd h h2)
      obtain ⟨t, u⟩ := u
      have hj : u = some j := hj
      subst hj
      exact (G.useS i hi t j hu).2.2.1
  have hi0sk : i0 ∈ sk := by
    rcases k6 i0 _ (hdi i0 hi0) with ⟨h, -⟩ | ⟨-, h2, -⟩
    · rw [Nat.zero_add] at h; exact h
    · exact absurd hc0 h2
  have hsame0 : ∀ i, i < l.length → i ∉ sk → sameAt H.next T s i 0 (ds.getD i default) := by
    intro i hi hns h0 hw hp adds hm
    have key : ∀ (ds : List DOp) (k : Nat), sameLooks0 H.next T s sk k ds = true → ∀ (q : Nat) (d : DOp), ds[q]? = some d → sk.contains (k + q) = true ∨ sameLook0 H.next T s (k + q) d = true := by
      intro ds
      induction ds with
      | nil => intro k _ q d h; simp at h
      | cons d ds ih =>
        intro k h q d' hq
        simp only [sameLooks0, Bool.and_eq_true, Bool.or_eq_true] at h
        cases q with
        | zero => simp at hq; subst hq; exact h.1
        | succ q => rw [show k + (q + 1) = k + 1 + q by omega]; exact ih (k + 1) h.2 q d' (by simpa using hq)
    rcases key ds 0 hsame i _ (hdi i hi) with h | h
    · rw [Nat.zero_add] at h
      exact absurd (by simpa using h) hns
    · rw [Nat.zero_add] at h
      unfold sameLook0 at h
      rw [h0, hw, hp] at h
      simp only [List.all_eq_true, Bool.or_eq_true, Bool.not_eq_true', beq_eq_false_iff_ne, ne_eq] at h
      rcases h _ hm with h | h
      · exact absurd rfl h
      · split at h
        · rename_i v D' hv; exact ⟨v, D', hv, h⟩
        · cases h
  obtain ⟨w1, hw1⟩ : ∃ w1, w1 = { w with drawn := w.drawn + 1 } := ⟨_, rfl⟩
  have J0 := inv_start (ops := ops) (l := l) (s := s) hw1 hT hH hC0 (by rw [G.dlen]; omega)
  refine wpIn_region_any hmix ?_
  rw [← hw1]
  have hrep : ∀ j, (Array.replicate ops.size false).getD j false = false := by
    intro j
    rcases Nat.lt_or_ge j ops.size with h | h
    · simp [h]
    · simp [Array.getElem?_eq_none (show (Array.replicate ops.size false).size ≤ j by simpa using h)]
  refine draw_anyP noCal_ok hF G hi0 hc0' (acts_first hi0 hc0' hff') hi0sk hop hsame0 (fun S hS i hi hm hne hp => skip_behind G hi0 hc0' hff' hsk hS i hi hm hne hp) (fun S hS i o hi ho hb => hext S i0 hi0 hmid hS i o hi ho hb) (fun S μ' a' w' K J hS0 hp => ?_) ops.size _ μ a w1 (by simp) (hrep _)
    (by rw [cnt_all _ (fun j _ => hrep j)]; exact G.len) J0
  -- the act that panics
  obtain ⟨o, hoi, hod, hog, hoo⟩ := G.op i0 hi0
  obtain ⟨gd1, gd2, gd3, gd4⟩ := G.dso i0 hi0
  have hTu := useT_lr J G hi0 hS0 hp
  have hCn : ∀ S k, (Hh l s H.next S k).next = (s.Cs.getD k default).next := fun S k => addE_next _ _ _ _
  have hsub : ∀ b e, (addE H.next s.Es (s.Cs.getD 0 default) adds).get b = some e → (Hh l s H.next S 0).get b = some e := by
    intro b e hb
    have ha := G.look i0 hi0 0 adds (by rw [hlk]; exact List.mem_cons_self ..)
    rw [addE_get] at hb
    rw [Hh_get]
    by_cases hc : H.next ≤ b ∧ (b - H.next) ∈ adds
    · rw [if_pos hc] at hb
      obtain ⟨q1, q2, q3, q4⟩ := ha _ hc.2
      rw [if_pos ⟨hc.1, mem_lst.2 ⟨by omega, hp _ q1, q2, q3⟩⟩]; exact hb
    · rw [if_neg hc] at hb
      simp only at hb
      by_cases hc' : H.next ≤ b ∧ b - H.next ∈ lst l S 0
      · have hm' := mem_lst.1 hc'.2
        have := J.noC (b - H.next) hm'.1 hm'.2.2.1 hm'.2.2.2
        rw [show H.next + (b - H.next) = b by omega, hb] at this
        cases this
      · rw [if_neg hc']; exact hb
  have hnx : (addE H.next s.Es (s.Cs.getD 0 default) adds).next = (Hh l s H.next S 0).next := by rw [addE_next, hCn]
  have hw' := wanted_ok (o := o) hTu (gd3 ▸ hog) hw
  unfold Go.wpOpIn
  simp only [hoi]
  rw [if_pos hw']
  have hcop : cOp P o = some (ds.getD i0 default).op := by
    rw [gd2, hoo] at hopP ⊢
    cases hco : cOp P o with
    | some x => rfl
    | none => rw [hco] at hopP; simp [opP] at hopP
  refine opP_sound hpc hcop hopP hTu (J.hr.sub hsub hnx) hF fun u w2 μ2 hd => ?_
  have hTw : LR μ' F w' (weakT (dstsD ds) T) a'.tmps.toList := by
    have hl := J.tm
    refine ⟨by rw [weakT_length, ← hl.1, TS_length], fun t c u hc hu => ?_⟩
    unfold weakT at hc
    rw [List.getElem?_map, Option.map_eq_some_iff] at hc
    obtain ⟨p, hpp, rfl⟩ := hc
    rw [List.getElem?_zipIdx, Option.map_eq_some_iff] at hpp
    obtain ⟨y, hy, rfl⟩ := hpp
    split
    · exact .undef u
    · rename_i hnd
      have ht : t < T.length := (List.getElem?_eq_some_iff.1 hy).1
      have hTS : (TS l T s S)[t]? = some (tv l T s S l.length t) := by
        unfold TS; rw [List.getElem?_map, List.getElem?_range ht]; rfl
      have hv : tv l T s S l.length t = y := by
        rw [tv_none _ fun j' hj' hd' => ?_, getT, getD_of hy]
        exfalso
        refine hnd ?_
        simp only [Nat.zero_add, List.contains_iff_mem]
        unfold dstsD
        rw [List.mem_filterMap]
        exact ⟨ds.getD j' default, List.mem_of_getElem? (hdi j' hj'), by rw [(G.dso j' hj').1]; exact hd'⟩
      have := hl.2 t _ u hTS hu
      rwa [hv] at this
  have hst := Stp.subH hsub hnx (hd.stp.mono (I' := fun b => H.next ≤ b) fun b hb => hb.elim)
  have hall := J.st.trans hst
  rw [hC0] at hall
  exact hQ a' w2 μ2 u J.df hd.val (hd.stp.lr (J.hr.sub hsub hnx) hTw) hd.heap (base_stp (drawn_stp hw1) hall)


theorem opsX_none {cal : Cal} {pc : PCal} : ∀ (os : List ROp) (id : Nat) (T : Tm) (H : Heap) (T' : Tm) (H' : Heap), opsX cal pc id os T H = some (none, T', H') → opsA cal id os T H = some (T', H')
  | [], id, T, H, T', H', h => by cases h; rfl
  | o :: os, id, T, H, T', H', h => by
    simp only [opsX] at h
    simp only [opsA]
    cases hw : wantedA T o.guard with
    | none => rw [hw] at h; cases h
    | some wt =>
      rw [hw] at h
      cases wt with
      | false => exact opsX_none os _ _ _ _ _ h
      | true =>
        simp only at h ⊢
        cases hp : opP pc (Src.ev T) H o.op with
        | some r => rw [hp] at h; cases h
        | none =>
          rw [hp] at h
          simp only at h
          cases ho : opA cal (Src.ev T) H id o.op with
          | none => rw [ho] at h; cases h
          | some r => rw [ho] at h; exact opsX_none os _ _ _ _ _ h

theorem opsX_some {cal : Cal} {pc : PCal} : ∀ (os : List ROp) (id : Nat) (T : Tm) (H : Heap) (v : AV) (T' : Tm) (H' : Heap), opsX cal pc id os T H = some (some v, T', H') → opsP cal pc id os T H = some (v, T', H')
  | [], id, T, H, v, T', H', h => by cases h
  | o :: os, id, T, H, v, T', H', h => by
    simp only [opsX] at h
    simp only [opsP]
    cases hw : wantedA T o.guard with
    | none => rw [hw] at h; cases h
    | some wt =>
      rw [hw] at h
      cases wt with
      | false => exact opsX_some os _ _ _ _ _ _ h
      | true =>
        simp only at h ⊢
        cases hp : opP pc (Src.ev T) H o.op with
        | some r => rw [hp] at h; cases h; rfl
        | none =>
          rw [hp] at h
          simp only at h ⊢
          cases ho : opA cal (Src.ev T) H id o.op with
          | none => rw [ho] at h; cases h
          | some r => rw [ho] at h; exact opsX_some os _ _ _ _ _ _ h

theorem iterX_ex {f : Tm → Heap → Option (Xx × Tm × Heap)} {g : Tm → Heap → Option (Ex × Tm × Heap)} (hf : ∀ T H e T' H', f T H = some (.ex e, T', H') → g T H = some (e, T', H')) :
    ∀ (k : Nat) (T : Tm) (H : Heap) (e : Ex) (T' : Tm) (H' : Heap), iterX f k T H = some (.ex e, T', H') → iter g k T H = some (e, T', H')
  | 0, T, H, e, T', H', h => by cases h
  | k + 1, T, H, e, T', H', h => by
    simp only [iterX] at h
    simp only [iter]
    split at h
    · rename_i T1 H1 h1
      rw [hf _ _ _ _ _ h1]
      exact iterX_ex hf k _ _ _ _ _ h
    · rename_i hne
      rw [hf _ _ _ _ _ h]
      cases e <;> first | rfl | exact absurd h (hne _ _)

theorem codeX_ex {cal : Cal} {pc : PCal} {m : Nat} {rd : Bool} : ∀ (ac : ACode) (T : Tm) (H : Heap) (e : Ex) (T' : Tm) (H' : Heap), codeX cal pc m rd ac T H = some (.ex e, T', H') → codeA cal m rd ac T H = some (e, T', H') := by
  intro ac
  have other : ∀ (ac : ACode) (T : Tm) (H : Heap) (e : Ex) (T' : Tm) (H' : Heap), (match codeA cal m rd ac T H with | some (x, T', H') => some (Xx.ex x, T', H') | none => none) = some (.ex e, T', H') → codeA cal m rd ac T H = some (e, T', H') := by
    intro ac T H e T' H' h
    split at h
    · rename_i x T1 H1 h1; cases h; exact h1
    · cases h
  induction ac with
  | skip => intro T H e T' H' h; exact other _ _ _ _ _ _ h
  | exit i => intro T H e T' H' h; exact other _ _ _ _ _ _ h
  | goto l => intro T H e T' H' h; exact other _ _ _ _ _ _ h
  | ret => intro T H e T' H' h; exact other _ _ _ _ _ _ h
  | rangeFunc f ps a b _ _ => intro T H e T' H' h; exact other _ _ _ _ _ _ h
  | rangeM pre x it nx ex b1 b2 en os rest W _ => intro T H e T' H' h; exact other _ _ _ _ _ _ h
  | region ops =>
    intro T H e T' H' h
    simp only [codeX] at h
    split at h
    · rename_i T1 H1 h1
      cases h
      simp only [codeA, opsX_none _ _ _ _ _ _ h1]
    · cases h
    · cases h
  | draw ds late =>
    intro T H e T' H' h
    simp only [codeX] at h
    split at h
    · cases h
    · split at h
      · rename_i T1 H1 h1
        cases h
        simp only [codeA, h1]
      · cases h
  | drawF ds late last mid =>
    intro T H e T' H' h
    simp only [codeX] at h
    split at h
    · cases h
    · split at h
      · rename_i T1 H1 h1
        cases h
        simp only [codeA, h1]
      · cases h
  | seq a b iha ihb =>
    intro T H e T' H' h
    simp only [codeX] at h
    simp only [codeA]
    split at h
    · rename_i T1 H1 h1
      rw [iha _ _ _ _ _ h1]
      exact ihb _ _ _ _ _ h
    · rename_i hne
      rw [iha _ _ _ _ _ h]
      cases e <;> first | rfl | exact absurd h (hne _ _)
  | cond c a b iha ihb =>
    intro T H e T' H' h
    simp only [codeX] at h
    simp only [codeA]
    split at h
    · exact iha _ _ _ _ _ h
    · exact ihb _ _ _ _ _ h
    · cases h
  | block id a iha =>
    intro T H e T' H' h
    simp only [codeX] at h
    simp only [codeA]
    split at h
    · rename_i id' T1 H1 h1
      rw [iha _ _ _ _ _ h1]
      split at h
      · rename_i hid
        cases h
        simp only [hid, if_true]
      · rename_i hid
        cases h
        simp only [hid, if_false]
    · rename_i hne
      rw [iha _ _ _ _ _ h]
      cases e <;> first | rfl | exact absurd h (hne _ _ _)
  | loop a iha =>
    intro T H e T' H' h
    simp only [codeX] at h
    simp only [codeA]
    exact iterX_ex iha _ _ _ _ _ _ h
  | scope a iha =>
    intro T H e T' H' h
    simp only [codeX] at h
    simp only [codeA]
    split at h
    · cases h
    · rename_i hne
      rw [iha _ _ _ _ _ h]
      cases e <;> first | rfl | exact absurd h (hne _ _ _)

theorem iterP_sound {cal : Cal} {pc : PCal} {m : Nat} {rd : Bool} {c : Code} {ac : ACode} (hc : ∀ T H x T' H', codeA cal m rd ac T H = some (x, T', H') → CodeOK P rd c T H x T' H')
    (hp : ∀ T H v T' H', codeX cal pc m rd ac T H = some (.pan v, T', H') → CodePOK P rd c T H v T' H') :
    ∀ (k : Nat) (T : Tm) (H : Heap) (v : AV) (T' : Tm) (H' : Heap), iterX (codeX cal pc m rd ac) k T H = some (.pan v, T', H') →
    ∀ (fence : Fence) (n : Nat) (B : Nat × List Deferred) (μ : Mu) (F : Nat → Prop) (w : World) (a : Act) (Q : Exit → Act → World → Prop), FenceOK fence rd → B.1 ≤ w.heap.size → StR P B μ F H w T a →
    (∀ a' w' μ' u, VR μ' F w' v u → StR P B μ' F H' w' T' a' → Stp NoI P μ F H w μ' F H' w' → Q (.panic [{ v := u, recovered := false }]) a' w') → Code.roundsIn fence n P c Q k a w
  | 0, T, H, v, T', H', h => by cases h
  | k + 1, T, H, v, T', H', h => by
    intro fence n B μ F w a Q hF hB hS hQ
    simp only [iterX] at h
    rw [roundsIn_succ]
    split at h
    · rename_i T1 H1 h1
      refine hc T H _ _ _ (codeX_ex _ _ _ _ _ _ h1) fence n B μ F w a _ hF hB hS fun a' w' μ' hS' hst => ?_
      exact iterP_sound hc hp k T1 H1 v T' H' h fence n B μ' F w' a' Q hF (Nat.le_trans hB hst.size) hS' fun a2 w2 μ2 u hu hS2 hst2 => hQ a2 w2 μ2 u hu hS2 (hst.trans hst2)
    · exact hp T H _ _ _ h fence n B μ F w a _ hF hB hS fun a' w' μ' u hu hS' hst => hQ a' w' μ' u hu hS' hst

theorem codeP_sound {cal : Cal} {pc : PCal} (hcal : CalOK P cal) (hpc : PCalOK P pc) (hmix : P.follows .mixedOrders = true) {m : Nat} {rd : Bool} : ∀ (c : Code) (ac : ACode), cCode P c = some ac → ∀ (T : Tm) (H : Heap) (v : AV) (T' : Tm) (H' : Heap), codeX cal pc m rd ac T H = some (.pan v, T', H') → CodePOK P rd c T H v T' H' := by
  intro c
  have other : ∀ (ac : ACode) (T : Tm) (H : Heap) (v : AV) (T' : Tm) (H' : Heap), (match codeA cal m rd ac T H with | some (x, T', H') => some (Xx.ex x, T', H') | none => none) = some (.pan v, T', H') → False := by
    intro ac T H v T' H' h
    split at h <;> cases h
  induction c with
  | skip => intro ac hc T H v T' H' h; cases hc; exact (other .skip _ _ _ _ _ h).elim
  | label l => intro ac hc T H v T' H' h; cases hc; exact (other .skip _ _ _ _ _ h).elim
  | exit id => intro ac hc T H v T' H' h; cases hc; exact (other (.exit id) _ _ _ _ _ h).elim
  | goto l => intro ac hc T H v T' H' h; cases hc; exact (other (.goto l) _ _ _ _ _ h).elim
  | ret => intro ac hc T H v T' H' h; cases hc; exact (other .ret _ _ _ _ _ h).elim
  | refuse why => intro ac hc T H v T' H' h; cases hc; exact (other stopA _ _ _ _ _ h).elim
  | rangeFunc g ps asg body _ _ =>
    intro ac hc T H v T' H' h
    simp only [cCode, Option.bind_eq_bind, Option.bind_eq_some_iff] at hc
    obtain ⟨_, _, _, _, _, _, hc⟩ := hc
    cases hc; exact (other (.rangeFunc _ _ _ _) _ _ _ _ _ h).elim
  | scope b ih =>
    intro ac hc T H v T' H' h fence n B μ F w a Q hF hB hS hQ
    simp only [cCode, Option.bind_eq_bind, Option.bind_eq_some_iff] at hc
    obtain ⟨ab, hb, hc⟩ := hc
    cases hc
    simp only [codeX] at h
    split at h
    · cases h
    refine wpIn_scope ?_
    exact ih ab hb T H _ _ _ h fence n B μ F w a _ hF hB hS fun a' w' μ' u hu hS' hst => hQ a' w' μ' u hu hS' hst
  | region id ops draw =>
    intro ac hc T H v T' H' h fence n B μ F w a Q hF hB hS hQ
    simp only [cCode] at hc
    cases draw with
    | true =>
      simp only [if_true] at hc
      split at hc
      · rename_i p hrs
        obtain ⟨ds, late⟩ := p
        cases hc
        simp only [codeX] at h
        split at h
        rotate_left
        · split at h <;> cases h
        rename_i v1 T1 H1 hdp
        cases h
        obtain ⟨l, G, hlen, -⟩ := drawOK_spec hrs
        refine drawP_sound hpc hmix hF G (fun S i0 _ _ _ i o hi ho _ => ?_) hdp hS.hT hS.hH fun a' w' μ' u hd hv hT' hH' hst => hQ a' w' μ' u hv ⟨hT', hH', hd ▸ hS.hD.stp hst⟩ hst
        have := (Array.getElem?_eq_some_iff.1 ho).1
        omega
      · split at hc
        · rename_i p hrs
          obtain ⟨ds, late, last, mid⟩ := p
          cases hc
          simp only [codeX] at h
          split at h
          rotate_left
          · split at h <;> cases h
          rename_i v1 T1 H1 hdp
          cases h
          obtain ⟨l, o, pl, D⟩ := drawF_spec hrs
          refine drawP_sound hpc hmix hF D.hG (fun S i0 hi0 hm hS i o' hi ho hb => ?_) hdp hS.hT hS.hH fun a' w' μ' u hd hv hT' hH' hst => hQ a' w' μ' u hv ⟨hT', hH', hd ▸ hS.hD.stp hst⟩ hst
          have hlt := (Array.getElem?_eq_some_iff.1 ho).1
          have hl := D.hlen
          have hil : i = l.length := by omega
          subst hil
          rw [D.hoi] at ho; cases ho
          obtain ⟨j, hj, hh⟩ := D.hpl i0 (D.hact0 i0 hi0 hm)
          rcases hh with rfl | hh
          · exact hb _ hj
          · exact hS j (D.hbl j hj) (hb j hj) i0 hh
        · cases hc; exact (other stopA _ _ _ _ _ h).elim
    | false =>
      simp only [Bool.false_eq_true, if_false, Option.map_eq_some_iff] at hc
      obtain ⟨rs, hrs, rfl⟩ := hc
      simp only [codeX] at h
      split at h
      · cases h
      · rename_i v1 T1 H1 hx
        cases h
        exact regionP_sound hcal hpc hF hrs (opsX_some _ _ _ _ _ _ _ hx) hS.hT hS.hH fun a' w' μ' u hd hv hT' hH' hst => hQ a' w' μ' u hv ⟨hT', hH', hd ▸ hS.hD.stp hst⟩ hst
      · cases h
  | seq c1 c2 ih1 ih2 =>
    intro ac hc T H v T' H' h
    have plain : ∀ a1 a2, cCode P c1 = some a1 → cCode P c2 = some a2 → codeX cal pc m rd (.seq a1 a2) T H = some (.pan v, T', H') → CodePOK P rd (.seq c1 c2) T H v T' H' := by
      intro a1 a2 h1 h2 h fence n B μ F w a Q hF hB hS hQ
      simp only [codeX] at h
      refine wpIn_seq ?_
      split at h
      · rename_i T1 H1 hrun
        refine codeA_sound hcal hmix c1 a1 h1 T H _ _ _ (codeX_ex _ _ _ _ _ _ hrun) fence n B μ F w a _ hF hB hS fun a' w' μ' hS' hst => ?_
        exact ih2 a2 h2 T1 H1 _ _ _ h fence n B μ' F w' a' Q hF (Nat.le_trans hB hst.size) hS' fun a2 w2 μ2 u hu hS2 hst2 => hQ a2 w2 μ2 u hu hS2 (hst.trans hst2)
      · exact ih1 a1 h1 T H _ _ _ h fence n B μ F w a _ hF hB hS fun a' w' μ' u hu hS' hst => hQ a' w' μ' u hu hS' hst
    rcases cCode_seq (P := P) c1 c2 with ⟨i0, ops0, bid, i1, ops1, ex, bid', bid2, i2, ops2, rest, rfl, rfl⟩ | he
    · simp only [cCode] at hc
      split at hc
      · split at hc
        · simp only [Option.bind_eq_bind, Option.bind_eq_some_iff] at hc
          obtain ⟨_, _, _, _, _, _, _, _, hc⟩ := hc
          cases hc; exact (other (.rangeM _ _ _ _ _ _ _ _ _ _ _) _ _ _ _ _ h).elim
        · cases hc; exact (other stopA _ _ _ _ _ h).elim
      · simp only [Option.bind_eq_bind, Option.bind_eq_some_iff] at hc
        obtain ⟨a1, h1, a2, h2, hc⟩ := hc
        cases hc
        exact plain a1 a2 (by simp only [cCode]; exact h1) (by simp only [cCode, Option.bind_eq_bind, Option.bind_eq_some_iff]; exact h2) h
    · rw [he] at hc
      simp only [Option.bind_eq_bind, Option.bind_eq_some_iff] at hc
      obtain ⟨a1, h1, a2, h2, hc⟩ := hc
      cases hc
      exact plain a1 a2 h1 h2 h
  | cond c c1 c2 ih1 ih2 =>
    intro ac hc T H v T' H' h fence n B μ F w a Q hF hB hS hQ
    simp only [cCode, Option.bind_eq_bind, Option.bind_eq_some_iff] at hc
    obtain ⟨s, hs, a1, h1, a2, h2, hc⟩ := hc
    cases hc
    simp only [codeX] at h
    have hv := src_vr hS.hT hs
    split at h
    · rename_i e
      rw [e] at hv
      generalize hcv : a.eval c = cv at hv
      cases hv
      exact wpIn_cond_true hcv (ih1 a1 h1 T H _ _ _ h fence n B μ F w a Q hF hB hS hQ)
    · rename_i e
      rw [e] at hv
      generalize hcv : a.eval c = cv at hv
      cases hv
      exact wpIn_cond_false hcv (ih2 a2 h2 T H _ _ _ h fence n B μ F w a Q hF hB hS hQ)
    · cases h
  | block id b ih =>
    intro ac hc T H v T' H' h fence n B μ F w a Q hF hB hS hQ
    simp only [cCode, Option.bind_eq_bind, Option.bind_eq_some_iff] at hc
    obtain ⟨ab, hb, hc⟩ := hc
    cases hc
    simp only [codeX] at h
    refine wpIn_block ?_
    split at h
    · split at h <;> cases h
    exact ih ab hb T H _ _ _ h fence n B μ F w a _ hF hB hS fun a' w' μ' u hu hS' hst => hQ a' w' μ' u hu hS' hst
  | loop b ih =>
    intro ac hc T H v T' H' h fence n B μ F w a Q hF hB hS hQ
    simp only [cCode, Option.bind_eq_bind, Option.bind_eq_some_iff] at hc
    obtain ⟨ab, hb, hc⟩ := hc
    cases hc
    simp only [codeX] at h
    exact wpIn_loop_rounds m (iterP_sound (fun T H x T' H' hr => codeA_sound hcal hmix b ab hb T H x T' H' hr) (fun T H v T' H' hr => ih ab hb T H v T' H' hr) m T H v T' H' h fence n B μ F w a Q hF hB hS hQ)

end
end Go.Proofs.YtedembbgeljdkaaGreatDoor.Ev
