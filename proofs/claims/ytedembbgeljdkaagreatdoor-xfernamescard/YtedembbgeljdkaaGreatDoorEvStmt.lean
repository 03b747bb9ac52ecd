/-
  THE EVALUATOR's STATEMENTS are the model's.
-/
import Derived.Test.YtedembbgeljdkaaGreatDoorEvRangeM
namespace Go.Proofs.YtedembbgeljdkaaGreatDoor.Ev
open Go
set_option linter.all false

section
variable {P : Program} {μ : Mu} {F : Nat → Prop} {H : Heap} {w : World} {T : Tm} {a : Act} {B : Nat × List Deferred}

theorem iter_sound {cal : Cal} {m : Nat} {rd : Bool} {c : Code} {ac : ACode} (hc : ∀ T H x T' H', codeA cal m rd ac T H = some (x, T', H') → CodeOK P rd c T H x T' H') :
    ∀ (k : Nat) (T : Tm) (H : Heap) (x : Ex) (T' : Tm) (H' : Heap), iter (codeA cal m rd ac) k T H = some (x, T', H') →
    ∀ (fence : Fence) (n : Nat) (B : Nat × List Deferred) (μ : Mu) (F : Nat → Prop) (w : World) (a : Act) (Q : Exit → Act → World → Prop), FenceOK fence rd → B.1 ≤ w.heap.size → StR P B μ F H w T a →
    (∀ a' w' μ', StR P B μ' F H' w' T' a' → Stp NoI P μ F H w μ' F H' w' → Q (exOf x) a' w') → x ≠ .nrm ∧ Code.roundsIn fence n P c Q k a w
  | 0, T, H, x, T', H', h => by cases h
  | k + 1, T, H, x, T', H', h => by
    intro fence n B μ F w a Q hF hB hS hQ
    simp only [iter] at h
    split at h
    · rename_i T1 H1 h1
      refine ⟨?_, ?_⟩
      · -- the last round's way out is not normal
        have key : ∀ (k : Nat) (T : Tm) (H : Heap) (x : Ex) (T' : Tm) (H' : Heap), iter (codeA cal m rd ac) k T H = some (x, T', H') → x ≠ .nrm := by
          intro k
          induction k with
          | zero => intro T H x T' H' h; cases h
          | succ k ih =>
            intro T H x T' H' h
            simp only [iter] at h
            split at h
            · exact ih _ _ _ _ _ h
            · rename_i hne
              intro e
              subst e
              exact hne _ _ h
        exact key _ _ _ _ _ _ h
      · rw [roundsIn_succ]
        refine hc T H _ _ _ h1 fence n B μ F w a _ hF hB hS fun a' w' μ' hS' hst => ?_
        exact (iter_sound hc k T1 H1 x T' H' h fence n B μ' F w' a' Q hF (Nat.le_trans hB hst.size) hS' fun a2 w2 μ2 hS2 hst2 => hQ a2 w2 μ2 hS2 (hst.trans hst2)).2
    · rename_i hne
      have hx : x ≠ .nrm := fun e => by subst e; exact hne _ _ h
      refine ⟨hx, ?_⟩
      rw [roundsIn_succ]
      refine hc T H _ _ _ h fence n B μ F w a _ hF hB hS fun a' w' μ' hS' hst => ?_
      have := hQ a' w' μ' hS' hst
      cases x <;> first | exact this | exact absurd rfl hx

theorem other_block (hH : HR P μ F H w) (o : Obj) : HR P μ F H (w.alloc o) ∧ Stp NoI P μ F H w μ F H (w.alloc o) := by
  have hw : ∀ c, c < w.heap.size → (w.alloc o).heap[c]? = w.heap[c]? := fun c hc => heap_push_lt _ _ hc
  have hsz : (w.alloc o).heap.size = w.heap.size + 1 := by simp
  refine ⟨⟨fun b L hb => ?_, fun c hc => ?_, fun b e hb => ?_, hH.inj, fun g cs hg => (hH.gl g cs hg).mono (fun _ _ h => h) (fun _ h => h) fun c hc => hw c (hH.fb c hc)⟩, ⟨fun _ _ h => h, fun _ h => h, by omega, fun c hc _ => hw c hc, fun b L hb hL => .inr ⟨b, L, hb, hL, rfl⟩, Nat.le_refl _, fun _ _ _ h => h, fun b L h => .inl ⟨b, L, h, rfl⟩, fun b e h _ _ => ⟨e, h⟩, fun b e L h hL => .inr ⟨b, e, L, h, hL, rfl⟩, rfl, rfl, rfl⟩⟩
  · have := hH.dom b L hb; exact ⟨this.1, by omega⟩
  · have := hH.fb c hc; omega
  · obtain ⟨L, hL, hE⟩ := hH.ent b e hb
    exact ⟨L, hL, hE.mono (fun _ _ h => h) (fun _ h => h) (fun c hc => hw c (hH.fb c hc)) (hw _ (hH.dom b L hL).2) (fun hr => hE.notF hr)⟩

theorem cCode_seq (c1 c2 : Code) : (∃ i0 ops0 bid i1 ops1 ex bid' bid2 i2 ops2 rest, c1 = .region i0 ops0 false ∧ c2 = .block bid (.loop (.seq (.region i1 ops1 false) (.seq (.cond (.tmp ex) .skip (.exit bid')) (.block bid2 (.seq (.region i2 ops2 false) rest)))))) ∨
    cCode P (.seq c1 c2) = (do some (.seq (← cCode P c1) (← cCode P c2))) := by
  by_cases h : ∃ i0 ops0 bid i1 ops1 ex bid' bid2 i2 ops2 rest, c1 = .region i0 ops0 false ∧ c2 = .block bid (.loop (.seq (.region i1 ops1 false) (.seq (.cond (.tmp ex) .skip (.exit bid')) (.block bid2 (.seq (.region i2 ops2 false) rest)))))
  · exact .inl h
  · refine .inr ?_
    rw [cCode]
    intro i0 ops0 bid i1 ops1 ex bid' bid2 i2 ops2 rest h1 h2
    exact h ⟨i0, ops0, bid, i1, ops1, ex, bid', bid2, i2, ops2, rest, h1, h2⟩

theorem jump_inv {c : Code} {ac : ACode} (h : cCode P c = some ac) : (ac = .ret → c = .ret) ∧ (∀ id, ac = .exit id → c = .exit id) ∧ (∀ l, ac = .goto l → c = .goto l) := by
  have no : ∀ {ac : ACode}, ac ≠ .ret → (∀ id, ac ≠ .exit id) → (∀ l, ac ≠ .goto l) → (ac = .ret → c = .ret) ∧ (∀ id, ac = .exit id → c = .exit id) ∧ (∀ l, ac = .goto l → c = .goto l) :=
    fun h1 h2 h3 => ⟨fun h => absurd h h1, fun id h => absurd h (h2 id), fun l h => absurd h (h3 l)⟩
  cases c with
  | ret => cases h; exact ⟨fun _ => rfl, fun id h => (by cases h), fun l h => (by cases h)⟩
  | exit id => cases h; exact ⟨fun h => (by cases h), fun id h => (by cases h; rfl), fun l h => (by cases h)⟩
  | goto l => cases h; exact ⟨fun h => (by cases h), fun id h => (by cases h), fun l h => (by cases h; rfl)⟩
  | skip => cases h; exact no (fun h => by cases h) (fun id h => by cases h) (fun l h => by cases h)
  | label l => cases h; exact no (fun h => by cases h) (fun id h => by cases h) (fun l h => by cases h)
  | refuse w => cases h; exact no (fun h => by cases h) (fun id h => by cases h) (fun l h => by cases h)
  | region i ops d =>
    simp only [cCode] at h
    split at h
    · split at h
      · cases h; exact no (fun h => by cases h) (fun id h => by cases h) (fun l h => by cases h)
      · split at h <;> (cases h; exact no (fun h => by cases h) (fun id h => by cases h) (fun l h => by cases h))
    · simp only [Option.map_eq_some_iff] at h
      obtain ⟨_, _, h⟩ := h
      subst h; exact no (fun h => by cases h) (fun id h => by cases h) (fun l h => by cases h)
  | seq c1 c2 =>
    rcases cCode_seq (P := P) c1 c2 with ⟨i0, ops0, bid, i1, ops1, ex, bid', bid2, i2, ops2, rest, rfl, rfl⟩ | he
    · simp only [cCode] at h
      split at h
      · split at h
        · simp only [Option.bind_eq_bind, Option.bind_eq_some_iff] at h
          obtain ⟨_, _, _, _, _, _, _, _, h⟩ := h
          cases h; exact no (fun h => by cases h) (fun id h => by cases h) (fun l h => by cases h)
        · cases h; exact no (fun h => by cases h) (fun id h => by cases h) (fun l h => by cases h)
      · simp only [Option.bind_eq_bind, Option.bind_eq_some_iff] at h
        obtain ⟨_, _, _, _, h⟩ := h
        cases h; exact no (fun h => by cases h) (fun id h => by cases h) (fun l h => by cases h)
    · rw [he] at h
      simp only [Option.bind_eq_bind, Option.bind_eq_some_iff] at h
      obtain ⟨_, _, _, _, h⟩ := h
      cases h; exact no (fun h => by cases h) (fun id h => by cases h) (fun l h => by cases h)
  | cond c a b =>
    simp only [cCode, Option.bind_eq_bind, Option.bind_eq_some_iff] at h
    obtain ⟨_, _, _, _, _, _, h⟩ := h
    cases h; exact no (fun h => by cases h) (fun id h => by cases h) (fun l h => by cases h)
  | block i a =>
    simp only [cCode, Option.bind_eq_bind, Option.bind_eq_some_iff] at h
    obtain ⟨_, _, h⟩ := h
    cases h; exact no (fun h => by cases h) (fun id h => by cases h) (fun l h => by cases h)
  | loop a =>
    simp only [cCode, Option.bind_eq_bind, Option.bind_eq_some_iff] at h
    obtain ⟨_, _, h⟩ := h
    cases h; exact no (fun h => by cases h) (fun id h => by cases h) (fun l h => by cases h)
  | scope a =>
    simp only [cCode, Option.bind_eq_bind, Option.bind_eq_some_iff] at h
    obtain ⟨_, _, h⟩ := h
    cases h; exact no (fun h => by cases h) (fun id h => by cases h) (fun l h => by cases h)
  | rangeFunc f ps a b =>
    simp only [cCode, Option.bind_eq_bind, Option.bind_eq_some_iff] at h
    obtain ⟨_, _, _, _, _, _, h⟩ := h
    cases h; exact no (fun h => by cases h) (fun id h => by cases h) (fun l h => by cases h)

theorem ret_inv {c : Code} (h : cCode P c = some .ret) : c = .ret := (jump_inv h).1 rfl
theorem exit_inv {c : Code} {id : Nat} (h : cCode P c = some (.exit id)) : c = .exit id := (jump_inv h).2.1 id rfl
theorem goto_inv {c : Code} {id : Nat} (h : cCode P c = some (.goto id)) : c = .goto id := (jump_inv h).2.2 id rfl

theorem rangeFunc_sound {cal : Cal} (hcal : CalOK P cal) {fence : Fence} (hF : FenceOK fence false) {n : Nat} {g : Operand} {ps : Array Tmp} {asg body : Code} {s : Src} {a1 a2 : ACode} (hs : cSrc g = some s) (h1 : cCode P asg = some a1) (h2 : cCode P body = some a2)
    {fi : Nat} {args : List AV} {v : AV} {H2 : Heap} (ht : taskOf (s.ev T) [.loopv H.next] = some (.fn fi args))
    (hrun : cal (.ent fi args) (({ H with next := H.next + 1 } : Heap).put H.next (.loop T ps.toList a1 a2 .ready none)) = some (v, H2)) (hB : B.1 ≤ w.heap.size) (hS : StR P B μ F H w T a) {Q : Exit → Act → World → Prop}
    (hend : ∀ T' ps' b1 b2 st pe, H2.get H.next = some (.loop T' ps' b1 b2 st pe) → st ≠ .busy ∧ ∀ (r : Option Code), (match pe, r with | none, none => True | some c, some c' => cCode P c' = some c | _, _ => False) →
      ∀ a' w' μ', StR P B μ' F (H2.kill H.next) w' T a' → Stp NoI P μ F H w μ' F (H2.kill H.next) w' → (match r with | none => Q .normal a' w' | some c => c.wpIn fence n P Q a' w'))
    (hex : ∃ T' ps' b1 b2 st pe, H2.get H.next = some (.loop T' ps' b1 b2 st pe)) : (Code.rangeFunc g ps asg body).wpIn fence n P Q a w := by
  refine wpIn_rangeFunc fun fn _ => ?_
  have hro : fence.round = none := by rcases hF with ⟨_, rfl⟩ | ⟨h, _⟩; · rfl
                                      · cases h
  obtain ⟨hA1, hA2⟩ := other_block hS.hH (.deferred (some []))
  obtain ⟨rec, hrec⟩ : ∃ rec : Loop, rec = { state := .ready, pending := none, fn, tmps := a.tmps, params := ps, assign := asg, body, defers := w.heap.size } := ⟨_, rfl⟩
  have hszA : (w.alloc (.deferred (some []))).heap.size = w.heap.size + 1 := by simp
  have hid : μ H.next = none := fresh_next hS.hH (Nat.le_refl _)
  obtain ⟨hN1, hN2⟩ := new_block (I := fun b => b = H.next) (hA1.bump 1) hid (Nat.lt_succ_self _) (.loop rec) (.loop T ps.toList a1 a2 .ready none) 0 0 (fun w' hw hn hnF => by
    refine ⟨hnF, rec, hn, by rw [hrec], ?_, by rw [hrec], by rw [hrec]; exact h1, by rw [hrec]; exact h2, by rw [hrec]; trivial⟩
    rw [hrec]
    exact ((hA2.lr hS.hH hS.hT).mono (upd_ext hid) (fun _ h => h) hw)) rfl (w.alloc (.deferred (some []))) rfl rfl rfl rfl
  rw [hszA] at hN1 hN2
  have hN3 : Stp NoI P μ F H w (μ.upd H.next ⟨w.heap.size + 1, 0, 0⟩) F (({ H with next := H.next + 1 } : Heap).put H.next (.loop T ps.toList a1 a2 .ready none)) ((w.alloc (.deferred (some []))).alloc (.loop rec)) :=
    hA2.trans ⟨hN2.mu, hN2.fr, hN2.size, hN2.keep, hN2.rw, Nat.le_trans (Nat.le_succ _) hN2.next, fun b hb _ hn => hN2.new b (Nat.lt_succ_of_lt hb) (fun e => by have e : b = H.next := e; omega) hn, hN2.rng, fun b e hb hl _ => hN2.old b e hb (Nat.lt_succ_of_lt hl) (fun e => by have e : b = H.next := e; omega), hN2.alv, hN2.tape, hN2.os, hN2.out⟩
  have hDM : DM B (μ.upd H.next ⟨w.heap.size + 1, 0, 0⟩) F ((w.alloc (.deferred (some []))).alloc (.loop rec)) ([{ target := .collected w.heap.size, args := #[] }] ++ a.defers) := by
    obtain ⟨Ds, e1, e2, e3⟩ := hS.hD.stp hN3
    obtain ⟨Ds0, f1, f2, f3⟩ := hS.hD
    have hlt : ∀ D ∈ Ds, D < w.heap.size := by
      intro D hD
      have hm : ({ target := .collected D, args := #[] } : Deferred) ∈ Ds0.map (fun D => ({ target := .collected D, args := #[] } : Deferred)) := by
        rw [← List.append_cancel_right (e1.symm.trans f1)]
        exact List.mem_map.2 ⟨D, hD, rfl⟩
      obtain ⟨D0, hD0, he⟩ := List.mem_map.1 hm
      have : D0 = D := by injection he with he _; injection he
      subst this
      exact (f3 D0 hD0).2.1
    refine ⟨w.heap.size :: Ds, by simp [e1], List.nodup_cons.2 ⟨fun h => Nat.lt_irrefl _ (hlt _ h), e2⟩, fun D hD => ?_⟩
    rcases List.mem_cons.1 hD with rfl | hD
    · refine ⟨hB, by rw [World.size_alloc, World.size_alloc]; omega, ?_, fun h => by have := hS.hH.fb _ h; omega, fun b L hb => ?_⟩
      · rw [heap_push_lt _ _ (by simp)]; exact World.alloc_heap_new w _
      · by_cases e : b = H.next
        · subst e; simp at hb; subst hb; simp
        · rw [upd_other _ e] at hb; have := (hS.hH.dom b L hb).2; omega
    · exact e3 D hD
  -- the call
  have hv := src_vr hS.hT hs
  have hv' := hN3.vr hS.hH hv
  have hloop : LR (μ.upd H.next ⟨w.heap.size + 1, 0, 0⟩) F ((w.alloc (.deferred (some []))).alloc (.loop rec)) [.loopv H.next] [.func (.yield (w.heap.size + 1)) #[] #[]] := LR.cons (.loopv _ _ (upd_same _ _)) LR.nil
  generalize hfv : s.ev T = fv at ht hv'
  cases fv <;> simp only [taskOf] at ht <;> first | (cases ht; done) | skip
  rename_i ff first cap
  cases ff <;> simp only at ht <;> first | (cases ht; done) | skip
  cases ht
  generalize hgv : a.eval g = gv at hv'
  cases hv' with
  | fn _ _ _ us vs' k1 k2 k3 k4 =>
  have hl := ((LR.of_agg k1 k2).append hloop).append (LR.of_agg k3 k4)
  obtain ⟨hent, hruns⟩ := hcal _ _ _ _ hrun _ F _ _ fence false (n - 1) hF hN1 hl (fun b args e => by cases e)
  have hent := hent _ _ rfl
  simp only [taskRun, hent, Runs] at hruns
  refine ⟨w.heap.size + 1, [{ target := .collected w.heap.size, args := #[] }], (w.alloc (.deferred (some []))).alloc (.loop rec), { target := .fn (.func fi) vs', args := us ++ #[.func (.yield (w.heap.size + 1)) #[] #[]] }, (w.alloc (.deferred (some []))).alloc (.loop rec),
    _, _, _, ?_, ?_, fun f' _ => hF.fn f', ?_, hF.depth n, hruns.mono fun e w3 ⟨u, he, μ3, hdone⟩ => ?_⟩
  · rw [hro, hrec]; exact run_enterLoop_outer _ _ _ _ _
  · have e : (#[Operand.const (Value.func (.yield (w.heap.size + 1)) #[] #[])]).map a.eval = #[Value.func (.yield (w.heap.size + 1)) #[] #[]] := by simp only [List.map_toArray, List.map_cons, List.map_nil]; rfl
    simp only [resolve, hgv, Deferred.ofValue, e, Sem.run_pure]
  · have e : (us ++ #[Value.func (.yield (w.heap.size + 1)) #[] #[]] ++ vs') = (us.toList ++ [Value.func (.yield (w.heap.size + 1)) #[] #[]] ++ vs'.toList).toArray := by apply Array.ext'; simp
    simp only [invoke, e]
    exact hent
  · subst he
    obtain ⟨T', ps', b1, b2, st, pe, hget⟩ := hex
    obtain ⟨hbusy, hfin⟩ := hend T' ps' b1 b2 st pe hget
    obtain ⟨L, hL, hE⟩ := hdone.heap.ent _ _ hget
    have hL' := hdone.stp.mu _ _ (upd_same (μ := μ) H.next ⟨w.heap.size + 1, 0, 0⟩)
    rw [hL'] at hL; cases hL
    obtain ⟨hnF, r, g1, g2, g3, g4, g5, g6, g7⟩ := hE
    simp only at g1
    have hlt := (Array.getElem?_eq_some_iff.1 g1).1
    obtain ⟨q1, q2⟩ := put_block (I := NoI) (e := .loop T' ps' b1 b2 .exhausted pe) hdone.heap hget rfl hL' (w3.putObj (w.heap.size + 1) (.loop { r with state := .exhausted })) (fun c hc => World.putObj_heap_other hc) (by simp [World.putObj]) rfl rfl rfl
      (fun hw => ⟨hnF, _, World.putObj_heap_same hlt, rfl, g3.mono (fun _ _ h => h) (fun _ h => h) hw, g4, g5, g6, g7⟩) rfl
    obtain ⟨q3, q4⟩ := kill_block (I := NoI) q1 H.next
    have hgg : ∀ x, ((H2.put H.next (.loop T' ps' b1 b2 .exhausted pe)).kill H.next).get x = (H2.kill H.next).get x := by
      intro x; simp only [Heap.get_kill, Heap.get_put]; split <;> rfl
    have q5 := q3.congr (H2 := H2.kill H.next) rfl hgg
    have q6 : Stp NoI P μ F H w μ3 F (H2.kill H.next) (w3.putObj (w.heap.size + 1) (.loop { r with state := .exhausted })) :=
      (hN3.trans (hdone.stp.trans (q2.trans q4))).congr rfl fun x e he => ⟨e, by rw [hgg]; exact he, rfl⟩
    refine ⟨r.pending, _, run_endLoop g1 (by rw [g2]; exact hbusy), ?_⟩
    have hSt : StR P B μ3 F (H2.kill H.next) (w3.putObj (w.heap.size + 1) (.loop { r with state := .exhausted })) T { a with defers := [{ target := .collected w.heap.size, args := #[] }] ++ a.defers } :=
      ⟨q6.lr hS.hH hS.hT, q5, (hDM.stp hdone.stp).stp (q2.trans q4)⟩
    exact hfin r.pending g7 _ _ μ3 hSt q6

theorem stepR_scope {P : Program} {b : Frame} {a : Act} {k : List Item} {cs : List Frame} {w : World} {c : Code} : step P (lone (b.atR a (.code (.scope c) :: k)) cs w) = .next (lone (b.atR a (.code c :: .inScope c :: k)) cs w) :=
  step_lone_go (by simp [stepG, stepG.exec, Frame.atR])
theorem stepR_inScope {P : Program} {b : Frame} {a : Act} {k : List Item} {cs : List Frame} {w : World} {c : Code} : step P (lone (b.atR a (.inScope c :: k)) cs w) = .next (lone (b.atR a k) cs w) :=
  step_lone_go (by simp [stepG, stepG.exec, Frame.atR])

theorem wpIn_scope {P : Program} {F : Fence} {n : Nat} {a : Act} {w : World} {Q : Exit → Act → World → Prop} {c : Code} (h : c.wpIn F n P (Exit.noGoto Q) a w) : (Code.scope c).wpIn F n P Q a w := by
  intro b k cs hro hb hr
  have h0 : (lone (b.atR a (.code (.scope c) :: k)) cs w).fenced P F := fenced_calm hb hr rfl
  obtain ⟨e, a₁, w₁, hq, harr⟩ := h b (.inScope c :: k) cs hro hb hr
  cases e with
  | normal => exact ⟨.normal, a₁, w₁, hq, .head h0 stepR_scope (StepsIn.trans harr (.one (fenced_calm hb hr rfl) stepR_inScope))⟩
  | exit id' =>
    have hx : exitTo id' (.inScope c :: k) = exitTo id' k := by simp [exitTo]
    exact ⟨.exit id', a₁, w₁, hq, fun k' hk => .head h0 stepR_scope (harr.1 k' (by rw [hx]; exact hk)),
      fun hr' hk => let ⟨k₁, h1, h2⟩ := harr.2 hr' (by rw [hx]; exact hk); ⟨k₁, h1, .head h0 stepR_scope h2⟩⟩
  | goto l => exact hq.elim
  | ret => exact ⟨_, a₁, w₁, hq, .of_steps (.one h0 stepR_scope) harr⟩
  | panic ch => exact ⟨_, a₁, w₁, hq, .of_steps (.one h0 stepR_scope) harr⟩
  | outgrown => exact ⟨_, a₁, w₁, hq, .of_steps (.one h0 stepR_scope) harr⟩

theorem stopA_none {cal : Cal} {m : Nat} {rd : Bool} {T : Tm} {H : Heap} : codeA cal m rd stopA T H = none := by
  unfold stopA
  simp only [codeA]
  split <;> rfl

theorem codeA_sound {cal : Cal} (hcal : CalOK P cal) (hmix : P.follows .mixedOrders = true) {m : Nat} {rd : Bool} : ∀ (c : Code) (ac : ACode), cCode P c = some ac → ∀ (T : Tm) (H : Heap) (x : Ex) (T' : Tm) (H' : Heap), codeA cal m rd ac T H = some (x, T', H') → CodeOK P rd c T H x T' H' := by
  intro c
  induction hk : SizeOf.sizeOf c using Nat.strongRecOn generalizing c with
  | _ k ih =>
  have ih : ∀ c' : Code, SizeOf.sizeOf c' < SizeOf.sizeOf c → ∀ (ac : ACode), cCode P c' = some ac → ∀ (T : Tm) (H : Heap) (x : Ex) (T' : Tm) (H' : Heap), codeA cal m rd ac T H = some (x, T', H') → CodeOK P rd c' T H x T' H' := fun c' h => ih (SizeOf.sizeOf c') (hk ▸ h) c' rfl
  cases c with
  | skip =>
    intro ac hc T H x T' H' h fence n B μ F w a Q hF hB hS hQ
    cases hc; cases h
    exact wpIn_skip (hQ a w μ hS (Stp.refl _ _ _ _ _ _))
  | label l =>
    intro ac hc T H x T' H' h fence n B μ F w a Q hF hB hS hQ
    cases hc; cases h
    exact wpIn_label (hQ a w μ hS (Stp.refl _ _ _ _ _ _))
  | exit id =>
    intro ac hc T H x T' H' h fence n B μ F w a Q hF hB hS hQ
    cases hc; cases h
    exact wpIn_exit (hQ a w μ hS (Stp.refl _ _ _ _ _ _))
  | goto l =>
    intro ac hc T H x T' H' h fence n B μ F w a Q hF hB hS hQ
    cases hc; cases h
    exact wpIn_goto (hQ a w μ hS (Stp.refl _ _ _ _ _ _))
  | ret =>
    intro ac hc T H x T' H' h fence n B μ F w a Q hF hB hS hQ
    cases hc; cases h
    exact wpIn_ret (hQ a w μ hS (Stp.refl _ _ _ _ _ _))
  | refuse why =>
    intro ac hc T H x T' H' h
    cases hc
    rw [stopA_none] at h; cases h
  | scope b =>
    have ih := ih b (by simp)
    intro ac hc T H x T' H' h fence n B μ F w a Q hF hB hS hQ
    simp only [cCode, Option.bind_eq_bind, Option.bind_eq_some_iff] at hc
    obtain ⟨ab, hb, hc⟩ := hc
    cases hc
    simp only [codeA] at h
    refine wpIn_scope ?_
    split at h
    · cases h
    · rename_i hne
      refine ih ab hb T H _ _ _ h fence n B μ F w a _ hF hB hS fun a' w' μ' hS' hst => ?_
      have := hQ a' w' μ' hS' hst
      cases x with
      | goto l => exact absurd h (hne _ _ _)
      | _ => exact this
  | region id ops draw =>
    intro ac hc T H x T' H' h fence n B μ F w a Q hF hB hS hQ
    simp only [cCode] at hc
    cases draw with
    | true =>
      simp only [if_true] at hc
      split at hc
      · rename_i p hrs
        obtain ⟨ds, late⟩ := p
        cases hc
        simp only [codeA] at h
        split at h
        · rename_i T1 H1 hrun
          cases h
          refine draw_sound hcal hmix hF hrs hrun hS.hT hS.hH fun a' w' μ' hd hT' hH' hst => ?_
          exact hQ a' w' μ' ⟨hT', hH', hd ▸ hS.hD.stp hst⟩ hst
        · cases h
      · split at hc
        · rename_i p hrs
          obtain ⟨ds, late, last, mid⟩ := p
          cases hc
          simp only [codeA] at h
          split at h
          · rename_i T1 H1 hrun
            cases h
            refine drawF_sound hcal hmix hF hrs hrun hS.hT hS.hH fun a' w' μ' hd hT' hH' hst => ?_
            exact hQ a' w' μ' ⟨hT', hH', hd ▸ hS.hD.stp hst⟩ hst
          · cases h
        · cases hc
          rw [stopA_none] at h; cases h
    | false =>
      simp only [Bool.false_eq_true, if_false, Option.map_eq_some_iff] at hc
      obtain ⟨rs, hrs, rfl⟩ := hc
      simp only [codeA] at h
      split at h
      · rename_i T1 H1 hrun
        cases h
        refine region_sound hcal hF hrs hrun hS.hT hS.hH fun a' w' μ' hd hT' hH' hst => ?_
        exact hQ a' w' μ' ⟨hT', hH', hd ▸ hS.hD.stp hst⟩ hst
      · cases h
  | seq c1 c2 =>
    have ih1 := ih c1 (by simp; omega)
    have ih2 := ih c2 (by simp; omega)
    intro ac hc T H x T' H' h
    have plain : ∀ a1 a2, cCode P c1 = some a1 → cCode P c2 = some a2 → codeA cal m rd (.seq a1 a2) T H = some (x, T', H') → CodeOK P rd (.seq c1 c2) T H x T' H' := by
     intro a1 a2 h1 h2 h fence n B μ F w a Q hF hB hS hQ
     simp only [codeA] at h
     refine wpIn_seq ?_
     split at h
     · rename_i T1 H1 hrun
       refine ih1 a1 h1 T H _ _ _ hrun fence n B μ F w a _ hF hB hS fun a' w' μ' hS' hst => ?_
       exact ih2 a2 h2 T1 H1 _ _ _ h fence n B μ' F w' a' Q hF (Nat.le_trans hB hst.size) hS' fun a2 w2 μ2 hS2 hst2 => hQ a2 w2 μ2 hS2 (hst.trans hst2)
     · rename_i hne
       refine ih1 a1 h1 T H _ _ _ h fence n B μ F w a _ hF hB hS fun a' w' μ' hS' hst => ?_
       have := hQ a' w' μ' hS' hst
       cases x <;> first | exact this | exact absurd h (hne _ _)
    rcases cCode_seq (P := P) c1 c2 with ⟨i0, ops0, bid, i1, ops1, ex, bid', bid2, i2, ops2, rest, rfl, rfl⟩ | he
    · simp only [cCode] at hc
      split at hc
      · rename_i pre xo it it1 nx ex1 it2 en os g0 g1 g2
        split at hc
        · rename_i hcond
          obtain ⟨rfl, rfl, rfl, rfl, k1, k2, k3, k4⟩ := hcond
          simp only [Option.bind_eq_bind, Option.bind_eq_some_iff] at hc
          obtain ⟨rpre, hrpre, ros, hros, arest, harest, sx, hsx, hc⟩ := hc
          cases hc
          exact rangeM_sound hcal g0 g1 g2 ⟨k1, k2, k3, k4⟩ hrpre hros hsx (fun T H x T' H' hr => ih rest (by simp; omega) arest harest T H x T' H' hr) h
        · cases hc
          rw [stopA_none] at h; cases h
      · simp only [Option.bind_eq_bind, Option.bind_eq_some_iff] at hc
        obtain ⟨a1, h1, a2, h2, hc⟩ := hc
        cases hc
        exact plain a1 a2 (by simp only [cCode]; exact h1) (by simp only [cCode, Option.bind_eq_bind, Option.bind_eq_some_iff]; exact h2) h
    · rw [he] at hc
      simp only [Option.bind_eq_bind, Option.bind_eq_some_iff] at hc
      obtain ⟨a1, h1, a2, h2, hc⟩ := hc
      cases hc
      exact plain a1 a2 h1 h2 h
  | cond c c1 c2 =>
    have ih1 := ih c1 (by simp; omega)
    have ih2 := ih c2 (by simp; omega)
    intro ac hc T H x T' H' h fence n B μ F w a Q hF hB hS hQ
    simp only [cCode, Option.bind_eq_bind, Option.bind_eq_some_iff] at hc
    obtain ⟨s, hs, a1, h1, a2, h2, hc⟩ := hc
    cases hc
    simp only [codeA] at h
    have hv := src_vr hS.hT hs
    split at h
    · rename_i e
      rw [e] at hv
      generalize hcv : a.eval c = cv at hv
      cases hv
      exact wpIn_cond_true hcv (ih1 a1 h1 T H _ _ _ h fence n B μ F w a Q hF hB hS hQ)
    · rename_i e
      rw [e] at hv
      generalize hcv : a.eval c = cv at hv
      cases hv
      exact wpIn_cond_false hcv (ih2 a2 h2 T H _ _ _ h fence n B μ F w a Q hF hB hS hQ)
    · cases h
  | block id b =>
    have ih := ih b (by simp; omega)
    intro ac hc T H x T' H' h fence n B μ F w a Q hF hB hS hQ
    simp only [cCode, Option.bind_eq_bind, Option.bind_eq_some_iff] at hc
    obtain ⟨ab, hb, hc⟩ := hc
    cases hc
    simp only [codeA] at h
    refine wpIn_block ?_
    split at h
    · rename_i id' T1 H1 hrun
      split at h
      · rename_i e
        cases h
        refine ih ab hb T H _ _ _ hrun fence n B μ F w a _ hF hB hS fun a' w' μ' hS' hst => ?_
        have := hQ a' w' μ' hS' hst
        simp only [exOf, Exit.inBlock, e, if_true]
        exact this
      · rename_i e
        cases h
        refine ih ab hb T H _ _ _ hrun fence n B μ F w a _ hF hB hS fun a' w' μ' hS' hst => ?_
        have := hQ a' w' μ' hS' hst
        simp only [exOf, Exit.inBlock, e, if_false]
        exact this
    · rename_i hne
      refine ih ab hb T H _ _ _ h fence n B μ F w a _ hF hB hS fun a' w' μ' hS' hst => ?_
      have := hQ a' w' μ' hS' hst
      cases x <;> first | exact this | exact absurd h (hne _ _ _)
  | loop b =>
    have ih := ih b (by simp)
    intro ac hc T H x T' H' h fence n B μ F w a Q hF hB hS hQ
    simp only [cCode, Option.bind_eq_bind, Option.bind_eq_some_iff] at hc
    obtain ⟨ab, hb, hc⟩ := hc
    cases hc
    simp only [codeA] at h
    exact wpIn_loop_rounds m (iter_sound (ih ab hb) m T H x T' H' h fence n B μ F w a Q hF hB hS hQ).2
  | rangeFunc g ps asg body =>
    intro ac hc T H x T' H' h fence n B μ F w a Q hF hB hS hQ
    simp only [cCode, Option.bind_eq_bind, Option.bind_eq_some_iff] at hc
    obtain ⟨s, hs, a1, h1, a2, h2, hc⟩ := hc
    cases hc
    simp only [codeA] at h
    split at h
    · cases h
    rename_i hrd
    have hrd : rd = false := by simpa using hrd
    subst hrd
    split at h
    · rename_i fi args ht
      split at h
      · rename_i v H2 hrun
        split at h
        · rename_i T0 ps0 b1 b2 hget
          cases h
          refine rangeFunc_sound hcal hF hs h1 h2 ht hrun hB hS (fun T' ps' c1 c2 st pe hg => ?_) ⟨_, _, _, _, _, _, hget⟩
          rw [hget] at hg; cases hg
          refine ⟨by simp, fun r hr a' w' μ' hS' hst => ?_⟩
          cases r with
          | none => exact hQ a' w' μ' hS' hst
          | some c => exact hr.elim
        · rename_i T0 ps0 b1 b2 pc hget
          have fin : ∀ (x' : Ex) (cc : Code), x' = x → T' = T → H' = H2.kill H.next → (∀ c', cCode P c' = some pc → c' = cc) → (∀ (a' : Act) (w' : World), Q (exOf x') a' w' → cc.wpIn fence n P Q a' w') → (Code.rangeFunc g ps asg body).wpIn fence n P Q a w := by
            intro x' cc e1 e2 e3 hinv hwp
            subst e1; subst e2; subst e3
            refine rangeFunc_sound hcal hF hs h1 h2 ht hrun hB hS (fun T' ps' c1 c2 st pe hg => ?_) ⟨_, _, _, _, _, _, hget⟩
            rw [hget] at hg; cases hg
            refine ⟨by simp, fun r hr a' w' μ' hS' hst => ?_⟩
            cases r with
            | none => exact hr.elim
            | some c => 
              have := hinv c hr
              subst this
              exact hwp _ _ (hQ a' w' μ' hS' hst)
          split at h
          · cases h; exact fin .ret .ret rfl rfl rfl (fun c' hc' => ret_inv hc') (fun a' w' q => wpIn_ret q)
          · cases h; exact fin (.exit _) (.exit _) rfl rfl rfl (fun c' hc' => exit_inv hc') (fun a' w' q => wpIn_exit q)
          · cases h; exact fin (.goto _) (.goto _) rfl rfl rfl (fun c' hc' => goto_inv hc') (fun a' w' q => wpIn_goto q)
          · cases h
        · cases h
      · cases h
    · cases h

end
end Go.Proofs.YtedembbgeljdkaaGreatDoor.Ev
