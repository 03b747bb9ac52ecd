/- The evaluator, a part. -/
import Derived.Test.YtopigipibioclaaGreatDoorEvRangeM
namespace Go.Proofs.YtopigipibioclaaGreatDoor.Ev
open Go
set_option linter.all false

section
variable {P : Program} {μ : Mu} {F : Nat → Prop} {H : Heap} {w : World} {T : Tm} {a : Act} {B : Nat × List Deferred}

theorem ahg {f : dZ} {m : Nat} {rd : Bool} {c : Code} {ac : ACode} (hc : ∀ T H x b H', aZ f m rd ac T H = some (x, b, H') → nK P rd c T H x b H') :
    ∀ (k : Nat) (T : Tm) (H : Heap) (x : Ex) (b : Tm) (H' : Heap), jd (aZ f m rd ac) k T H = some (x, b, H') →
    ∀ (fence : Fence) (n : Nat) (B : Nat × List Deferred) (μ : Mu) (F : Nat → Prop) (w : World) (a : Act) (Q : Exit → Act → World → Prop), FenceOK fence rd → B.1 ≤ w.heap.size → StR P B μ F H w T a →
    (∀ d w' μ', StR P B μ' F H' w' b d → Stp fB P μ F H w μ' F H' w' → Q (oi x) d w') → x ≠ .nrm ∧ Code.roundsIn fence n P c Q k a w
  | 0, T, H, x, b, H', h => by cases h
  | k + 1, T, H, x, b, H', h => by
    intro fence n B μ F w a Q hF g o l
    simp only [jd] at h
    split at h
    · rename_i p H1 h1
      refine ⟨?_, ?_⟩
      · -- the last round's way out is not normal
        have key : ∀ (k : Nat) (T : Tm) (H : Heap) (x : Ex) (b : Tm) (H' : Heap), jd (aZ f m rd ac) k T H = some (x, b, H') → x ≠ .nrm := by
          intro k
          induction k with
          | zero => intro T H x b H' h; cases h
          | succ k ih =>
            intro T H x b H' h
            simp only [jd] at h
            split at h
            · exact ih _ _ _ _ _ h
            · rename_i j
              intro e
              subst e
              exact j _ _ h
        exact key _ _ _ _ _ _ h
      · rw [roundsIn_succ]
        refine hc T H _ _ _ h1 fence n B μ F w a _ hF g o fun d w' μ' i hst => ?_
        exact (ahg hc k p H1 x b H' h fence n B μ' F w' d Q hF (Nat.le_trans g hst.size) i fun a2 w2 μ2 q r => l a2 w2 μ2 q (hst.trans r)).2
    · rename_i j
      have hx : x ≠ .nrm := fun e => by subst e; exact j _ _ h
      refine ⟨hx, ?_⟩
      rw [roundsIn_succ]
      refine hc T H _ _ _ h fence n B μ F w a _ hF g o fun d w' μ' i hst => ?_
      have := l d w' μ' i hst
      cases x <;> first | exact this | exact absurd rfl hx

theorem aj6 (hH : HR P μ F H w) (o : Obj) : HR P μ F H (w.alloc o) ∧ Stp fB P μ F H w μ F H (w.alloc o) := by
  have a : ∀ c, c < w.heap.size → (w.alloc o).heap[c]? = w.heap[c]? := fun c hc => Y9 _ _ hc
  have hsz : (w.alloc o).heap.size = w.heap.size + 1 := by simp
  refine ⟨⟨fun b L hb => ?_, fun c hc => ?_, fun b e hb => ?_, hH.inj, fun g cs hg => (hH.gl g cs hg).mono (fun _ _ h => h) (fun _ h => h) fun c hc => a c (hH.fb c hc)⟩, ⟨fun _ _ h => h, fun _ h => h, by omega, fun c hc _ => a c hc, fun b L hb hL => .inr ⟨b, L, hb, hL, rfl⟩, Nat.le_refl _, fun _ _ _ h => h, fun b L h => .inl ⟨b, L, h, rfl⟩, fun b e h _ _ => ⟨e, h⟩, fun b e L h hL => .inr ⟨b, e, L, h, hL, rfl⟩, rfl, rfl, rfl⟩⟩
  · have := hH.dom b L hb; exact ⟨this.1, by omega⟩
  · have := hH.fb c hc; omega
  · obtain ⟨L, hL, d⟩ := hH.ent b e hb
    exact ⟨L, hL, d.mono (fun _ _ h => h) (fun _ h => h) (fun c hc => a c (hH.fb c hc)) (a _ (hH.dom b L hL).2) (fun hr => d.notF hr)⟩

theorem YK (c1 c2 : Code) : (∃ b e bid c f ex a bid2 d g rest, c1 = .region b e false ∧ c2 = .block bid (.loop (.seq (.region c f false) (.seq (.cond (.tmp ex) .skip (.exit a)) (.block bid2 (.seq (.region d g false) rest)))))) ∨
    bB P (.seq c1 c2) = (do some (.seq (← bB P c1) (← bB P c2))) := by
  by_cases h : ∃ b e bid c f ex a bid2 d g rest, c1 = .region b e false ∧ c2 = .block bid (.loop (.seq (.region c f false) (.seq (.cond (.tmp ex) .skip (.exit a)) (.block bid2 (.seq (.region d g false) rest)))))
  · exact .inl h
  · refine .inr ?_
    rw [bB]
    intro b e bid c f ex a bid2 d g rest h1 h2
    exact h ⟨b, e, bid, c, f, ex, a, bid2, d, g, rest, h1, h2⟩

theorem aig {c : Code} {ac : ACode} (h : bB P c = some ac) : (ac = .ret → c = .ret) ∧ (∀ id, ac = .exit id → c = .exit id) ∧ (∀ l, ac = .goto l → c = .goto l) := by
  have no : ∀ {ac : ACode}, ac ≠ .ret → (∀ id, ac ≠ .exit id) → (∀ l, ac ≠ .goto l) → (ac = .ret → c = .ret) ∧ (∀ id, ac = .exit id → c = .exit id) ∧ (∀ l, ac = .goto l → c = .goto l) :=
    fun h1 h2 h3 => ⟨fun h => absurd h h1, fun id h => absurd h (h2 id), fun l h => absurd h (h3 l)⟩
  cases c with
  | ret => cases h; exact ⟨fun _ => rfl, fun id h => (by cases h), fun l h => (by cases h)⟩
  | exit id => cases h; exact ⟨fun h => (by cases h), fun id h => (by cases h; rfl), fun l h => (by cases h)⟩
  | goto l => cases h; exact ⟨fun h => (by cases h), fun id h => (by cases h), fun l h => (by cases h; rfl)⟩
  | skip => cases h; exact no (fun h => by cases h) (fun id h => by cases h) (fun l h => by cases h)
  | label l => cases h; exact no (fun h => by cases h) (fun id h => by cases h) (fun l h => by cases h)
  | refuse w => cases h; exact no (fun h => by cases h) (fun id h => by cases h) (fun l h => by cases h)
  | region i ops d =>
    simp only [bB] at h
    split at h
    · split at h
      · cases h; exact no (fun h => by cases h) (fun id h => by cases h) (fun l h => by cases h)
      · split at h <;> (cases h; exact no (fun h => by cases h) (fun id h => by cases h) (fun l h => by cases h))
    · simp only [Option.map_eq_some_iff] at h
      obtain ⟨_, _, h⟩ := h
      subst h; exact no (fun h => by cases h) (fun id h => by cases h) (fun l h => by cases h)
  | seq c1 c2 =>
    rcases YK (P := P) c1 c2 with ⟨g, m, bid, j, n, ex, e, bid2, k, o, rest, rfl, rfl⟩ | he
    · simp only [bB] at h
      split at h
      · split at h
        · simp only [Option.bind_eq_bind, bN] at h
          obtain ⟨_, _, _, _, _, _, _, _, h⟩ := h
          cases h; exact no (fun h => by cases h) (fun id h => by cases h) (fun l h => by cases h)
        · cases h; exact no (fun h => by cases h) (fun id h => by cases h) (fun l h => by cases h)
      · simp only [Option.bind_eq_bind, bN] at h
        obtain ⟨_, _, _, _, h⟩ := h
        cases h; exact no (fun h => by cases h) (fun id h => by cases h) (fun l h => by cases h)
    · rw [he] at h
      simp only [Option.bind_eq_bind, bN] at h
      obtain ⟨_, _, _, _, h⟩ := h
      cases h; exact no (fun h => by cases h) (fun id h => by cases h) (fun l h => by cases h)
  | cond c a b =>
    simp only [bB, Option.bind_eq_bind, bN] at h
    obtain ⟨_, _, _, _, _, _, h⟩ := h
    cases h; exact no (fun h => by cases h) (fun id h => by cases h) (fun l h => by cases h)
  | block i a =>
    simp only [bB, Option.bind_eq_bind, bN] at h
    obtain ⟨_, _, h⟩ := h
    cases h; exact no (fun h => by cases h) (fun id h => by cases h) (fun l h => by cases h)
  | loop a =>
    simp only [bB, Option.bind_eq_bind, bN] at h
    obtain ⟨_, _, h⟩ := h
    cases h; exact no (fun h => by cases h) (fun id h => by cases h) (fun l h => by cases h)
  | scope a =>
    simp only [bB, Option.bind_eq_bind, bN] at h
    obtain ⟨_, _, h⟩ := h
    cases h
    unfold Xw
    split
    · split
      · exact no (fun h => by cases h) (fun id h => by cases h) (fun l h => by cases h)
      · exact no (fun h => by cases h) (fun id h => by cases h) (fun l h => by cases h)
    · exact no (fun h => by cases h) (fun id h => by cases h) (fun l h => by cases h)
  | rangeFunc f ps a b =>
    simp only [bB, Option.bind_eq_bind, bN] at h
    obtain ⟨_, _, _, _, _, _, h⟩ := h
    cases h; exact no (fun h => by cases h) (fun id h => by cases h) (fun l h => by cases h)

theorem vp {c : Code} (h : bB P c = some .ret) : c = .ret := (aig h).1 rfl
theorem sf {c : Code} {id : Nat} (h : bB P c = some (.exit id)) : c = .exit id := (aig h).2.1 id rfl
theorem r0 {c : Code} {id : Nat} (h : bB P c = some (.goto id)) : c = .goto id := (aig h).2.2 id rfl

theorem acu {M : dZ} (ag : dQ P M) {fence : Fence} (hF : FenceOK fence false) {n : Nat} {g : Operand} {ps : Array Tmp} {q body : Code} {s : Src} {a1 a2 : ACode} (hs : cH g = some s) (h1 : bB P q = some a1) (h2 : bB P body = some a2)
    {t : Nat} {args : List AV} {v : AV} {H2 : Heap} (ht : qK (s.ev T) [.loopv H.next] = some (.fn t args))
    (ao : M (.ent t args) (({ H with next := H.next + 1 } : Heap).put H.next (.loop T ps.toList a1 a2 .ready none)) = some (v, H2)) (hB : B.1 ≤ w.heap.size) (f : StR P B μ F H w T a) {Q : Exit → Act → World → Prop}
    (ah : ∀ j l b1 b2 st i, H2.get H.next = some (.loop j l b1 b2 st i) → st ≠ .busy ∧ ∀ (r : Option Code), (match i, r with | none, none => True | some c, some c' => bB P c' = some c | _, _ => False) →
      ∀ p w' μ', StR P B μ' F (H2.kill H.next) w' T p → Stp fB P μ F H w μ' F (H2.kill H.next) w' → (match r with | none => Q .normal p w' | some c => c.wpIn fence n P Q p w'))
    (ai : ∃ j l b1 b2 st i, H2.get H.next = some (.loop j l b1 b2 st i)) : (Code.rangeFunc g ps q body).wpIn fence n P Q a w := by
  refine wpIn_rangeFunc fun fn _ => ?_
  have am : fence.round = none := by
    rcases hF with ⟨_, rfl⟩ | ⟨h, _⟩
    ·rfl
    · cases h
  obtain ⟨aa, O⟩ := aj6 f.hH (.deferred (some []))
  obtain ⟨rec, k⟩ : ∃ rec : Loop, rec = { state := .ready, pending := none, fn, tmps := a.tmps, params := ps, assign := q, body, defers := w.heap.size } := ⟨_, rfl⟩
  have ap : (w.alloc (.deferred (some []))).heap.size = w.heap.size + 1 := by simp
  have U : μ H.next = none := pB f.hH (Nat.le_refl _)
  obtain ⟨R, d⟩ := XS (I := fun b => b = H.next) (aa.bump 1) U (Nat.lt_succ_self _) (.loop rec) (.loop T ps.toList a1 a2 .ready none) 0 0 (fun w' J hn E => by
    refine ⟨E, rec, hn, by rw [k], ?_, by rw [k], by rw [k]; exact h1, by rw [k]; exact h2, by rw [k]; trivial⟩
    rw [k]
    exact ((O.lr f.hH f.hT).mono (l8 U) (fun _ h => h) J)) rfl (w.alloc (.deferred (some []))) rfl rfl rfl rfl
  rw [ap] at R d
  have z : Stp fB P μ F H w (μ.upd H.next ⟨w.heap.size + 1, 0, 0⟩) F (({ H with next := H.next + 1 } : Heap).put H.next (.loop T ps.toList a1 a2 .ready none)) ((w.alloc (.deferred (some []))).alloc (.loop rec)) :=
    O.trans ⟨d.mu, d.fr, d.size, d.keep, d.rw, Nat.le_trans (Nat.le_succ _) d.next, fun b hb _ hn => d.new b (Nat.lt_succ_of_lt hb) (fun e => by have e : b = H.next := e; omega) hn, d.rng, fun b e hb hl _ => d.old b e hb (Nat.lt_succ_of_lt hl) (fun e => by have e : b = H.next := e; omega), d.alv, d.tape, d.os, d.out⟩
  have ad : DM B (μ.upd H.next ⟨w.heap.size + 1, 0, 0⟩) F ((w.alloc (.deferred (some []))).alloc (.loop rec)) ([{ target := .collected w.heap.size, args := #[] }] ++ a.defers) := by
    obtain ⟨Ds, e1, e2, e3⟩ := f.hD.stp z
    obtain ⟨Z, f1, f2, f3⟩ := f.hD
    have C : ∀ D ∈ Ds, D < w.heap.size := by
      intro D hD
      have hm : ({ target := .collected D, args := #[] } : Deferred) ∈ Z.map (fun D => ({ target := .collected D, args := #[] } : Deferred)) := by
        rw [← List.append_cancel_right (e1.symm.trans f1)]
        exact List.mem_map.2 ⟨D, hD, rfl⟩
      obtain ⟨D0, ab, he⟩ := List.mem_map.1 hm
      have : D0 = D := by injection he with he _; injection he
      subst this
      exact (f3 D0 ab).2.1
    refine ⟨w.heap.size :: Ds, by simp [e1], List.nodup_cons.2 ⟨fun h => Nat.lt_irrefl _ (C _ h), e2⟩, fun D hD => ?_⟩
    rcases List.mem_cons.1 hD with rfl | hD
    · refine ⟨hB, by rw [World.size_alloc, World.size_alloc]; omega, ?_, fun h => by have := f.hH.fb _ h; omega, fun b L hb => ?_⟩
      · rw [Y9 _ _ (by simp)]; exact World.alloc_heap_new w _
      · by_cases e : b = H.next
        · subst e; simp at hb; subst hb; simp
        · rw [i4 _ e] at hb; have := (f.hH.dom b L hb).2; omega
    · exact e3 D hD
  -- the call
  have hv := fw f.hT hs
  have G := z.vr f.hH hv
  have al : LR (μ.upd H.next ⟨w.heap.size + 1, 0, 0⟩) F ((w.alloc (.deferred (some []))).alloc (.loop rec)) [.loopv H.next] [.func (.yield (w.heap.size + 1)) #[] #[]] := LR.cons (.loopv _ _ (upd_same _ _)) LR.nil
  generalize aq : s.ev T = fv at ht G
  cases fv <;> simp only [qK] at ht <;> first | (cases ht; done) | skip
  rename_i ff first cap
  cases ff <;> simp only at ht <;> first | (cases ht; done) | skip
  cases ht
  generalize ak : a.eval g = gv at G
  cases G with
  | fn _ _ _ us K k1 k2 k3 k4 =>
  have hl := ((LR.of_agg k1 k2).append al).append (LR.of_agg k3 k4)
  obtain ⟨o, V⟩ := ag _ _ _ _ ao _ F _ _ fence false (n - 1) hF R hl (fun b args e => by cases e)
  have o := o _ _ rfl
  simp only [xE, o, Runs] at V
  refine ⟨w.heap.size + 1, [{ target := .collected w.heap.size, args := #[] }], (w.alloc (.deferred (some []))).alloc (.loop rec), { target := .fn (.func t) K, args := us ++ #[.func (.yield (w.heap.size + 1)) #[] #[]] }, (w.alloc (.deferred (some []))).alloc (.loop rec),
    _, _, _, ?_, ?_, fun f' _ => hF.fn f', ?_, hF.depth n, V.mono fun e w3 ⟨u, he, μ3, m⟩ => ?_⟩
  · rw [am, k]; exact run_enterLoop_outer _ _ _ _ _
  · have e : (#[Operand.const (Value.func (.yield (w.heap.size + 1)) #[] #[])]).map a.eval = #[Value.func (.yield (w.heap.size + 1)) #[] #[]] := by simp only [List.map_toArray, List.map_cons, List.map_nil]; rfl
    simp only [resolve, ak, Deferred.ofValue, e, Sem.run_pure]
  · have e : (us ++ #[Value.func (.yield (w.heap.size + 1)) #[] #[]] ++ K) = (us.toList ++ [Value.func (.yield (w.heap.size + 1)) #[] #[]] ++ K.toList).toArray := by apply Array.ext'; simp
    simp only [invoke, e]
    exact o
  · subst he
    obtain ⟨j, l, b1, b2, st, i, A⟩ := ai
    obtain ⟨af, aj⟩ := ah j l b1 b2 st i A
    obtain ⟨L, hL, hE⟩ := m.heap.ent _ _ A
    have hL' := m.stp.mu _ _ (upd_same (μ := μ) H.next ⟨w.heap.size + 1, 0, 0⟩)
    rw [hL'] at hL; cases hL
    obtain ⟨E, r, y, g2, g3, g4, g5, g6, N⟩ := hE
    simp only at y
    have C := (Array.getElem?_eq_some_iff.1 y).1
    obtain ⟨q1, W⟩ := Ci (I := fB) (e := .loop j l b1 b2 .exhausted i) m.heap A rfl hL' (w3.putObj (w.heap.size + 1) (.loop { r with state := .exhausted })) (fun c hc => World.putObj_heap_other hc) (by simp [World.putObj]) rfl rfl rfl
      (fun J => ⟨E, _, World.putObj_heap_same C, rfl, g3.mono (fun _ _ h => h) (fun _ h => h) J, g4, g5, g6, N⟩) rfl
    obtain ⟨q3, X⟩ := aev (I := fB) q1 H.next
    have S : ∀ x, ((H2.put H.next (.loop j l b1 b2 .exhausted i)).kill H.next).get x = (H2.kill H.next).get x := by
      intro x; simp only [Heap.get_kill, Heap.get_put]; split <;> rfl
    have q5 := q3.congr (H2 := H2.kill H.next) rfl S
    have Y : Stp fB P μ F H w μ3 F (H2.kill H.next) (w3.putObj (w.heap.size + 1) (.loop { r with state := .exhausted })) :=
      (z.trans (m.stp.trans (W.trans X))).congr rfl fun x e he => ⟨e, by rw [S]; exact he, rfl⟩
    refine ⟨r.pending, _, run_endLoop y (by rw [g2]; exact af), ?_⟩
    have ae : StR P B μ3 F (H2.kill H.next) (w3.putObj (w.heap.size + 1) (.loop { r with state := .exhausted })) T { a with defers := [{ target := .collected w.heap.size, args := #[] }] ++ a.defers } :=
      ⟨Y.lr f.hH f.hT, q5, (ad.stp m.stp).stp (W.trans X)⟩
    exact aj r.pending N _ _ μ3 ae Y

theorem qD {P : Program} {b : Frame} {a : Act} {k : List Item} {cs : List Frame} {w : World} {c : Code} : step P (lone (b.atR a (.code (.scope c) :: k)) cs w) = .next (lone (b.atR a (.code c :: .inScope c :: k)) cs w) :=
  step_lone_go (by simp [stepG, stepG.exec, Frame.atR])
theorem acn {P : Program} {b : Frame} {a : Act} {k : List Item} {cs : List Frame} {w : World} {c : Code} : step P (lone (b.atR a (.inScope c :: k)) cs w) = .next (lone (b.atR a k) cs w) :=
  step_lone_go (by simp [stepG, stepG.exec, Frame.atR])

theorem ag4 {P : Program} {F : Fence} {n : Nat} {a : Act} {w : World} {Q : Exit → Act → World → Prop} {c : Code} (h : c.wpIn F n P (Exit.noGoto Q) a w) : (Code.scope c).wpIn F n P Q a w := by
  intro b k cs m hb hr
  have h0 : (lone (b.atR a (.code (.scope c) :: k)) cs w).fenced P F := fenced_calm hb hr rfl
  obtain ⟨e, f, g, hq, d⟩ := h b (.inScope c :: k) cs m hb hr
  cases e with
  | normal => exact ⟨.normal, f, g, hq, .head h0 qD (StepsIn.trans d (.one (fenced_calm hb hr rfl) acn))⟩
  | exit i =>
    have hx : exitTo i (.inScope c :: k) = exitTo i k := by simp [exitTo]
    exact ⟨.exit i, f, g, hq, fun o hk => .head h0 qD (d.1 o (by rw [hx]; exact hk)),
      fun j hk => let ⟨p, h1, h2⟩ := d.2 j (by rw [hx]; exact hk); ⟨p, h1, .head h0 qD h2⟩⟩
  | goto l => exact hq.elim
  | ret => exact ⟨_, f, g, hq, .of_steps (.one h0 qD) d⟩
  | panic q => exact ⟨_, f, g, hq, .of_steps (.one h0 qD) d⟩
  | outgrown => exact ⟨_, f, g, hq, .of_steps (.one h0 qD) d⟩

theorem aeq {a : dZ} {m : Nat} {rd : Bool} {T : Tm} {H : Heap} : aZ a m rd kg T H = none := by
  unfold kg
  simp only [aZ]
  split <;> rfl

/-! ### A scope in which one jumps -/

def rR (l : Nat) (J : Act → World → Prop) (Q : Exit → Act → World → Prop) : Exit → Act → World → Prop
  | .goto b, a, w => b = l ∧ J a w
  | e, a, w => Q e a w

def Yc (F : Fence) (n : Nat) (P : Program) (c rest : Code) (Q : Exit → Act → World → Prop) (a : Act) (w : World) : Prop :=
  ∀ (b : Frame) (k : List Item) (cs : List Frame), b.roundOf = F.round → F.fn b.fn → F.room (cs.length + 1 + n) →
    ∃ e d w', Q e d w' ∧ ArrivesIn (Machine.fenced P F) P (lone (b.atR a (.code rest :: .inScope c :: k)) cs w) b k cs e d w'

theorem ao8 {P : Program} {F : Fence} {n : Nat} {a : Act} {w : World} {Q : Exit → Act → World → Prop} {c rest : Code} {l : Nat} (hf : findLabel c l = some rest) (h : rest.wpIn F n P (rR l (Yc F n P c rest Q) Q) a w) : Yc F n P c rest Q a w := by
  intro b k cs j hb hr
  have hg : gotoIn l (.inScope c :: k) = some (.code rest :: .inScope c :: k) := by simp [gotoIn, hf]
  obtain ⟨e, f, g, hq, d⟩ := h b (.inScope c :: k) cs j hb hr
  cases e with
  | normal => exact ⟨.normal, f, g, hq, StepsIn.trans d (.one (fenced_calm hb hr rfl) acn)⟩
  | exit i =>
    have hx : exitTo i (.inScope c :: k) = exitTo i k := by simp [exitTo]
    exact ⟨.exit i, f, g, hq, fun t hk => d.1 t (by rw [hx]; exact hk), fun s hk => d.2 s (by rw [hx]; exact hk)⟩
  | goto x =>
    obtain ⟨rfl, p⟩ := hq
    obtain ⟨o, m, u, r, q⟩ := p b k cs j hb hr
    exact ⟨o, m, u, r, .of_steps (d.1 _ hg) q⟩
  | ret => exact ⟨_, f, g, hq, d⟩
  | panic v => exact ⟨_, f, g, hq, d⟩
  | outgrown => exact ⟨_, f, g, hq, d⟩

theorem aky {P : Program} {F : Fence} {n : Nat} {a : Act} {w : World} {Q : Exit → Act → World → Prop} {c rest : Code} {l : Nat} (hf : findLabel c l = some rest) (h : c.wpIn F n P (rR l (Yc F n P c rest Q) Q) a w) : (Code.scope c).wpIn F n P Q a w := by
  intro b k cs j hb hr
  have hg : gotoIn l (.inScope c :: k) = some (.code rest :: .inScope c :: k) := by simp [gotoIn, hf]
  have h0 : (lone (b.atR a (.code (.scope c) :: k)) cs w).fenced P F := fenced_calm hb hr rfl
  obtain ⟨e, f, g, hq, d⟩ := h b (.inScope c :: k) cs j hb hr
  cases e with
  | normal => exact ⟨.normal, f, g, hq, .head h0 qD (StepsIn.trans d (.one (fenced_calm hb hr rfl) acn))⟩
  | exit i =>
    have hx : exitTo i (.inScope c :: k) = exitTo i k := by simp [exitTo]
    exact ⟨.exit i, f, g, hq, fun t hk => .head h0 qD (d.1 t (by rw [hx]; exact hk)),
      fun s hk => let ⟨u, h1, h2⟩ := d.2 s (by rw [hx]; exact hk); ⟨u, h1, .head h0 qD h2⟩⟩
  | goto y =>
    obtain ⟨rfl, p⟩ := hq
    obtain ⟨o, m, v, r, q⟩ := p b k cs j hb hr
    exact ⟨o, m, v, r, .of_steps (.head h0 qD (d.1 _ hg)) q⟩
  | ret => exact ⟨_, f, g, hq, .of_steps (.one h0 qD) d⟩
  | panic x => exact ⟨_, f, g, hq, .of_steps (.one h0 qD) d⟩
  | outgrown => exact ⟨_, f, g, hq, .of_steps (.one h0 qD) d⟩

theorem agf {j : dZ} {m : Nat} {rd : Bool} {c rest : Code} {i : ACode} {l : Nat} (hf : findLabel c l = some rest) (hc : ∀ T H x b H', aZ j m rd i T H = some (x, b, H') → nK P rd rest T H x b H') :
    ∀ (k : Nat) (T : Tm) (H : Heap) (x : Ex) (b : Tm) (H' : Heap), jL l (aZ j m rd i) k T H = some (x, b, H') →
    ∀ (fence : Fence) (n : Nat) (B : Nat × List Deferred) (μ : Mu) (F : Nat → Prop) (w : World) (a : Act) (Q : Exit → Act → World → Prop), FenceOK fence rd → B.1 ≤ w.heap.size → StR P B μ F H w T a →
    (∀ d w' μ', StR P B μ' F H' w' b d → Stp fB P μ F H w μ' F H' w' → Q (oi x) d w') → Yc fence n P c rest Q a w
  | 0, T, H, x, b, H', h => by cases h
  | k + 1, T, H, x, b, H', h => by
    intro fence n B μ F w a Q hF f p o
    simp only [jL] at h
    refine ao8 hf ?_
    split at h
    · rename_i u q H1 h1
      split at h
      · rename_i e
        subst e
        refine hc T H _ _ _ h1 fence n B μ F w a _ hF f p fun d w' μ' g hst => ⟨rfl, ?_⟩
        exact agf hf hc k q H1 x b H' h fence n B μ' F w' d Q hF (Nat.le_trans f hst.size) g fun a2 w2 μ2 r t => o a2 w2 μ2 r (hst.trans t)
      · cases h
    · rename_i s
      refine hc T H _ _ _ h fence n B μ F w a _ hF f p fun d w' μ' g hst => ?_
      have := o d w' μ' g hst
      cases x with
      | goto u => exact absurd h (s _ _ _)
      | _ => exact this

theorem an3 {d : dZ} {m : Nat} {rd : Bool} {c1 c2 : Code} {a1 a2 : ACode} (h1 : ∀ T H x b H', aZ d m rd a1 T H = some (x, b, H') → nK P rd c1 T H x b H') (h2 : ∀ T H x b H', aZ d m rd a2 T H = some (x, b, H') → nK P rd c2 T H x b H')
    (T : Tm) (H : Heap) (x : Ex) (b : Tm) (H' : Heap) (h : aZ d m rd (.seq a1 a2) T H = some (x, b, H')) : nK P rd (.seq c1 c2) T H x b H' := by
  intro fence n B μ F w a Q hF e i g
  simp only [aZ] at h
  refine wpIn_seq ?_
  split at h
  · rename_i j H1 o
    refine h1 T H _ _ _ o fence n B μ F w a _ hF e i fun c w' μ' f hst => ?_
    exact h2 j H1 _ _ _ h fence n B μ' F w' c Q hF (Nat.le_trans e hst.size) f fun a2 w2 μ2 k p => g a2 w2 μ2 k (hst.trans p)
  · rename_i l
    refine h1 T H _ _ _ h fence n B μ F w a _ hF e i fun c w' μ' f hst => ?_
    have := g c w' μ' f hst
    cases x <;> first | exact this | exact absurd h (l _ _)

theorem anv {c : Code} {ac : ACode} (h : bB P c = some ac) : (∃ c1 c2, c = .seq c1 c2) ∨ (∃ l, c = .label l) ∨ ∀ l, mJ ac l = none := by
  cases c with
  | seq c1 c2 => exact .inl ⟨c1, c2, rfl⟩
  | label l => exact .inr (.inl ⟨l, rfl⟩)
  | ret => cases h; exact .inr (.inr fun l => rfl)
  | exit id => cases h; exact .inr (.inr fun l => rfl)
  | goto l => cases h; exact .inr (.inr fun l => rfl)
  | skip => cases h; exact .inr (.inr fun l => rfl)
  | refuse w => cases h; exact .inr (.inr fun l => rfl)
  | region i ops d =>
    right; right
    simp only [bB] at h
    split at h
    · split at h
      · cases h; exact fun l => rfl
      · split at h <;> (cases h; exact fun l => rfl)
    · simp only [Option.map_eq_some_iff] at h
      obtain ⟨_, _, h⟩ := h
      subst h; exact fun l => rfl
  | cond c a b =>
    simp only [bB, Option.bind_eq_bind, bN] at h
    obtain ⟨_, _, _, _, _, _, h⟩ := h
    cases h; exact .inr (.inr fun l => rfl)
  | block i a =>
    simp only [bB, Option.bind_eq_bind, bN] at h
    obtain ⟨_, _, h⟩ := h
    cases h; exact .inr (.inr fun l => rfl)
  | loop a =>
    simp only [bB, Option.bind_eq_bind, bN] at h
    obtain ⟨_, _, h⟩ := h
    cases h; exact .inr (.inr fun l => rfl)
  | rangeFunc f ps a b =>
    simp only [bB, Option.bind_eq_bind, bN] at h
    obtain ⟨_, _, _, _, _, _, h⟩ := h
    cases h; exact .inr (.inr fun l => rfl)
  | scope a =>
    right; right
    simp only [bB, Option.bind_eq_bind, bN] at h
    obtain ⟨e, _, h⟩ := h
    cases h
    unfold Xw
    split
    · rename_i j g
      split
      · intro l
        cases e <;> first | rfl | (simp [Yl] at g; done)
      · exact fun l => rfl
    · exact fun l => rfl

theorem alg {i : dZ} {m : Nat} {rd : Bool} {N : Nat} (ih : ∀ c' : Code, SizeOf.sizeOf c' < N → ∀ (ac : ACode), bB P c' = some ac → ∀ (T : Tm) (H : Heap) (x : Ex) (f : Tm) (H' : Heap), aZ i m rd ac T H = some (x, f, H') → nK P rd c' T H x f H') (l : Nat) :
    ∀ (b : Code), SizeOf.sizeOf b < N → ∀ (c : ACode), bB P b = some c → (mJ c l = none → findLabel b l = none) ∧ ∀ d, mJ c l = some d → ∃ rest, findLabel b l = some rest ∧ ∀ T H x f H', aZ i m rd d T H = some (x, f, H') → nK P rd rest T H x f H' := by
  intro b
  have other : ∀ c : ACode, (∀ l, mJ c l = none) → findLabel b l = none → (mJ c l = none → findLabel b l = none) ∧ ∀ d, mJ c l = some d → ∃ rest, findLabel b l = some rest ∧ ∀ T H x f H', aZ i m rd d T H = some (x, f, H') → nK P rd rest T H x f H' :=
    fun c h1 h2 => ⟨fun _ => h2, fun d h => by rw [h1] at h; cases h⟩
  induction b with
  | label y =>
    intro g c hc
    cases hc
    simp only [mJ, findLabel]
    refine ⟨fun h => ?_, fun d h => ?_⟩
    · split at h
      · cases h
      · rename_i e; rw [if_neg e]
    · split at h
      · rename_i e
        cases h
        rw [if_pos e]
        exact ⟨_, rfl, fun T H x f H' h fence n B μ F w a Q hF u p o => by cases h; exact wpIn_skip (o a w μ p (Stp.refl _ _ _ _ _ _))⟩
      · cases h
  | seq c1 c2 q s =>
    intro g c hc
    have plain : ∀ a1 a2, bB P c1 = some a1 → bB P c2 = some a2 → (mJ (.seq a1 a2) l = none → findLabel (.seq c1 c2) l = none) ∧ ∀ d, mJ (.seq a1 a2) l = some d → ∃ rest, findLabel (.seq c1 c2) l = some rest ∧ ∀ T H x f H', aZ i m rd d T H = some (x, f, H') → nK P rd rest T H x f H' := by
      intro a1 a2 h1 h2
      have j := q (fun c h1 h2 => ⟨fun _ => h2, fun d h => by rw [h1] at h; cases h⟩) (by simp at g; omega) a1 h1
      have k := s (fun c h1 h2 => ⟨fun _ => h2, fun d h => by rw [h1] at h; cases h⟩) (by simp at g; omega) a2 h2
      cases hf : mJ a1 l with
      | none =>
        have e1 : mJ (.seq a1 a2) l = mJ a2 l := by simp only [mJ, hf]
        have e2 : findLabel (.seq c1 c2) l = findLabel c2 l := by simp only [findLabel, j.1 hf]
        rw [e1, e2]
        exact k
      | some r =>
        obtain ⟨rest, hr, hok⟩ := j.2 r hf
        have e1 : mJ (.seq a1 a2) l = some (.seq r a2) := by simp only [mJ, hf]
        have e2 : findLabel (.seq c1 c2) l = some (.seq rest c2) := by simp only [findLabel, hr]
        rw [e1, e2]
        refine ⟨fun h => (by cases h), fun d h => ?_⟩
        cases h
        exact ⟨_, rfl, an3 hok (ih c2 (by simp at g; omega) a2 h2)⟩
    rcases YK (P := P) c1 c2 with ⟨v, z, bid, j, A, ex, t, bid2, k, C, rest, rfl, rfl⟩ | he
    · simp only [bB] at hc
      split at hc
      · split at hc
        · simp only [Option.bind_eq_bind, bN] at hc
          obtain ⟨_, _, _, _, _, _, _, _, hc⟩ := hc
          cases hc
          exact other _ (fun l => rfl) rfl
        · cases hc
          exact other _ (fun l => rfl) rfl
      · simp only [Option.bind_eq_bind, bN] at hc
        obtain ⟨a1, h1, a2, h2, hc⟩ := hc
        cases hc
        exact plain a1 a2 (by simp only [bB]; exact h1) (by simp only [bB, Option.bind_eq_bind, bN]; exact h2)
    · rw [he] at hc
      simp only [Option.bind_eq_bind, bN] at hc
      obtain ⟨a1, h1, a2, h2, hc⟩ := hc
      cases hc
      exact plain a1 a2 h1 h2
  | _ =>
    intro g c hc
    rcases anv hc with ⟨_, _, h⟩ | ⟨_, h⟩ | h
    · cases h
    · cases h
    · exact other c h rfl

theorem uD {D : dZ} (C : dQ P D) (X : P.follows .mixedOrders = true) {m : Nat} {rd : Bool} : ∀ (c : Code) (ac : ACode), bB P c = some ac → ∀ (T : Tm) (H : Heap) (x : Ex) (j : Tm) (H' : Heap), aZ D m rd ac T H = some (x, j, H') → nK P rd c T H x j H' := by
  intro c
  induction hk : SizeOf.sizeOf c using Nat.strongRecOn generalizing c with
  | _ k ih =>
  have ih : ∀ c' : Code, SizeOf.sizeOf c' < SizeOf.sizeOf c → ∀ (ac : ACode), bB P c' = some ac → ∀ (T : Tm) (H : Heap) (x : Ex) (j : Tm) (H' : Heap), aZ D m rd ac T H = some (x, j, H') → nK P rd c' T H x j H' := fun c' h => ih (SizeOf.sizeOf c') (hk ▸ h) c' rfl
  cases c with
  | skip =>
    intro ac hc T H x j H' h fence n B μ F w a Q hF o d f
    cases hc; cases h
    exact wpIn_skip (f a w μ d (Stp.refl _ _ _ _ _ _))
  | label l =>
    intro ac hc T H x j H' h fence n B μ F w a Q hF o d f
    cases hc
    simp only [aZ] at h
    cases h
    exact wpIn_label (f a w μ d (Stp.refl _ _ _ _ _ _))
  | exit id =>
    intro ac hc T H x j H' h fence n B μ F w a Q hF o d f
    cases hc; cases h
    exact wpIn_exit (f a w μ d (Stp.refl _ _ _ _ _ _))
  | goto l =>
    intro ac hc T H x j H' h fence n B μ F w a Q hF o d f
    cases hc; cases h
    exact wpIn_goto (f a w μ d (Stp.refl _ _ _ _ _ _))
  | ret =>
    intro ac hc T H x j H' h fence n B μ F w a Q hF o d f
    cases hc; cases h
    exact wpIn_ret (f a w μ d (Stp.refl _ _ _ _ _ _))
  | refuse aB =>
    intro ac hc T H x j H' h
    cases hc
    rw [aeq] at h; cases h
  | scope b =>
    have al := ih
    have ih := ih b (by simp)
    intro ac hc T H x j H' h fence n B μ F w a Q hF o d f
    simp only [bB, Option.bind_eq_bind, bN] at hc
    obtain ⟨y, hb, hc⟩ := hc
    have Y : aZ D m rd (.scope y) T H = some (x, j, H') → (Code.scope b).wpIn fence n P Q a w := by
      intro h
      simp only [aZ] at h
      refine ag4 ?_
      split at h
      · cases h
      · rename_i A
        refine ih y hb T H _ _ _ h fence n B μ F w a _ hF o d fun i w' μ' t hst => ?_
        have := f i w' μ' t hst
        cases x with
        | goto l => exact absurd h (A _ _ _)
        | _ => exact this
    cases hc
    unfold Xw at h
    split at h
    · rename_i l hl
      split at h
      · rename_i Z ad
        obtain ⟨rest, hf, hok⟩ := (alg al l b (by simp) y hb).2 Z ad
        simp only [aZ] at h
        refine aky hf ?_
        split at h
        · rename_i l' z H1 h1
          split at h
          · rename_i e
            subst e
            refine ih y hb T H _ _ _ h1 fence n B μ F w a _ hF o d fun i w' μ' t hst => ⟨rfl, ?_⟩
            exact agf hf hok m z H1 x j H' h fence n B μ' F w' i Q hF (Nat.le_trans o hst.size) t fun a2 w2 μ2 O U => f a2 w2 μ2 O (hst.trans U)
          · cases h
        · rename_i A
          refine ih y hb T H _ _ _ h fence n B μ F w a _ hF o d fun i w' μ' t hst => ?_
          have := f i w' μ' t hst
          cases x with
          | goto l => exact absurd h (A _ _ _)
          | _ => exact this
      · exact Y h
    · exact Y h
  | region id ops draw =>
    intro ac hc T H x j H' h fence n B μ F w a Q hF o d f
    simp only [bB] at hc
    cases draw with
    | true =>
      simp only [if_true] at hc
      split at hc
      · rename_i p K
        obtain ⟨ds, late⟩ := p
        cases hc
        simp only [aZ] at h
        split at h
        · rename_i z H1 u
          cases h
          refine am3 C X hF K u d.hT d.hH fun i w' μ' hd G E hst => ?_
          exact f i w' μ' ⟨G, E, hd ▸ d.hD.stp hst⟩ hst
        · cases h
      · split at hc
        · rename_i p K
          obtain ⟨ds, late, last, mid⟩ := p
          cases hc
          simp only [aZ] at h
          split at h
          · rename_i z H1 u
            cases h
            refine akk C X hF K u d.hT d.hH fun i w' μ' hd G E hst => ?_
            exact f i w' μ' ⟨G, E, hd ▸ d.hD.stp hst⟩ hst
          · cases h
        · cases hc
          rw [aeq] at h; cases h
    | false =>
      simp only [Bool.false_eq_true, if_false, Option.map_eq_some_iff] at hc
      obtain ⟨rs, K, rfl⟩ := hc
      simp only [aZ] at h
      split at h
      · rename_i z H1 u
        cases h
        refine ajm C hF K u d.hT d.hH fun i w' μ' hd G E hst => ?_
        exact f i w' μ' ⟨G, E, hd ▸ d.hD.stp hst⟩ hst
      · cases h
  | seq c1 c2 =>
    have L := ih c1 (by simp; omega)
    have V := ih c2 (by simp; omega)
    intro ac hc T H x j H' h
    have plain : ∀ a1 a2, bB P c1 = some a1 → bB P c2 = some a2 → aZ D m rd (.seq a1 a2) T H = some (x, j, H') → nK P rd (.seq c1 c2) T H x j H' := by
     intro a1 a2 h1 h2 h fence n B μ F w a Q hF o d f
     simp only [aZ] at h
     refine wpIn_seq ?_
     split at h
     · rename_i z H1 u
       refine L a1 h1 T H _ _ _ u fence n B μ F w a _ hF o d fun i w' μ' t hst => ?_
       exact V a2 h2 z H1 _ _ _ h fence n B μ' F w' i Q hF (Nat.le_trans o hst.size) t fun a2 w2 μ2 O U => f a2 w2 μ2 O (hst.trans U)
     · rename_i A
       refine L a1 h1 T H _ _ _ h fence n B μ F w a _ hF o d fun i w' μ' t hst => ?_
       have := f i w' μ' t hst
       cases x <;> first | exact this | exact absurd h (A _ _)
    rcases YK (P := P) c1 c2 with ⟨i0, aw, bid, i1, ax, ex, ap, bid2, i2, ay, rest, rfl, rfl⟩ | he
    · simp only [bB] at hc
      split at hc
      · rename_i pre xo it au nx aq av en os g0 g1 g2
        split at hc
        · rename_i af
          obtain ⟨rfl, rfl, rfl, rfl, k1, k2, k3, k4⟩ := af
          simp only [Option.bind_eq_bind, bN] at hc
          obtain ⟨aA, ai, az, ah, aa, ae, sx, aj, hc⟩ := hc
          cases hc
          exact ai0 C g0 g1 g2 ⟨k1, k2, k3, k4⟩ ai ah aj (fun T H x j H' hr => ih rest (by simp; omega) aa ae T H x j H' hr) h
        · cases hc
          rw [aeq] at h; cases h
      · simp only [Option.bind_eq_bind, bN] at hc
        obtain ⟨a1, h1, a2, h2, hc⟩ := hc
        cases hc
        exact plain a1 a2 (by simp only [bB]; exact h1) (by simp only [bB, Option.bind_eq_bind, bN]; exact h2) h
    · rw [he] at hc
      simp only [Option.bind_eq_bind, bN] at hc
      obtain ⟨a1, h1, a2, h2, hc⟩ := hc
      cases hc
      exact plain a1 a2 h1 h2 h
  | cond c c1 c2 =>
    have L := ih c1 (by simp; omega)
    have V := ih c2 (by simp; omega)
    intro ac hc T H x j H' h fence n B μ F w a Q hF o d f
    simp only [bB, Option.bind_eq_bind, bN] at hc
    obtain ⟨s, hs, a1, h1, a2, h2, hc⟩ := hc
    cases hc
    simp only [aZ] at h
    have hv := fw d.hT hs
    split at h
    · rename_i e
      rw [e] at hv
      generalize R : a.eval c = cv at hv
      cases hv
      exact wpIn_cond_true R (L a1 h1 T H _ _ _ h fence n B μ F w a Q hF o d f)
    · rename_i e
      rw [e] at hv
      generalize R : a.eval c = cv at hv
      cases hv
      exact wpIn_cond_false R (V a2 h2 T H _ _ _ h fence n B μ F w a Q hF o d f)
    · cases h
  | block id b =>
    have ih := ih b (by simp; omega)
    intro ac hc T H x j H' h fence n B μ F w a Q hF o d f
    simp only [bB, Option.bind_eq_bind, bN] at hc
    obtain ⟨y, hb, hc⟩ := hc
    cases hc
    simp only [aZ] at h
    refine wpIn_block ?_
    split at h
    · rename_i ar z H1 u
      split at h
      · rename_i e
        cases h
        refine ih y hb T H _ _ _ u fence n B μ F w a _ hF o d fun i w' μ' t hst => ?_
        have := f i w' μ' t hst
        simp only [oi, Exit.inBlock, e, if_true]
        exact this
      · rename_i e
        cases h
        refine ih y hb T H _ _ _ u fence n B μ F w a _ hF o d fun i w' μ' t hst => ?_
        have := f i w' μ' t hst
        simp only [oi, Exit.inBlock, e, if_false]
        exact this
    · rename_i A
      refine ih y hb T H _ _ _ h fence n B μ F w a _ hF o d fun i w' μ' t hst => ?_
      have := f i w' μ' t hst
      cases x <;> first | exact this | exact absurd h (A _ _ _)
  | loop b =>
    have ih := ih b (by simp)
    intro ac hc T H x j H' h fence n B μ F w a Q hF o d f
    simp only [bB, Option.bind_eq_bind, bN] at hc
    obtain ⟨y, hb, hc⟩ := hc
    cases hc
    simp only [aZ] at h
    exact wpIn_loop_rounds m (ahg (ih y hb) m T H x j H' h fence n B μ F w a Q hF o d f).2
  | rangeFunc g ps ab body =>
    intro ac hc T H x j H' h fence n B μ F w a Q hF o d f
    simp only [bB, Option.bind_eq_bind, bN] at hc
    obtain ⟨s, hs, a1, h1, a2, h2, hc⟩ := hc
    cases hc
    simp only [aZ] at h
    split at h
    · cases h
    rename_i S
    have S : rd = false := by simpa using S
    subst S
    split at h
    · rename_i fi args ht
      split at h
      · rename_i v H2 u
        split at h
        · rename_i T0 ao b1 b2 J
          cases h
          refine acu C hF hs h1 h2 ht u o d (fun j am c1 c2 st pe hg => ?_) ⟨_, _, _, _, _, _, J⟩
          rw [J] at hg; cases hg
          refine ⟨by simp, fun r hr i w' μ' t hst => ?_⟩
          cases r with
          | none => exact f i w' μ' t hst
          | some c => exact hr.elim
        · rename_i T0 ao b1 b2 pc J
          have N : ∀ (W : Ex) (M : Code), W = x → j = T → H' = H2.kill H.next → (∀ c', bB P c' = some pc → c' = M) → (∀ (i : Act) (w' : World), Q (oi W) i w' → M.wpIn fence n P Q i w') → (Code.rangeFunc g ps ab body).wpIn fence n P Q a w := by
            intro W M e1 e2 e3 ag ak
            subst e1; subst e2; subst e3
            refine acu C hF hs h1 h2 ht u o d (fun j am c1 c2 st pe hg => ?_) ⟨_, _, _, _, _, _, J⟩
            rw [J] at hg; cases hg
            refine ⟨by simp, fun r hr i w' μ' t hst => ?_⟩
            cases r with
            | none => exact hr.elim
            | some c => 
              have := ag c hr
              subst this
              exact ak _ _ (f i w' μ' t hst)
          split at h
          · cases h; exact N .ret .ret rfl rfl rfl (fun c' I => vp I) (fun i w' q => wpIn_ret q)
          · cases h; exact N (.exit _) (.exit _) rfl rfl rfl (fun c' I => sf I) (fun i w' q => wpIn_exit q)
          · cases h; exact N (.goto _) (.goto _) rfl rfl rfl (fun c' I => r0 I) (fun i w' q => wpIn_goto q)
          · cases h
        · cases h
      · cases h
    · cases h

end
end Go.Proofs.YtopigipibioclaaGreatDoor.Ev

namespace Go.Proofs.YtopigipibioclaaGreatDoor.Ev
open Go
set_option linter.all false
def RunsP (F : Fence) (n : Nat) (P : Program) (r : Result Next) (post : Value → World → Prop) : Prop :=
 match r with
 | .ok (.enter f args) w' => CallsIn F n P f args w' fun e a => ∃ u, e = .panicked [{ v := u, recovered := false }] ∧ post u a
 | _ => False
def tY (P : Program) (pc : fj) : Prop := ∀ f args H v H', pc (.fn f args) H = some (v, H') → ∀ (μ : Mu) (F : Nat → Prop) (w : World) (vs : List Value) (fence : Fence) (rd : Bool) (n : Nat), FenceOK fence rd → HR P μ F H w → LR μ F w args vs →
 RunsP fence n P ((callFunc f vs.toArray).run P w) fun u w' => ∃ μ', Done fB P μ F H w v H' u w' μ'
def akc (P : Program) (rd : Bool) (c : Code) (T : Tm) (H : Heap) (v : AV) (d : Tm) (H' : Heap) : Prop :=
 ∀ (fence : Fence) (n : Nat) (B : Nat × List Deferred) (μ : Mu) (F : Nat → Prop) (w : World) (a : Act) (Q : Exit → Act → World → Prop), FenceOK fence rd → B.1 ≤ w.heap.size → StR P B μ F H w T a →
  (∀ b w' μ' u, VR μ' F w' v u → StR P B μ' F H' w' d b → Stp fB P μ F H w μ' F H' w' → Q (.panic [{ v := u, recovered := false }]) b w') → c.wpIn fence n P Q a w
section
variable {P : Program} {μ : Mu} {F : Nat → Prop} {H : Heap} {w : World} {T : Tm} {a : Act}
theorem tQ {o : Oper} {f : Src} {args : List Src} (hc : iA P o = some (.call f args)) : ∃ g a argTypes, o.op = .call ⟨.value g, a, argTypes⟩ ∧ cH g = some f ∧ a.toList.mapM cH = some args := by
 obtain ⟨dst, op, ty, pos, after, guard⟩ := o
 cases op <;> simp only [iA] at hc
 case next x d =>
  split at hc
  ·simp only [Option.map_eq_some_iff] at hc
   obtain ⟨_, _, hc⟩ := hc
   cases hc
  ·cases hc
 case call c =>
  simp only [Option.bind_eq_bind, bN] at hc
  obtain ⟨as, has, hc⟩ := hc
  obtain ⟨callee, a, argTypes⟩ := c
  cases callee with
  | value g =>
   simp only [bN] at hc
   obtain ⟨s, hs, hc⟩ := hc; cases hc
   exact ⟨g, a, argTypes, rfl, hs, has⟩
  | invoke r m => cases hc
  | builtin b =>
   simp only at hc
   split at hc
   all_goals (try simp only [bN] at hc)
   all_goals (repeat' (first | (cases hc; done) | (obtain ⟨_, _, hc⟩ := hc) | (simp only [bN] at hc) | (split at hc)))
 all_goals (try simp only [Option.bind_eq_bind, bN, Option.map_eq_some_iff] at hc)
 all_goals (repeat' (first | (cases hc; done) | (obtain ⟨_, _, hc⟩ := hc) | (simp only [bN] at hc) | (split at hc)))
theorem aoa {o : Oper} {x : Src} (hc : iA P o = some (.panic x)) : ∃ g, o.op = .panic g ∧ cH g = some x := by
 obtain ⟨dst, op, ty, pos, after, guard⟩ := o
 cases op <;> simp only [iA] at hc
 case panic g =>
  simp only [Option.map_eq_some_iff] at hc
  obtain ⟨s, hs, hc⟩ := hc
  cases hc
  exact ⟨g, rfl, hs⟩
 case next x d =>
  split at hc
  ·simp only [Option.map_eq_some_iff] at hc
   obtain ⟨_, _, hc⟩ := hc
   cases hc
  ·cases hc
 case call c =>
  simp only [Option.bind_eq_bind, bN] at hc
  obtain ⟨as, has, hc⟩ := hc
  obtain ⟨callee, a, argTypes⟩ := c
  cases callee with
  | value g =>
   simp only [bN] at hc
   obtain ⟨s, hs, hc⟩ := hc; cases hc
  | invoke r m => cases hc
  | builtin b =>
   simp only at hc
   split at hc
   all_goals (try simp only [bN] at hc)
   all_goals (repeat' (first | (cases hc; done) | (obtain ⟨_, _, hc⟩ := hc) | (simp only [bN] at hc) | (split at hc)))
 all_goals (try simp only [Option.bind_eq_bind, bN, Option.map_eq_some_iff] at hc)
 all_goals (repeat' (first | (cases hc; done) | (obtain ⟨_, _, hc⟩ := hc) | (simp only [bN] at hc) | (split at hc)))
theorem amy {fence : Fence} {rd : Bool} {n : Nat} {o : Oper} {next : Act → World → Prop} {Q : Exit → Act → World → Prop} (hF : FenceOK fence rd) (hd : ∀ c, o.op ≠ .defer c)
  (h : RunsP fence (n - 1) P ((execOp a.eval o).run P w) fun u w' => Q (.panic [{ v := u, recovered := false }]) a w') : o.wpIn fence n P a w next Q := by
 refine ⟨fun f _ => hF.fn f, ?_⟩
 rw [Oper.semAt_eq _ _ _ hd]
 generalize (execOp a.eval o).run P w = r at h
 unfold RunsP at h
 split at h
 ·exact ⟨hF.depth n, h.mono fun e w ⟨u, h1, h2⟩ => by subst h1; exact h2⟩
 ·exact h.elim
theorem RunsP.mono {F : Fence} {n : Nat} {r : Result Next} {p q : Value → World → Prop} (h : RunsP F n P r p) (a : ∀ u w, p u w → q u w) : RunsP F n P r q := by
 unfold RunsP at *
 split at h
 ·exact h.mono fun e w ⟨u, h1, h2⟩ => ⟨u, h1, a _ _ h2⟩
 ·exact h.elim
theorem ai2 {pc : fj} (q : tY P pc) {o : Oper} {b : AOp} {v : AV} {H' : Heap} (hc : iA P o = some b) (hp : uu pc (Src.ev T) H b = some (v, H')) (hT : LR μ F w T a.tmps.toList) (hH : HR P μ F H w)
  {fence : Fence} {rd : Bool} (hF : FenceOK fence rd) {n : Nat} {next : Act → World → Prop} {Q : Exit → Act → World → Prop}
  (i : ∀ u w' μ', Done fB P μ F H w v H' u w' μ' → Q (.panic [{ v := u, recovered := false }]) a w') : o.wpIn fence n P a w next Q := by
 have hd := agl hc
 cases b <;> simp only [uu] at hp <;> first | (cases hp; done) | skip
 ·rename_i f args
  simp only [Option.bind_eq_bind, bN] at hp
  obtain ⟨t, ht, hp⟩ := hp
  obtain ⟨g, c, argTypes, hop, hg, hargs⟩ := tQ hc
  have hl := yn hT hargs
  refine amy hF hd ?_
  have m : execOp a.eval o = (do let d ← resolve a.eval ⟨.value g, c, argTypes⟩ o.type; invoke d.target d.args : Sem Next) := by
   unfold execOp; rw [hop]
  rw [m]
  have hf := fw hT hg
  generalize h : a.eval g = B at hf
  generalize z : f.ev T = l at hf ht
  cases l <;> simp only [qK] at ht <;> first | (cases ht; done) | skip
  ·rename_i fn first cap
   cases fn <;> simp only at ht <;> first | (cases ht; done) | skip
   rename_i k
   cases ht
   simp only at hp
   cases hf with
   | fn _ _ _ us y h1 h2 h3 h4 =>
   have p := ((LR.of_agg h1 h2).append hl).append (LR.of_agg h3 h4)
   have := q _ _ _ _ _ hp μ F w _ fence rd (n - 1) hF hH p
   have e : (do let d ← resolve a.eval ⟨.value g, c, argTypes⟩ o.type; invoke d.target d.args : Sem Next).run P w = (callFunc k (us.toList ++ (c.toList.map a.eval) ++ y.toList).toArray).run P w := by
    simp only [resolve, h, Deferred.ofValue, Sem.run_bind, Sem.run_pure, Result.andThen_ok, invoke]
    congr 2
    apply Array.ext'; simp
   rw [e]
   exact this.mono fun u w' ⟨μ', s⟩ => i u w' μ' s
  ·cases ht
   cases hp
 ·rename_i x
  obtain ⟨g, hop, hg⟩ := aoa hc
  split at hp
  ·rename_i t v0 hx
   cases hp
   have hv := fw hT hg
   rw [hx] at hv
   generalize h : a.eval g = j at hv
   refine ⟨fun f _ => hF.fn f, ?_⟩
   rw [Oper.semAt_eq _ _ _ hd]
   have r : (execOp a.eval o).run P w = .halt (.panic j) w := by
    unfold execOp
    rw [hop]
    simp only [h]
    cases hv with
    | ifc _ _ u A => rfl
   rw [r]
   exact i j w μ ⟨hv, hH, Stp.refl _ _ _ _ _ _⟩
  ·cases hp
theorem amm {K : dZ} {pc : fj} (R : dQ P K) (U : tY P pc) {fence : Fence} {rd : Bool} (hF : FenceOK fence rd) {n : Nat} {ops : Array Oper} {Q : Exit → Act → World → Prop} {v : AV} {J : Tm} {H' : Heap} {base : Nat} {tail : List Nat} :
  ∀ (os : List Oper) (rs : List ROp) (i id : Nat) (μ : Mu) (H : Heap) (w : World) (T : Tm) (a : Act), (∀ (k : Nat) (o : Oper), os[k]? = some o → ops[i + k]? = some o) → os.mapM (jj P ops) = some rs → nW K pc id rs T H = some (v, J, H') → base ≤ id → id + os.length ≤ H.next →
  (∀ j, id ≤ j → j < id + os.length → μ j = none) → LR μ F w T a.tmps.toList → HR P μ F H w →
  (∀ d w' μ' u, d.defers = a.defers → VR μ' F w' v u → LR μ' F w' J d.tmps.toList → HR P μ' F H' w' → Stp (fun b => base ≤ b) P μ F H w μ' F H' w' → Q (.panic [{ v := u, recovered := false }]) d w') →
  wpOpsIn fence n P ops Q (List.range' i os.length ++ tail) a w := by
 intro os
 induction os with
 | nil =>
  intro rs i id μ H w T a B e c _ _ _ hT hH m
  simp at e; subst e
  cases c
 | cons o os ih =>
  intro rs i id μ H w T a B e c O S p hT hH m
  simp only [List.mapM_cons, Option.pure_def, Option.bind_eq_bind, bN] at e
  obtain ⟨r, hr, N, M, e⟩ := e
  cases e
  have hoi : ops[i]? = some o := B 0 o rfl
  have L : ∀ (k : Nat) (o : Oper), os[k]? = some o → ops[i + 1 + k]? = some o := fun k o h => by
   have := B (k + 1) o (by simpa using h)
   rwa [show i + (k + 1) = i + 1 + k by omega] at this
  simp only [jj, Option.map_eq_some_iff] at hr
  obtain ⟨g, hg, hr⟩ := hr
  cases hr
  simp only [List.length_cons] at S p ⊢
  simp only [nW] at c
  simp only [List.range'_succ, List.cons_append, wpOpsIn, hoi]
  split at c
  ·rename_i D
   have E := Ch (o := o) hT hg D
   rw [if_pos E]
   split at c
   ·rename_i V H1 hop
    cases c
    have z : iA P o = some ((iA P o).getD .bad) := by
     cases y : iA P o with
     | some x => rfl
     | none => rw [y] at hop; simp [uu] at hop
    exact ai2 U z hop hT hH hF fun u w' μ' hd => m a w' μ' u rfl hd.val (hd.stp.lr hH hT) hd.heap (hd.stp.mono fun b hb => hb.elim)
   ·split at c
    ·rename_i V H1 hop
     have z : iA P o = some ((iA P o).getD .bad) := by
      cases y : iA P o with
      | some x => rfl
      | none => rw [y] at hop; simp [gB, bJ, bR] at hop
     refine XX R (I := fun b => b = id) z hop hT hH (p id (Nat.le_refl _) (by omega)) (by omega) rfl hF fun u w' μ' l => ?_
     refine ih N (i + 1) (id + 1) μ' H1 w' _ _ L M c (by omega) (by have := l.stp.next; omega) (fun j h1 h2 => ?_) (B9 (l.stp.lr hH hT) _ l.val) l.heap fun d w2 μ2 G A C t q s => ?_
     ·exact l.stp.new j (by omega) (by omega) (p j (by omega) (by omega))
     ·refine m d w2 μ2 G (A.trans ?_) C t q ((l.stp.mono fun b hb => ?_).trans s)
      ·cases o.dst <;> rfl
      ·subst hb; exact O
    ·cases c
  ·rename_i D
   have E := Ch (o := o) hT hg D
   rw [if_neg (by rw [E]; decide)]
   refine ⟨fun f _ => hF.fn f, ?_⟩
   refine ih N (i + 1) (id + 1) μ H w _ _ L M c (by omega) (by omega) (fun j h1 h2 => p j (by omega) (by omega)) (B9 hT _ akw) hH fun d w2 μ2 G A C t q s => ?_
   refine m d w2 μ2 G (A.trans ?_) C t q s
   cases o.dst <;> rfl
  ·cases c
theorem ahv {d : dZ} {pc : fj} (m : dQ P d) (p : tY P pc) {fence : Fence} {rd : Bool} (hF : FenceOK fence rd) {n id : Nat} {ops : Array Oper} {rs : List ROp} {Q : Exit → Act → World → Prop} {v : AV} {c : Tm} {H' : Heap}
  (e : ops.toList.mapM (jj P ops) = some rs) (q : nW d pc H.next rs T { H with next := H.next + rs.length } = some (v, c, H')) (hT : LR μ F w T a.tmps.toList) (hH : HR P μ F H w)
  (g : ∀ b w' μ' u, b.defers = a.defers → VR μ' F w' v u → LR μ' F w' c b.tmps.toList → HR P μ' F H' w' → Stp fB P μ F H w μ' F H' w' → Q (.panic [{ v := u, recovered := false }]) b w') :
  (Code.region id ops false).wpIn fence n P Q a w := by
 refine wpIn_region ?_
 have hlen : rs.length = ops.toList.length := by have := (CE _ _ e).1; omega
 have := amm m p hF (n := n) (ops := ops) (Q := Q) (base := H.next) (tail := []) ops.toList rs 0 H.next μ _ w T a (fun k o h => by simpa using h) e q (Nat.le_refl _) (by simp [hlen]) (fun j h1 _ => pB hH h1) hT (hH.bump _)
  (fun b w' μ' u hd hv l f i => g b w' μ' u hd hv l f (XN (Stp.refl _ _ _ _ _ _) i))
 rw [List.range_eq_range']; simpa using this
/-! ### Regions whose order is open -/
theorem ams {n : dZ} {base : Nat} {T0 : Tm} : ∀ (ds : List DOp) (i : Nat) (g : List Nat) (a : DS) (b : List Nat) (s : DS), (∀ d ∈ ds, d.cls = 0 ∨ d.cls = 1 ∨ d.cls = 2) → (∀ j ∈ g, j < i) → a.Vs.length = i → a.Es.length = i →
  XG n base T0 i g ds a = some (b, s) →
  Pre a s ∧ s.Cs = a.Cs ∧ s.Vs.length = i + ds.length ∧ (∀ j ∈ g, j ∈ b) ∧ (∀ j ∈ b, j < i → j ∈ g) ∧
  ∀ (q : Nat) (d : DOp), ds[q]? = some d → (i + q ∈ b ∧ ∃ v, (∀ j ∈ v, j ∈ b ∧ j < i + q) ∧ lX v d = true) ∨
   (i + q ∉ b ∧ d.cls ≠ 2 ∧ ∃ k u, lG n base T0 (i + q) d k = some u ∧ Pre u s ∧ k.Vs.length = i + q ∧ k.Es.length = i + q) := by
 intro ds
 induction ds with
 | nil =>
  intro i g a b s _ _ hV _ h
  cases h
  exact ⟨Pre.refl _, rfl, by simp [hV], fun j h => h, fun j h _ => h, fun q d h => by simp at h⟩
 | cons d ds ih =>
  intro i g a b s hcl l hV p h
  simp only [XG] at h
  have t : ∀ f ∈ ds, f.cls = 0 ∨ f.cls = 1 ∨ f.cls = 2 := fun f y => hcl f (List.mem_cons_of_mem _ y)
  split at h
  ·rename_i m
   obtain ⟨k1, k2, k3, k4, k5, k6⟩ := ih (i + 1) (i :: g) ⟨a.Vs ++ [.undef], a.Cs, a.Es ++ [none]⟩ b s t (fun j hj => by
    rcases List.mem_cons.1 hj with rfl | hj
    ·omega
    ·have := l j hj; omega) (by simp [hV]) (by simp [p]) h
   have A : Pre a ⟨a.Vs ++ [.undef], a.Cs, a.Es ++ [none]⟩ := ⟨List.prefix_append _ _, List.prefix_rfl, List.prefix_append _ _⟩
   refine ⟨A.trans k1, k2, by rw [k3]; simp; omega, fun j hj => k4 j (List.mem_cons_of_mem _ hj), fun j hj z => ?_, fun q f hq => ?_⟩
   ·rcases List.mem_cons.1 (k5 j hj (by omega)) with rfl | h
    ·omega
    ·exact h
   ·cases q with
    | zero =>
     simp at hq; subst hq
     exact .inl ⟨k4 i (List.mem_cons_self ..), g, fun j hj => ⟨k4 j (List.mem_cons_of_mem _ hj), l j hj⟩, m⟩
    | succ q =>
     rw [show i + (q + 1) = i + 1 + q by omega]
     exact k6 q f (by simpa using hq)
  ·rename_i m
   split at h
   ·rename_i k h1
    have r : d.cls ≠ 2 := fun e => m (by simp [lX, e])
    obtain ⟨o, B, C, w⟩ := Y4 h1 (hcl d (List.mem_cons_self ..))
    obtain ⟨k1, k2, k3, k4, k5, k6⟩ := ih (i + 1) g k b s t (fun j hj => by have := l j hj; omega) (by omega) (by omega) h
    have x : k.Cs = a.Cs := by
     obtain ⟨c, hc⟩ := o.2.1
     rw [if_neg r, ← hc, List.length_append] at w
     have : c = [] := List.length_eq_zero_iff.1 (by omega)
     rw [← hc, this, List.append_nil]
    refine ⟨o.trans k1, k2.trans x, by rw [k3]; simp; omega, k4, fun j hj z => k5 j hj (by omega), fun q f hq => ?_⟩
    cases q with
    | zero =>
     simp at hq; subst hq
     refine .inr ⟨fun hm => ?_, r, a, k, h1, k1, hV, p⟩
     have := l i (k5 i hm (by omega))
     omega
    | succ q =>
     rw [show i + (q + 1) = i + 1 + q by omega]
     exact k6 q f (by simpa using hq)
   ·cases h
variable {ops : Array Oper} {l : List DI} {ds : List DOp} {T0 : Tm} {s : DS} {base : Nat} {μ0 : Mu} {H0 : Heap} {w0 : World} {df : List Deferred}
theorem akv {f : List Nat} {a : Nat} (G : DrawOK P ops l ds) (h0 : a < l.length) (n : dE l a = 2) (r : ∀ j, j < a → dE l j ≠ 2)
  (y : ∀ i, i < l.length → i ∈ f → ∃ c, (∀ j ∈ c, j ∈ f ∧ j < i) ∧ lX c (ds.getD i default) = true) {S : Nat → Bool} (hcl : ∀ j, j < l.length → S j = true → ∀ p ∈ fM l j, S p = true) :
  ∀ i, i < l.length → i ∈ f → i ≠ a → (∀ p ∈ fM l i, S p = true) → S a = true := by
 intro i
 induction i using Nat.strongRecOn with
 | _ i ih =>
  intro hi hm w hp
  have m : ∀ j, j < l.length → dE l j = 2 → j = a ∨ a < j := fun j hj hc => by
   rcases Nat.lt_trichotomy j a with h | h | h
   ·exact absurd hc (r j h)
   ·exact .inl h
   ·exact .inr h
  have o : ∀ j, j < l.length → dE l j = 2 → S j = true → S a = true := fun j hj hc g => by
   rcases m j hj hc with rfl | h
   ·exact g
   ·exact hcl j hj g a (G.acts a j h hj n hc)
  obtain ⟨c, h1, h2⟩ := y i hi hm
  obtain ⟨B, C, D, d⟩ := G.dso i hi
  unfold lX at h2
  simp only [Bool.or_eq_true, beq_iff_eq, List.any_eq_true, Bool.and_eq_true, List.all_eq_true, Bool.not_eq_true', beq_eq_false_iff_ne, ne_eq] at h2
  rcases h2 with (h2 | ⟨⟨t, u⟩, z, h2⟩) | ⟨⟨h2, -⟩, hl⟩
  ·rcases m i hi (d ▸ h2) with e | e
   ·exact absurd e w
   ·exact hp a (G.acts a i e hi n (d ▸ h2))
  ·cases u with
   | none => cases h2
   | some j =>
    have hj : j ∈ c := by simpa using h2
    obtain ⟨v, s⟩ := h1 j hj
    obtain ⟨b, -, -, -⟩ := G.useS i hi t j z
    have k := hp j b
    by_cases e : j = a
    ·rw [← e]; exact k
    ·exact ih j s (by omega) v e fun p x => hcl j (by omega) k p x
  ·rcases G.seen i hi (d ▸ h2) 0 (Nat.zero_le _) with ⟨q, hq, b, -⟩ | ⟨q, hq, b, A⟩ | ⟨adds, hm⟩
   ·exact o _ (uB hq).1 (uB hq).2 (hp _ b)
   ·omega
   ·exact absurd rfl (hl _ hm)
theorem Stp.subH {I : Nat → Prop} {A D H' : Heap} {μ μ' : Mu} {w w' : World} (a : ∀ b e, D.get b = some e → A.get b = some e) (hn : D.next = A.next) (h : Stp I P μ F D w μ' F H' w') : Stp I P μ F A w μ' F H' w' :=
 ⟨h.mu, h.fr, h.size, fun c hc hn => h.keep c hc fun b L ⟨e, he, hr⟩ hL => hn b L ⟨e, a b e he, hr⟩ hL, fun b L hb hL => (h.rw b L hb hL).imp id fun ⟨b0, L0, ⟨e, he, hr⟩, h2, h3⟩ => ⟨b0, L0, ⟨e, a _ _ he, hr⟩, h2, h3⟩, hn ▸ h.next,
  fun b hb hi hx => h.new b (hn ▸ hb) hi hx, h.rng, fun b e he hb hi => let ⟨e0, h0⟩ := h.old b e he (hn ▸ hb) hi; ⟨e0, a _ _ h0⟩, fun b e L he hL => (h.alv b e L he hL).imp id fun ⟨b0, e0, L0, h1, h2, h3⟩ => ⟨b0, e0, L0, a _ _ h1, h2, h3⟩, h.tape, h.os, h.out⟩
theorem an0 {r : dZ} (E : dQ P r) {fence : Fence} {rd : Bool} (hF : FenceOK fence rd) {n : Nat} {Q : Exit → Act → World → Prop} (G : DrawOK P ops l ds) {d : List Nat} {b : Nat} (h0 : b < l.length) (O : dE l b = 2) (B : (dR l).getD 0 0 = b) (L : b ∈ d)
  (hop : ∀ i, i < l.length → i ∉ d → qE r base T0 s i (ds.getD i default)) (I : ∀ i, i < l.length → i ∉ d → CC base T0 s i 0 (ds.getD i default))
  (M : ∀ (S : Nat → Bool), (∀ j, j < l.length → S j = true → ∀ p ∈ fM l j, S p = true) → ∀ i, i < l.length → i ∈ d → i ≠ b → (∀ p ∈ fM l i, S p = true) → S b = true)
  (N : ∀ (S : Nat → Bool), (∀ j, j < l.length → S j = true → ∀ p ∈ fM l j, S p = true) → ∀ i o, l.length ≤ i → ops[i]? = some o → (∀ j ∈ kG o, S j = true) → S b = true)
  (C : ∀ (S : Nat → Bool) (μ : Mu) (a : Act) (w : World) (K : Act → World → Prop), Inv P l T0 s base F μ0 H0 w0 df S 0 μ a w → S b = false → (∀ p ∈ fM l b, S p = true) → wpOpIn fence n P ops Q b K a w) :
  ∀ (fuel : Nat) (listed : Array Bool) (μ : Mu) (a : Act) (w : World), listed.size = ops.size → listed.getD b false = false → nJ (fun j => listed.getD j false) l.length ≤ fuel →
   Inv P l T0 s base F μ0 H0 w0 df (fun j => listed.getD j false) 0 μ a w → wpAnyIn fence n P .any ops Q fuel listed a w := by
 intro fuel
 induction fuel with
 | zero =>
  intro listed μ a w hsz c t J
  have := XO _ (Nat.le_zero.1 t) b h0
  rw [c] at this; cases this
 | succ fuel ih =>
  intro listed μ a w hsz c t J
  refine ⟨fun hr => ?_, fun i hi => ?_⟩
  ·have := afm hsz G hr b h0
   rw [c] at this; cases this
  ·obtain ⟨y, o, k, D⟩ := mem_ready.1 hi
   have v := XC y
   have g := XA v y
   have hb : ∀ j ∈ kG o, listed.getD j false = true := fun j hj => by
    obtain ⟨e, he, hb, rfl⟩ := YX hj; exact D e he hb
   rcases Nat.lt_or_ge i l.length with hil | hil
   ·have m : ∀ p ∈ fM l i, (fun j => listed.getD j false) p = true := fun p hp => YP J (o := o) hb (fun j hj => by have := G.back i o hil k j hj; omega) (G.pre i o hil k p hp)
    by_cases e : i = b
    ·subst e; exact C _ μ a w _ J g m
    ·have x : i ∉ d := fun hm => by
      have this : listed.getD b false = true := M _ J.cl i hil hm e m
      rw [c] at this; cases this
     have q := Yu v
     refine YQ E hF J G (hop i hil x) (I i hil x) hil g m fun A w' μ' z f => ?_
     have u : add (fun j => listed.getD j false) i b = false := by simp only [add, if_neg (Ne.symm e)]; exact c
     have H : z = 0 := by
      rcases Nat.eq_zero_or_pos z with h | h
      ·exact h
      ·have hq : 0 < (dR l).length := by have := f.kle; omega
       have := (f.act 0 hq).2 h
       rw [B, u] at this; cases this
     subst H
     refine ih _ μ' A w' (by simp [hsz]) ?_ ?_ (q ▸ f)
     ·have := congrFun q b; rw [this]; exact u
     ·rw [q]
      have := XI (S := fun j => listed.getD j false) g l.length hil
      omega
   ·have this : listed.getD b false = true := N _ J.cl i o hil k hb
    rw [c] at this; cases this
theorem ah1 {ds : List DOp} {a : Nat} (h : ds.findIdx? (fun d => d.cls == 2) = some a) : a < ds.length ∧ (ds.getD a default).cls = 2 ∧ ∀ j, j < a → (ds.getD j default).cls ≠ 2 := by
 obtain ⟨h1, h2, h3⟩ := List.findIdx?_eq_some_iff_getElem.1 h
 refine ⟨h1, ?_, fun j hj => ?_⟩
 ·rw [xG (List.getElem?_eq_getElem h1)]; simpa using h2
 ·rw [xG (List.getElem?_eq_getElem (by omega))]
  have := h3 j hj
  simpa using this
theorem amt {a : Nat} (hi : a < l.length) (hc : dE l a = 2) (hf : ∀ j, j < a → dE l j ≠ 2) : (dR l).getD 0 0 = a := by
 obtain ⟨h1, h2⟩ := aio hi hc
 have : ((List.range a).filter fun i => (l.getD i default).cls == 2) = [] := by
  rw [List.filter_eq_nil_iff]
  intro j hj
  have := hf j (by simpa using hj)
  simpa [dE] using this
 rw [this] at h2
 exact h2
theorem rH : dQ P rI := fun t H v H' h => by cases h
theorem agj {pc : fj} (aC : tY P pc) (ax : P.follows .mixedOrders = true) {fence : Fence} {rd : Bool} (hF : FenceOK fence rd) {n id : Nat} {mid : List Nat} {Q : Exit → Act → World → Prop} {v : AV} {T N : Tm} {H H' : Heap} {μ : Mu} {a : Act} {w : World}
  (G : DrawOK P ops l ds) (ar : ∀ (S : Nat → Bool) (f : Nat), f < l.length → f ∉ mid → (∀ j, j < l.length → S j = true → ∀ p ∈ fM l j, S p = true) → ∀ i o, l.length ≤ i → ops[i]? = some o → (∀ j ∈ kG o, S j = true) → S f = true)
  (m : l4 pc ds mid T H = some (v, N, H')) (hT : LR μ F w T a.tmps.toList) (hH : HR P μ F H w)
  (hQ : ∀ z w' μ' u, z.defers = a.defers → VR μ' F w' v u → LR μ' F w' N z.tmps.toList → HR P μ' F H' w' → Stp fB P μ F H w μ' F H' w' → Q (.panic [{ v := u, recovered := false }]) z w') :
  (Code.region id ops true).wpIn fence n P Q a w := by
 unfold l4 at m
 split at m
 ·cases m
 rename_i f hf
 split at m
 ·cases m
 rename_i r s hs
 split at m
 rotate_left
 ·cases m
 rename_i Z
 simp only [Bool.and_eq_true, Bool.not_eq_true'] at Z
 obtain ⟨aD, hmid⟩ := Z
 have hmid : f ∉ mid := by simpa using hmid
 split at m
 rotate_left
 ·cases m
 rename_i adds L aw
 split at m
 rotate_left
 ·cases m
 rename_i v1 H1 B
 cases m
 obtain ⟨g, Y, au⟩ := ah1 hf
 have g : f < l.length := by rw [← G.dlen]; exact g
 have hcl : ∀ i, i < l.length → (ds.getD i default).cls = dE l i := fun i hi => (G.dso i hi).2.2.2
 have D : dE l f = 2 := (hcl f g) ▸ Y
 have aa : ∀ j, j < f → dE l j ≠ 2 := fun j hj => (hcl j (by omega)) ▸ au j hj
 have hcls : ∀ d ∈ ds, d.cls = 0 ∨ d.cls = 1 ∨ d.cls = 2 := by
  intro d hd
  obtain ⟨i, hi, rfl⟩ := List.getElem_of_mem hd
  have ab : i < l.length := by rw [← G.dlen]; exact hi
  have h1 := G.cl i ab
  rw [← (G.dso i ab).2.2.2, xG (List.getElem?_eq_getElem hi)] at h1
  exact h1
 obtain ⟨k1, k2, k3, k4, k5, k6⟩ := ams ds 0 [] _ r s hcls (fun j hj => by cases hj) rfl rfl hs
 have A : ∀ i, i < l.length → ds[i]? = some (ds.getD i default) := by
  intro i hi
  have : i < ds.length := by rw [G.dlen]; exact hi
  rw [List.getElem?_eq_getElem this]
  simp [List.getD_eq_getElem?_getD, List.getElem?_eq_getElem this]
 have U : s.Cs.getD 0 default = { H with next := H.next + (ds.length + 1) } := by rw [k2]; rfl
 have aF : ∀ i, i < l.length → i ∈ r → ∃ ag, (∀ j ∈ ag, j ∈ r ∧ j < i) ∧ lX ag (ds.getD i default) = true := by
  intro i hi hm
  rcases k6 i _ (A i hi) with ⟨-, h⟩ | ⟨h, -⟩
  ·rw [Nat.zero_add] at h; exact h
  ·rw [Nat.zero_add] at h; exact absurd hm h
 have hop : ∀ i, i < l.length → i ∉ r → qE rI H.next T s i (ds.getD i default) := by
  intro i hi aL
  rcases k6 i _ (A i hi) with ⟨h, -⟩ | ⟨-, h2, s1, s2, e1, e2, O, R⟩
  ·rw [Nat.zero_add] at h; exact absurd h aL
  ·rw [Nat.zero_add] at e1 O R
   refine aon e1 e2 (hcls _ (List.mem_of_getElem? (A i hi))) O R (fun u hu j hj => ?_) (fun h => absurd h h2)
   obtain ⟨t, u⟩ := u
   have hj : u = some j := hj
   subst hj
   exact (G.useS i hi t j hu).2.2.1
 have av : f ∈ r := by
  rcases k6 f _ (A f g) with ⟨h, -⟩ | ⟨-, h2, -⟩
  ·rw [Nat.zero_add] at h; exact h
  ·exact absurd Y h2
 have aE : ∀ i, i < l.length → i ∉ r → CC H.next T s i 0 (ds.getD i default) := by
  intro i hi aL h0 L hp adds hm
  have key : ∀ (ds : List DOp) (k : Nat), Y6 H.next T s r k ds = true → ∀ (q : Nat) (d : DOp), ds[q]? = some d → r.contains (k + q) = true ∨ afk H.next T s (k + q) d = true := by
   intro ds
   induction ds with
   | nil => intro k _ q d h; simp at h
   | cons d ds ih =>
    intro k h q d' hq
    simp only [Y6, Bool.and_eq_true, Bool.or_eq_true] at h
    cases q with
    | zero => simp at hq; subst hq; exact h.1
    | succ q => rw [show k + (q + 1) = k + 1 + q by omega]; exact ih (k + 1) h.2 q d' (by simpa using hq)
  rcases key ds 0 aD i _ (A i hi) with h | h
  ·rw [Nat.zero_add] at h
   exact absurd (by simpa using h) aL
  ·rw [Nat.zero_add] at h
   unfold afk at h
   rw [h0, L, hp] at h
   simp only [List.all_eq_true, Bool.or_eq_true, Bool.not_eq_true', beq_eq_false_iff_ne, ne_eq] at h
   rcases h _ hm with h | h
   ·exact absurd rfl h
   ·split at h
    ·rename_i v D' hv; exact ⟨v, D', hv, h⟩
    ·cases h
 obtain ⟨w1, M⟩ : ∃ w1, w1 = { w with drawn := w.drawn + 1 } := ⟨_, rfl⟩
 have J0 := ai1 (ops := ops) (l := l) (s := s) M hT hH U (by rw [G.dlen]; omega)
 refine wpIn_region_any ax ?_
 rw [← M]
 have af : ∀ j, (Array.replicate ops.size false).getD j false = false := by
  intro j
  rcases Nat.lt_or_ge j ops.size with h | h
  ·simp [h]
  ·simp [Array.getElem?_eq_none (show (Array.replicate ops.size false).size ≤ j by simpa using h)]
 refine an0 rH hF G g D (amt g D aa) av hop aE (fun S C i hi hm az hp => akv G g D aa aF C i hi hm az hp) (fun S C i o hi ho hb => ar S f g hmid C i o hi ho hb) (fun S μ' z w' K J ak hp => ?_) ops.size _ μ a w1 (by simp) (af _)
  (by rw [Yn _ (fun j _ => af j)]; exact G.len) J0
 -- the act that panics
 obtain ⟨o, hoi, aK, aA, aB⟩ := G.op f g
 obtain ⟨aI, ah, ai, aJ⟩ := G.dso f g
 have V := an4 J G g ak hp
 have aj : ∀ S k, (Hh l s H.next S k).next = (s.Cs.getD k default).next := fun S k => qO _ _ _ _
 have aH : ∀ b e, (dU H.next s.Es (s.Cs.getD 0 default) adds).get b = some e → (Hh l s H.next S 0).get b = some e := by
  intro b e hb
  have ha := G.look f g 0 adds (by rw [aw]; exact List.mem_cons_self ..)
  rw [CL] at hb
  rw [qM]
  by_cases hc : H.next ≤ b ∧ (b - H.next) ∈ adds
  ·rw [if_pos hc] at hb
   obtain ⟨q1, q2, q3, q4⟩ := ha _ hc.2
   rw [if_pos ⟨hc.1, mem_lst.2 ⟨by omega, hp _ q1, q2, q3⟩⟩]; exact hb
  ·rw [if_neg hc] at hb
   simp only at hb
   by_cases X : H.next ≤ b ∧ b - H.next ∈ kj l S 0
   ·have E := mem_lst.1 X.2
    have := J.noC (b - H.next) E.1 E.2.2.1 E.2.2.2
    rw [show H.next + (b - H.next) = b by omega, hb] at this
    cases this
   ·rw [if_neg X]; exact hb
 have I : (dU H.next s.Es (s.Cs.getD 0 default) adds).next = (Hh l s H.next S 0).next := by rw [qO, aj]
 have aG := Ch (o := o) V (ai ▸ aA) L
 unfold Go.wpOpIn
 simp only [hoi]
 rw [if_pos aG]
 have ap : iA P o = some (ds.getD f default).op := by
  rw [ah, aB] at B ⊢
  cases ao : iA P o with
  | some x => rfl
  | none => rw [ao] at B; simp [uu] at B
 refine ai2 aC ap B V (J.hr.sub aH I) hF fun u w2 μ2 hd => ?_
 have am : LR μ' F w' (fX (mZ ds) T) z.tmps.toList := by
  have hl := J.tm
  refine ⟨by rw [aey, ← hl.1, XW], fun t c u hc hu => ?_⟩
  unfold fX at hc
  rw [List.getElem?_map, Option.map_eq_some_iff] at hc
  obtain ⟨p, ae, rfl⟩ := hc
  rw [List.getElem?_zipIdx, Option.map_eq_some_iff] at ae
  obtain ⟨y, hy, rfl⟩ := ae
  split
  ·exact .undef u
  ·rename_i ay
   have ht : t < T.length := (List.getElem?_eq_some_iff.1 hy).1
   have al : (TS l T s S)[t]? = some (tv l T s S l.length t) := by
    unfold TS; rw [List.getElem?_map, List.getElem?_range ht]; rfl
   have hv : tv l T s S l.length t = y := by
    rw [XH _ fun j' ad aq => ?_, eQ, xG hy]
    exfalso
    refine ay ?_
    simp only [Nat.zero_add, List.contains_iff_mem]
    unfold mZ
    rw [List.mem_filterMap]
    exact ⟨ds.getD j' default, List.mem_of_getElem? (A j' ad), by rw [(G.dso j' ad).1]; exact aq⟩
   have := hl.2 t _ u al hu
   rwa [hv] at this
 have hst := Stp.subH aH I (hd.stp.mono (I' := fun b => H.next ≤ b) fun b hb => hb.elim)
 have W := J.st.trans hst
 rw [U] at W
 exact hQ z w2 μ2 u J.df hd.val (hd.stp.lr (J.hr.sub aH I) am) hd.heap (XN (ai9 M) W)
theorem afu {b : dZ} {pc : fj} : ∀ (os : List ROp) (id : Nat) (T : Tm) (H : Heap) (a : Tm) (H' : Heap), kU b pc id os T H = some (none, a, H') → fN b id os T H = some (a, H')
 | [], id, T, H, a, H', h => by cases h; rfl
 | o :: os, id, T, H, a, H', h => by
  simp only [kU] at h
  simp only [fN]
  cases d : iv T o.guard with
  | none => rw [d] at h; cases h
  | some e =>
   rw [d] at h
   cases e with
   | false => exact afu os _ _ _ _ _ h
   | true =>
    simp only at h ⊢
    cases hp : uu pc (Src.ev T) H o.op with
    | some r => rw [hp] at h; cases h
    | none =>
     rw [hp] at h
     simp only at h
     cases c : gB b (Src.ev T) H id o.op with
     | none => rw [c] at h; cases h
     | some r => rw [c] at h; exact afu os _ _ _ _ _ h
theorem afx {b : dZ} {pc : fj} : ∀ (os : List ROp) (id : Nat) (T : Tm) (H : Heap) (v : AV) (a : Tm) (H' : Heap), kU b pc id os T H = some (some v, a, H') → nW b pc id os T H = some (v, a, H')
 | [], id, T, H, v, a, H', h => by cases h
 | o :: os, id, T, H, v, a, H', h => by
  simp only [kU] at h
  simp only [nW]
  cases d : iv T o.guard with
  | none => rw [d] at h; cases h
  | some e =>
   rw [d] at h
   cases e with
   | false => exact afx os _ _ _ _ _ _ h
   | true =>
    simp only at h ⊢
    cases hp : uu pc (Src.ev T) H o.op with
    | some r => rw [hp] at h; cases h; rfl
    | none =>
     rw [hp] at h
     simp only at h ⊢
     cases c : gB b (Src.ev T) H id o.op with
     | none => rw [c] at h; cases h
     | some r => rw [c] at h; exact afx os _ _ _ _ _ _ h
theorem al3 {f : Tm → Heap → Option (Xx × Tm × Heap)} {g : Tm → Heap → Option (Ex × Tm × Heap)} (hf : ∀ T H e a H', f T H = some (.ex e, a, H') → g T H = some (e, a, H')) :
  ∀ (k : Nat) (T : Tm) (H : Heap) (e : Ex) (a : Tm) (H' : Heap), jK f k T H = some (.ex e, a, H') → jd g k T H = some (e, a, H')
 | 0, T, H, e, a, H', h => by cases h
 | k + 1, T, H, e, a, H', h => by
  simp only [jK] at h
  simp only [jd]
  split at h
  ·rename_i c H1 h1
   rw [hf _ _ _ _ _ h1]
   exact al3 hf k _ _ _ _ _ h
  ·rename_i b
   rw [hf _ _ _ _ _ h]
   cases e <;> first | rfl | exact absurd h (b _ _)
theorem CI {n : dZ} {pc : fj} {m : Nat} {rd : Bool} : ∀ (ac : ACode) (T : Tm) (H : Heap) (e : Ex) (d : Tm) (H' : Heap), cK n pc m rd ac T H = some (.ex e, d, H') → aZ n m rd ac T H = some (e, d, H') := by
 intro ac
 have other : ∀ (ac : ACode) (T : Tm) (H : Heap) (e : Ex) (d : Tm) (H' : Heap), (match aZ n m rd ac T H with | some (x, d, H') => some (Xx.ex x, d, H') | none => none) = some (.ex e, d, H') → aZ n m rd ac T H = some (e, d, H') := by
  intro ac T H e d H' h
  split at h
  ·rename_i x k H1 h1; cases h; exact h1
  ·cases h
 induction ac with
 | skip => intro T H e d H' h; exact other _ _ _ _ _ _ h
 | exit i => intro T H e d H' h; exact other _ _ _ _ _ _ h
 | goto l => intro T H e d H' h; exact other _ _ _ _ _ _ h
 | ret => intro T H e d H' h; exact other _ _ _ _ _ _ h
 | rangeFunc f ps a b _ _ => intro T H e d H' h; exact other _ _ _ _ _ _ h
 | rangeM pre x it nx ex b1 b2 en os rest W _ => intro T H e d H' h; exact other _ _ _ _ _ _ h
 | scopeL a l rest g _ =>
  intro T H e d H' h
  simp only [cK] at h
  split at h
  ·exact other (.scopeL a l rest) _ _ _ _ _ h
  ·rename_i j
   simp only [aZ]
   rw [g _ _ _ _ _ h]
   cases e <;> first | rfl | exact absurd h (j _ _ _)
 | region ops =>
  intro T H e d H' h
  simp only [cK] at h
  split at h
  ·rename_i k H1 h1
   cases h
   simp only [aZ, afu _ _ _ _ _ _ h1]
  ·cases h
  ·cases h
 | draw ds late =>
  intro T H e d H' h
  simp only [cK] at h
  split at h
  ·cases h
  ·split at h
   ·rename_i k H1 h1
    cases h
    simp only [aZ, h1]
   ·cases h
 | drawF ds late last mid =>
  intro T H e d H' h
  simp only [cK] at h
  split at h
  ·cases h
  ·split at h
   ·rename_i k H1 h1
    cases h
    simp only [aZ, h1]
   ·cases h
 | seq a b g p =>
  intro T H e d H' h
  simp only [cK] at h
  simp only [aZ]
  split at h
  ·rename_i k H1 h1
   rw [g _ _ _ _ _ h1]
   exact p _ _ _ _ _ h
  ·rename_i j
   rw [g _ _ _ _ _ h]
   cases e <;> first | rfl | exact absurd h (j _ _)
 | cond c a b g p =>
  intro T H e d H' h
  simp only [cK] at h
  simp only [aZ]
  split at h
  ·exact g _ _ _ _ _ h
  ·exact p _ _ _ _ _ h
  ·cases h
 | block id a g =>
  intro T H e d H' h
  simp only [cK] at h
  simp only [aZ]
  split at h
  ·rename_i q k H1 h1
   rw [g _ _ _ _ _ h1]
   split at h
   ·rename_i o
    cases h
    simp only [o, if_true]
   ·rename_i o
    cases h
    simp only [o, if_false]
  ·rename_i j
   rw [g _ _ _ _ _ h]
   cases e <;> first | rfl | exact absurd h (j _ _ _)
 | loop a g =>
  intro T H e d H' h
  simp only [cK] at h
  simp only [aZ]
  exact al3 g _ _ _ _ _ _ h
 | scope a g =>
  intro T H e d H' h
  simp only [cK] at h
  simp only [aZ]
  split at h
  ·cases h
  ·rename_i j
   rw [g _ _ _ _ _ h]
   cases e <;> first | rfl | exact absurd h (j _ _ _)
theorem afl {e : dZ} {pc : fj} {m : Nat} {rd : Bool} {c : Code} {ac : ACode} (hc : ∀ T H x b H', aZ e m rd ac T H = some (x, b, H') → nK P rd c T H x b H')
  (hp : ∀ T H v b H', cK e pc m rd ac T H = some (.pan v, b, H') → akc P rd c T H v b H') :
  ∀ (k : Nat) (T : Tm) (H : Heap) (v : AV) (b : Tm) (H' : Heap), jK (cK e pc m rd ac) k T H = some (.pan v, b, H') →
  ∀ (fence : Fence) (n : Nat) (B : Nat × List Deferred) (μ : Mu) (F : Nat → Prop) (w : World) (a : Act) (Q : Exit → Act → World → Prop), FenceOK fence rd → B.1 ≤ w.heap.size → StR P B μ F H w T a →
  (∀ d w' μ' u, VR μ' F w' v u → StR P B μ' F H' w' b d → Stp fB P μ F H w μ' F H' w' → Q (.panic [{ v := u, recovered := false }]) d w') → Code.roundsIn fence n P c Q k a w
 | 0, T, H, v, b, H', h => by cases h
 | k + 1, T, H, v, b, H', h => by
  intro fence n B μ F w a Q hF f l j
  simp only [jK] at h
  rw [roundsIn_succ]
  split at h
  ·rename_i o H1 h1
   refine hc T H _ _ _ (CI _ _ _ _ _ _ h1) fence n B μ F w a _ hF f l fun d w' μ' g hst => ?_
   exact afl hc hp k o H1 v b H' h fence n B μ' F w' d Q hF (Nat.le_trans f hst.size) g fun a2 w2 μ2 u i p q => j a2 w2 μ2 u i p (hst.trans q)
  ·exact hp T H _ _ _ h fence n B μ F w a _ hF f l fun d w' μ' u i g hst => j d w' μ' u i g hst
theorem adi {A : dZ} {pc : fj} (M : dQ P A) (R : tY P pc) (L : P.follows .mixedOrders = true) {m : Nat} {rd : Bool} : ∀ (c : Code) (ac : ACode), bB P c = some ac → ∀ (T : Tm) (H : Heap) (v : AV) (d : Tm) (H' : Heap), cK A pc m rd ac T H = some (.pan v, d, H') → akc P rd c T H v d H' := by
 intro c
 have other : ∀ (ac : ACode) (T : Tm) (H : Heap) (v : AV) (d : Tm) (H' : Heap), (match aZ A m rd ac T H with | some (x, d, H') => some (Xx.ex x, d, H') | none => none) = some (.pan v, d, H') → False := by
  intro ac T H v d H' h
  split at h <;> cases h
 induction c with
 | skip => intro ac hc T H v d H' h; cases hc; exact (other .skip _ _ _ _ _ h).elim
 | label l => intro ac hc T H v d H' h; cases hc; simp [cK, aZ] at h
 | exit id => intro ac hc T H v d H' h; cases hc; exact (other (.exit id) _ _ _ _ _ h).elim
 | goto l => intro ac hc T H v d H' h; cases hc; exact (other (.goto l) _ _ _ _ _ h).elim
 | ret => intro ac hc T H v d H' h; cases hc; exact (other .ret _ _ _ _ _ h).elim
 | refuse al => intro ac hc T H v d H' h; cases hc; exact (other kg _ _ _ _ _ h).elim
 | rangeFunc g ps af body _ _ =>
  intro ac hc T H v d H' h
  simp only [bB, Option.bind_eq_bind, bN] at hc
  obtain ⟨_, _, _, _, _, _, hc⟩ := hc
  cases hc; exact (other (.rangeFunc _ _ _ _) _ _ _ _ _ h).elim
 | scope b ih =>
  intro ac hc T H v d H' h fence n B μ F w a Q hF r f k
  simp only [bB, Option.bind_eq_bind, bN] at hc
  obtain ⟨t, hb, hc⟩ := hc
  cases hc
  have X : cK A pc m rd t T H = some (.pan v, d, H') → (Code.scope b).wpIn fence n P Q a w := by
   intro h
   refine ag4 ?_
   exact ih t hb T H _ _ _ h fence n B μ F w a _ hF r f fun q w' μ' u z y hst => k q w' μ' u z y hst
  have W : cK A pc m rd (.scope t) T H = some (.pan v, d, H') → (Code.scope b).wpIn fence n P Q a w := by
   intro h
   simp only [cK] at h
   split at h
   ·cases h
   exact X h
  unfold Xw at h
  split at h
  ·split at h
   ·simp only [cK] at h
    split at h
    ·exact (other (.scopeL _ _ _) _ _ _ _ _ h).elim
    ·exact X h
   ·exact W h
  ·exact W h
 | region id ops draw =>
  intro ac hc T H v d H' h fence n B μ F w a Q hF r f k
  simp only [bB] at hc
  cases draw with
  | true =>
   simp only [if_true] at hc
   split at hc
   ·rename_i p I
    obtain ⟨ds, late⟩ := p
    cases hc
    simp only [cK] at h
    split at h
    rotate_left
    ·split at h <;> cases h
    rename_i Y K H1 O
    cases h
    obtain ⟨l, G, hlen, -⟩ := afo I
    refine agj R L hF G (fun S J _ _ _ i o hi ho _ => ?_) O f.hT f.hH fun q w' μ' u hd hv E C hst => k q w' μ' u hv ⟨E, C, hd ▸ f.hD.stp hst⟩ hst
    have := (Array.getElem?_eq_some_iff.1 ho).1
    omega
   ·split at hc
    ·rename_i p I
     obtain ⟨ds, late, last, mid⟩ := p
     cases hc
     simp only [cK] at h
     split at h
     rotate_left
     ·split at h <;> cases h
     rename_i Y K H1 O
     cases h
     obtain ⟨l, o, pl, D⟩ := ahp I
     refine agj R L hF D.hG (fun S J ab hm f i o' hi ho hb => ?_) O f.hT f.hH fun q w' μ' u hd hv E C hst => k q w' μ' u hv ⟨E, C, hd ▸ f.hD.stp hst⟩ hst
     have ah := (Array.getElem?_eq_some_iff.1 ho).1
     have hl := D.hlen
     have hil : i = l.length := by omega
     subst hil
     rw [D.hoi] at ho; cases ho
     obtain ⟨j, hj, hh⟩ := D.hpl J (D.hact0 J ab hm)
     rcases hh with rfl | hh
     ·exact hb _ hj
     ·exact f j (D.hbl j hj) (hb j hj) J hh
    ·cases hc; exact (other kg _ _ _ _ _ h).elim
  | false =>
   simp only [Bool.false_eq_true, if_false, Option.map_eq_some_iff] at hc
   obtain ⟨rs, I, rfl⟩ := hc
   simp only [cK] at h
   split at h
   ·cases h
   ·rename_i Y K H1 hx
    cases h
    exact ahv M R hF I (afx _ _ _ _ _ _ _ hx) f.hT f.hH fun q w' μ' u hd hv E C hst => k q w' μ' u hv ⟨E, C, hd ▸ f.hD.stp hst⟩ hst
   ·cases h
 | seq c1 c2 U V =>
  intro ac hc T H v d H' h
  have plain : ∀ a1 a2, bB P c1 = some a1 → bB P c2 = some a2 → cK A pc m rd (.seq a1 a2) T H = some (.pan v, d, H') → akc P rd (.seq c1 c2) T H v d H' := by
   intro a1 a2 h1 h2 h fence n B μ F w a Q hF r f k
   simp only [cK] at h
   refine wpIn_seq ?_
   split at h
   ·rename_i K H1 ad
    refine uD M L c1 a1 h1 T H _ _ _ (CI _ _ _ _ _ _ ad) fence n B μ F w a _ hF r f fun q w' μ' y hst => ?_
    exact V a2 h2 K H1 _ _ _ h fence n B μ' F w' q Q hF (Nat.le_trans r hst.size) y fun a2 w2 μ2 u z aa ae => k a2 w2 μ2 u z aa (hst.trans ae)
   ·exact U a1 h1 T H _ _ _ h fence n B μ F w a _ hF r f fun q w' μ' u z y hst => k q w' μ' u z y hst
  rcases YK (P := P) c1 c2 with ⟨J, ai, bid, i1, aj, ex, ag, bid2, i2, ak, rest, rfl, rfl⟩ | he
  ·simp only [bB] at hc
   split at hc
   ·split at hc
    ·simp only [Option.bind_eq_bind, bN] at hc
     obtain ⟨_, _, _, _, _, _, _, _, hc⟩ := hc
     cases hc; exact (other (.rangeM _ _ _ _ _ _ _ _ _ _ _) _ _ _ _ _ h).elim
    ·cases hc; exact (other kg _ _ _ _ _ h).elim
   ·simp only [Option.bind_eq_bind, bN] at hc
    obtain ⟨a1, h1, a2, h2, hc⟩ := hc
    cases hc
    exact plain a1 a2 (by simp only [bB]; exact h1) (by simp only [bB, Option.bind_eq_bind, bN]; exact h2) h
  ·rw [he] at hc
   simp only [Option.bind_eq_bind, bN] at hc
   obtain ⟨a1, h1, a2, h2, hc⟩ := hc
   cases hc
   exact plain a1 a2 h1 h2 h
 | cond c c1 c2 U V =>
  intro ac hc T H v d H' h fence n B μ F w a Q hF r f k
  simp only [bB, Option.bind_eq_bind, bN] at hc
  obtain ⟨s, hs, a1, h1, a2, h2, hc⟩ := hc
  cases hc
  simp only [cK] at h
  have hv := fw f.hT hs
  split at h
  ·rename_i e
   rw [e] at hv
   generalize N : a.eval c = Z at hv
   cases hv
   exact wpIn_cond_true N (U a1 h1 T H _ _ _ h fence n B μ F w a Q hF r f k)
  ·rename_i e
   rw [e] at hv
   generalize N : a.eval c = Z at hv
   cases hv
   exact wpIn_cond_false N (V a2 h2 T H _ _ _ h fence n B μ F w a Q hF r f k)
  ·cases h
 | block id b ih =>
  intro ac hc T H v d H' h fence n B μ F w a Q hF r f k
  simp only [bB, Option.bind_eq_bind, bN] at hc
  obtain ⟨t, hb, hc⟩ := hc
  cases hc
  simp only [cK] at h
  refine wpIn_block ?_
  split at h
  ·split at h <;> cases h
  exact ih t hb T H _ _ _ h fence n B μ F w a _ hF r f fun q w' μ' u z y hst => k q w' μ' u z y hst
 | loop b ih =>
  intro ac hc T H v d H' h fence n B μ F w a Q hF r f k
  simp only [bB, Option.bind_eq_bind, bN] at hc
  obtain ⟨t, hb, hc⟩ := hc
  cases hc
  simp only [cK] at h
  exact wpIn_loop_rounds m (afl (fun T H x d H' hr => uD M L b t hb T H x d H' hr) (fun T H v d H' hr => ih t hb T H v d H' hr) m T H v d H' h fence n B μ F w a Q hF r f k)
end
end Go.Proofs.YtopigipibioclaaGreatDoor.Ev
