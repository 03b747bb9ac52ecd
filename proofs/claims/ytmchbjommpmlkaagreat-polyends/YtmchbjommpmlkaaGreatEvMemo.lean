/-
  A GREAT RUN, CUT: a call whose answer has been shown on a small heap is taken from a table.
-/
import Derived.Test.YtmchbjommpmlkaaGreatEvExt
namespace Go.Proofs.YtmchbjommpmlkaaGreat.Ev
open Go
set_option linter.all false

/-- A call that has been run: at which number of the next block, on which blocks ('same': they stay as they are; 'turn': they are turned, or gone), and what comes of it. -/
structure ME where
  key : Nat
  nxt : Nat
  f : Nat
  args : List AV
  same : List (Nat × Ent)
  turn : List (Nat × Ent)
  out : List (Nat × Ent)
  v : AV

def Ent.beq : Ent → Ent → Bool
  | .cells a t r, .cells b u q => AV.beqs a b && (Nat.beq t u && (r == q))
  | .map a, .map b => AV.beqs (a.map (·.1)) (b.map (·.1)) && AV.beqs (a.map (·.2)) (b.map (·.2))
  | _, _ => false

theorem pairs_eq : ∀ (a b : List (AV × AV)), a.map (·.1) = b.map (·.1) → a.map (·.2) = b.map (·.2) → a = b
  | [], [], _, _ => rfl
  | [], _ :: _, h, _ => by simp at h
  | _ :: _, [], h, _ => by simp at h
  | (x, y) :: a, (x', y') :: b, h1, h2 => by
    simp only [List.map_cons, List.cons.injEq] at h1 h2
    rw [pairs_eq a b h1.2 h2.2, h1.1, h2.1]

theorem Ent.beq_eq {a b : Ent} (h : Ent.beq a b = true) : a = b := by
  cases a <;> cases b <;> simp only [Ent.beq, Bool.and_eq_true] at h <;> first | (cases h; done) | skip
  · obtain ⟨h1, h2, h3⟩ := h
    rw [AV.beqs_eq _ _ h1, Nat.eq_of_beq_eq_true h2, eq_of_beq h3]
  · rw [pairs_eq _ _ (AV.beqs_eq _ _ h.1) (AV.beqs_eq _ _ h.2)]

def putsH (l : List (Nat × Ent)) (H : Heap) : Heap := l.foldl (fun H p => H.put p.1 p.2) H
def killsH (l : List (Nat × Ent)) (H : Heap) : Heap := l.foldl (fun H p => H.kill p.1) H
def hasH (H : Heap) (l : List (Nat × Ent)) : Bool := l.all fun p => match H.get p.1 with | some e => Ent.beq e p.2 | none => false
def ME.start (e : ME) : Heap := putsH e.turn (putsH e.same ⟨e.key, Tr.nil⟩)
def ME.after (e : ME) (H : Heap) : Heap := { putsH e.out (killsH e.turn H) with next := e.nxt }
def ME.fits (e : ME) (f : Nat) (args : List AV) (H : Heap) : Bool := Nat.beq H.next e.key && (Nat.beq f e.f && (AV.beqs args e.args && (hasH H e.same && hasH H e.turn)))
/-- What is to be shown of it. -/
def ME.told (e : ME) (v : AV) (H : Heap) : Bool := AV.beq v e.v && (Nat.beq H.next e.nxt && (hasH H e.same && hasH H e.out))

abbrev MT := Nat → Option ME

def memoA (M : MT) (c : Cal) : Cal := fun t H => match t with
  | .fn f args => match M H.next with
    | some e => if e.fits f args H = true then some (e.v, e.after H) else none
    | none => c t H
  | t => c t H

def runAM (tab : Nat → Option AFn) (M : MT) (m : Nat) : Nat → Cal
  | 0 => fun _ _ => none
  | n + 1 => memoA M (runA1 tab (runAM tab M m n) m)

/-- It has been run. -/
def ME.Valid (P : Program) (e : ME) : Prop := ∃ cal D', CalOK P cal ∧ cal (.fn e.f e.args) e.start = some (e.v, D') ∧ D'.next = e.nxt ∧ (∀ p ∈ e.same, D'.get p.1 = some p.2) ∧ ∀ p ∈ e.out, D'.get p.1 = some p.2

theorem putsH_get : ∀ (l : List (Nat × Ent)) (H : Heap) (b : Nat) (x : Ent), (putsH l H).get b = some x → (b, x) ∈ l ∨ ((∀ p ∈ l, p.1 ≠ b) ∧ H.get b = some x)
  | [], H, b, x, h => .inr ⟨fun p hp => (by cases hp), h⟩
  | p :: l, H, b, x, h => by
    have h : (putsH l (H.put p.1 p.2)).get b = some x := h
    rcases putsH_get l _ b x h with h | ⟨h1, h⟩
    · exact .inl (List.mem_cons_of_mem _ h)
    · rw [Heap.get_put] at h
      by_cases e : b = p.1
      · rw [if_pos e] at h
        cases h
        subst e
        exact .inl (List.mem_cons_self ..)
      · rw [if_neg e] at h
        refine .inr ⟨fun q hq => ?_, h⟩
        rcases List.mem_cons.1 hq with rfl | hq
        · exact fun e' => e e'.symm
        · exact h1 q hq

theorem putsH_next : ∀ (l : List (Nat × Ent)) (H : Heap), (putsH l H).next = H.next
  | [], H => rfl
  | p :: l, H => by
    have : putsH (p :: l) H = putsH l (H.put p.1 p.2) := rfl
    rw [this, putsH_next l]; rfl

theorem putsH_has : ∀ (l : List (Nat × Ent)) (H : Heap) (b : Nat), (∃ p ∈ l, p.1 = b) ∨ (∃ x, H.get b = some x) → ∃ x, (putsH l H).get b = some x
  | [], H, b, h => by
    rcases h with ⟨p, hp, _⟩ | h
    · cases hp
    · exact h
  | p :: l, H, b, h => by
    have e : putsH (p :: l) H = putsH l (H.put p.1 p.2) := rfl
    rw [e]
    refine putsH_has l _ b ?_
    by_cases hb : b = p.1
    · exact .inr ⟨p.2, by rw [Heap.get_put, if_pos hb]⟩
    · rcases h with ⟨q, hq, hq2⟩ | ⟨x, hx⟩
      · rcases List.mem_cons.1 hq with rfl | hq
        · exact absurd hq2.symm hb
        · exact .inl ⟨q, hq, hq2⟩
      · exact .inr ⟨x, by rw [Heap.get_put, if_neg hb]; exact hx⟩

theorem killsH_get : ∀ (l : List (Nat × Ent)) (H : Heap) (b : Nat) (x : Ent), (killsH l H).get b = some x → (∀ p ∈ l, p.1 ≠ b) ∧ H.get b = some x
  | [], H, b, x, h => ⟨fun p hp => (by cases hp), h⟩
  | p :: l, H, b, x, h => by
    have h : (killsH l (H.kill p.1)).get b = some x := h
    obtain ⟨h1, h2⟩ := killsH_get l _ b x h
    rw [Heap.get_kill] at h2
    by_cases e : b = p.1
    · rw [if_pos e] at h2; cases h2
    · rw [if_neg e] at h2
      refine ⟨fun q hq => ?_, h2⟩
      rcases List.mem_cons.1 hq with rfl | hq
      · exact fun e' => e e'.symm
      · exact h1 q hq

theorem hasH_at {H : Heap} {l : List (Nat × Ent)} (h : hasH H l = true) : ∀ p ∈ l, H.get p.1 = some p.2 := by
  intro p hp
  have := List.all_eq_true.1 h p hp
  split at this
  · rename_i e he
    rw [he, Ent.beq_eq this]
  · cases this

theorem Done.sub {P : Program} {μ μ' : Mu} {F : Nat → Prop} {A D D' A' : Heap} {w w' : World} {v : AV} {u : Value} (hH : HR P μ F A w) (hsub : ∀ b e, D.get b = some e → A.get b = some e) (hnx : D.next = A.next)
    (hd : Done NoI P μ F D w v D' u w' μ') (hn' : A'.next = D'.next) (h' : ∀ b e, A'.get b = some e → D'.get b = some e ∨ (D.get b = none ∧ A.get b = some e)) : Done NoI P μ F A w v A' u w' μ' := by
  obtain ⟨h1, h2, h3⟩ := hd
  obtain ⟨k1, k2⟩ := sub_step hH hsub hnx h2 h3 hn' h'
  exact ⟨h1, k1, k2⟩

theorem memoA_sound {P : Program} {M : MT} {c : Cal} (hc : CalOK P c) (hM : ∀ k e, M k = some e → e.Valid P) : CalOK P (memoA M c) := by
  intro t H v H' h μ F w vs fence rd n hF hH hl hr
  cases t with
  | round b args => exact hc _ _ _ _ h μ F w vs fence rd n hF hH hl hr
  | ent f args => exact hc _ _ _ _ h μ F w vs fence rd n hF hH hl hr
  | fn f args =>
    simp only [memoA] at h
    cases hm : M H.next with
    | none => rw [hm] at h; exact hc _ _ _ _ h μ F w vs fence rd n hF hH hl hr
    | some e =>
      rw [hm] at h
      simp only at h
      split at h
      · rename_i hfit
        cases h
        simp only [ME.fits, Bool.and_eq_true] at hfit
        obtain ⟨f1, f2, f3, f4, f5⟩ := hfit
        have f1 := Nat.eq_of_beq_eq_true f1
        have f2 := Nat.eq_of_beq_eq_true f2
        have f3 := AV.beqs_eq _ _ f3
        have f4 := hasH_at f4
        have f5 := hasH_at f5
        subst f2
        subst f3
        obtain ⟨cal, D', g1, g2, g3, g4, g5⟩ := hM _ _ hm
        have hsub : ∀ b x, e.start.get b = some x → H.get b = some x := by
          intro b x hx
          rcases putsH_get _ _ _ _ hx with hx | ⟨-, hx⟩
          · exact f5 _ hx
          · rcases putsH_get _ _ _ _ hx with hx | ⟨-, hx⟩
            · exact f4 _ hx
            · have : Heap.get ⟨0, Tr.nil⟩ b = some x := hx
              rw [Tr.nil_get] at this; cases this
        have hnx : e.start.next = H.next := by
          unfold ME.start
          rw [putsH_next, putsH_next]; exact f1.symm
        obtain ⟨k1, k2⟩ := g1 _ _ _ _ g2 μ F w vs fence rd n hF (hH.sub hsub hnx) hl (fun b args h => (by cases h))
        refine ⟨fun f' args' h => (by cases h), k2.mono fun u w' ⟨μ', hd⟩ => ⟨μ', hd.sub hH hsub hnx ?_ ?_⟩⟩
        · exact g3.symm
        · intro b x hx
          have hx : (putsH e.out (killsH e.turn H)).get b = some x := hx
          rcases putsH_get _ _ _ _ hx with hx | ⟨-, hx⟩
          · exact .inl (g5 _ hx)
          · obtain ⟨k3, k4⟩ := killsH_get _ _ _ _ hx
            cases hs : e.start.get b with
            | none => exact .inr ⟨rfl, k4⟩
            | some y =>
              left
              have hy := hsub _ _ hs
              rw [k4] at hy
              cases hy
              rcases putsH_get _ _ _ _ hs with hs | ⟨-, hs⟩
              · exact absurd rfl (k3 _ hs)
              · rcases putsH_get _ _ _ _ hs with hs | ⟨-, hs⟩
                · exact g4 _ hs
                · have : Heap.get ⟨0, Tr.nil⟩ b = some x := hs
                  rw [Tr.nil_get] at this; cases this
      · cases h

theorem runAM_sound {P : Program} {tab : Nat → Option AFn} {M : MT} {m : Nat} (hmix : P.follows .mixedOrders = true) (htab : TabOK P tab) (hM : ∀ k e, M k = some e → e.Valid P) : ∀ n, CalOK P (runAM tab M m n)
  | 0 => fun t H v H' h => by cases h
  | n + 1 => memoA_sound (runA1_sound hmix htab (runAM_sound hmix htab hM n)) hM

/-! ### The fast side -/

noncomputable section
def memoK (e : ME) (f : Nat) (args : List AV) (H : Heap) (k : KV) : R := @Bool.rec (fun _ => R) none (k e.v (e.after H)) (e.fits f args H)

def fcalM (tab : Nat → Option AFn) (ftab : Nat → Option FFn) (M : MT) (m : Nat) : Nat → CalK :=
  @Nat.rec (fun _ => CalK) (fun _ _ _ => none) fun n ih t H k => match t with
    | .fn f args => @Option.rec ME (fun _ => R) (@Option.rec FFn (fun _ => R) (optK (runA1 tab (calD ih) m (.fn f args) H) fun r => prK r k) (fun fn => runFF fn ih args H k) (ftab f)) (fun e => memoK e f args H k) (M H.next)
    | .ent f args => @Option.rec FFn (fun _ => R) (optK (runA1 tab (calD ih) m (.ent f args) H) fun r => prK r k) (fun fn => runFF fn ih args H k) (ftab f)
    | t => optK (runA1 tab (calD ih) m t H) fun r => prK r k
end

theorem fcalM_rel {tab : Nat → Option AFn} {ftab : Nat → Option FFn} {M : MT} {m : Nat} (hft : FTabOK tab ftab m) : ∀ k, CalRel (fcalM tab ftab M m k) (runAM tab M m k)
  | 0 => fun t H k r h => by cases h
  | j + 1 => by
    have ih := fcalM_rel (M := M) hft j
    intro t H k r hr
    have slow : ∀ t, optK (runA1 tab (calD (fcalM tab ftab M m j)) m t H) (fun r => prK r k) = some r → ∃ v H', runA1 tab (runAM tab M m j) m t H = some (v, H') ∧ k v H' = some r := by
      intro t h
      obtain ⟨⟨v, H'⟩, h1, h2⟩ := optK_some h
      exact ⟨v, H', runA1_mono (fun tk H r hr => calD_rel ih hr) h1, h2⟩
    cases t with
    | round b args => exact slow _ hr
    | fn f args =>
      have e0 : fcalM tab ftab M m (j + 1) (.fn f args) H k = @Option.rec ME (fun _ => R) (@Option.rec FFn (fun _ => R) (optK (runA1 tab (calD (fcalM tab ftab M m j)) m (.fn f args) H) fun r => prK r k) (fun fn => runFF fn (fcalM tab ftab M m j) args H k) (ftab f)) (fun e => memoK e f args H k) (M H.next) := rfl
      rw [e0] at hr
      cases hm : M H.next with
      | some e =>
        rw [hm] at hr
        obtain ⟨h1, h2⟩ := boolK_some hr
        exact ⟨e.v, e.after H, by simp only [runAM, memoA, hm, h1, if_true], h2⟩
      | none =>
        rw [hm] at hr
        have e1 : runAM tab M m (j + 1) (.fn f args) H = runA1 tab (runAM tab M m j) m (.fn f args) H := by simp only [runAM, memoA, hm]
        rw [e1]
        cases hf : ftab f with
        | none => rw [hf] at hr; exact slow _ hr
        | some fn =>
          rw [hf] at hr
          obtain ⟨afn, a1, a2, a3, a4, a5, a6, a7, a8⟩ := hft f fn hf
          obtain ⟨v, H', h1, h2⟩ := runFF_ok ih a3 a5 a6 a7 a8 hr
          exact ⟨v, H', by simp only [runA1, a1, a2]; exact h1, h2⟩
    | ent f args =>
      have e0 : fcalM tab ftab M m (j + 1) (.ent f args) H k = @Option.rec FFn (fun _ => R) (optK (runA1 tab (calD (fcalM tab ftab M m j)) m (.ent f args) H) fun r => prK r k) (fun fn => runFF fn (fcalM tab ftab M m j) args H k) (ftab f) := rfl
      rw [e0] at hr
      cases hf : ftab f with
      | none => rw [hf] at hr; exact slow _ hr
      | some fn =>
        rw [hf] at hr
        obtain ⟨afn, a1, a2, a3, a4, a5, a6, a7, a8⟩ := hft f fn hf
        obtain ⟨v, H', h1, h2⟩ := runFF_ok ih a3 a5 a6 a7 a8 hr
        exact ⟨v, H', by simp only [runAM, memoA, runA1, a1, a2]; exact h1, h2⟩

/-! ### Tables of such calls -/

inductive MTree where
  | leaf
  | node (l : MTree) (k i : Nat) (r : MTree)

noncomputable section
def MTree.find (t : MTree) : Nat → Option Nat := @MTree.rec (fun _ => Nat → Option Nat) (fun _ => none) (fun _ k i _ fl fr n => @Bool.rec (fun _ => Option Nat) (@Bool.rec (fun _ => Option Nat) (fr n) (some i) (Nat.beq n k)) (fl n) (Nat.ble (Nat.succ n) k)) t
def nthM (L : List ME) : Nat → Option ME := @List.rec ME (fun _ => Nat → Option ME) (fun _ => none) (fun a _ ih n => @Nat.rec (fun _ => Option ME) (some a) (fun m _ => ih m) n) L
/-- The entries below a bound. -/
def mtab (L : List ME) (t : MTree) (bound : Nat) : MT := fun n => @Option.rec Nat (fun _ => Option ME) none (fun i => @Bool.rec (fun _ => Option ME) none (nthM L i) (Nat.ble (Nat.succ i) bound)) (t.find n)
def toldK (e : ME) (v : AV) (H : Heap) : R := @Bool.rec (fun _ => R) none (some (.bool true, H)) (e.told v H)
def isSm (r : R) : Bool := @Option.rec (AV × Heap) (fun _ => Bool) false (fun _ => true) r
end

theorem nthM_eq : ∀ (L : List ME) (n : Nat), nthM L n = L[n]?
  | [], n => rfl
  | a :: l, 0 => rfl
  | a :: l, n + 1 => by show nthM l n = _; rw [nthM_eq l n]; simp

theorem mtab_some {L : List ME} {t : MTree} {bound n : Nat} {e : ME} (h : mtab L t bound n = some e) : ∃ i, i < bound ∧ L[i]? = some e := by
  unfold mtab at h
  cases hf : t.find n with
  | none => rw [hf] at h; cases h
  | some i =>
    rw [hf] at h
    cases hb : Nat.ble (Nat.succ i) bound with
    | false => simp only [hb] at h; cases h
    | true =>
      simp only [hb] at h
      rw [nthM_eq] at h
      exact ⟨i, Nat.le_of_ble_eq_true hb, h⟩

/-- All entries below a bound have been run. -/
def AllV (P : Program) (L : List ME) (bound : Nat) : Prop := ∀ i e, i < bound → L[i]? = some e → e.Valid P

theorem AllV.zero {P : Program} {L : List ME} : AllV P L 0 := fun i e h => absurd h (Nat.not_lt_zero _)

theorem AllV.next {P : Program} {L : List ME} {t : MTree} {b : Nat} {tab : Nat → Option AFn} {ftab : Nat → Option FFn} {m k : Nat} (h : AllV P L b) (hmix : P.follows .mixedOrders = true) (htab : TabOK P tab) (hft : FTabOK tab ftab m)
    (e : ME) (he : L[b]? = some e) (hrun : isSm (fcalM tab ftab (mtab L t b) m k (.fn e.f e.args) e.start (toldK e)) = true) : AllV P L (b + 1) := by
  intro i e' hi he'
  by_cases hib : i < b
  · exact h i e' hib he'
  · have : i = b := by omega
    subst this
    rw [he] at he'
    cases he'
    cases hr : fcalM tab ftab (mtab L t i) m k (.fn e.f e.args) e.start (toldK e) with
    | none => rw [hr] at hrun; cases hrun
    | some r =>
      obtain ⟨v, D', h1, h2⟩ := fcalM_rel hft k _ _ _ _ hr
      obtain ⟨h3, -⟩ := boolK_some h2
      simp only [ME.told, Bool.and_eq_true] at h3
      obtain ⟨g1, g2, g3, g4⟩ := h3
      have g1 := AV.beq_eq _ _ g1
      subst g1
      exact ⟨_, D', runAM_sound hmix htab (fun k e h' => by obtain ⟨j, hj, hL⟩ := mtab_some h'; exact h j e hj hL) k, h1, Nat.eq_of_beq_eq_true g2, hasH_at g3, hasH_at g4⟩

theorem closed_calls_args {P : Program} (hmix : P.follows .mixedOrders = true) {tab : Nat → Option AFn} {ftab : Nat → Option FFn} {m k f : Nat} (ht : TabOK P tab) (hft : FTabOK tab ftab m) {L : List ME} {t : MTree} {bound : Nat} (hV : AllV P L bound)
    {afn : AFn} (haf : tab f = some afn) (hext : afn.ext = none) (hno : (mtab L t bound 0).isNone = true) {args : List AV} {vs : List Value} (hl : ∀ w, LR (fun _ => none) (fun _ => False) w args vs) {b : Bool} {H' : Heap} (hrun : fcalM tab ftab (mtab L t bound) m (k + 1) (.fn f args) ⟨0, Tr.nil⟩ (fun v H => some (v, H)) = some (.bool b, H')) (w : World) :
    Calls P f vs.toArray w fun e w' => e = .returned (.bool b) ∧ w'.os = w.os ∧ w'.output = w.output ∧ w.heap.size ≤ w'.heap.size ∧ ∀ c, c < w.heap.size → w'.heap[c]? = w.heap[c]? := by
  obtain ⟨v, H1, h1, h2⟩ := fcalM_rel hft (k + 1) _ _ _ _ hrun
  cases h2
  have hno : mtab L t bound 0 = none := by simpa using hno
  simp only [runAM, memoA, hno, runA1, haf, hext] at h1
  obtain ⟨-, ht2⟩ := ht f afn haf
  obtain ⟨fn, hfn, hc⟩ := ht2 hext
  obtain ⟨c1, c2, c3, c4, -⟩ := cFn_inv hc hext
  have hH : HR P (fun _ => none) (fun _ => False) ⟨0, Tr.nil⟩ w := by
    refine ⟨fun b L h => (by cases h), fun c h => h.elim, fun b e h => ?_, fun b b' e e' L L' h => ?_⟩
    · rw [Tr.nil_get] at h; cases h
    · rw [Tr.nil_get] at h; cases h
  have hM : ∀ k e, mtab L t bound k = some e → e.Valid P := fun k e h' => by obtain ⟨j, hj, hL⟩ := mtab_some h'; exact hV j e hj hL
  have hin := runFn_sound (runAM_sound hmix ht hM k) hmix hfn c1 c2 c3 c4 h1 (vs := vs) (hl w) hH 0 (fence := Fence.wide) (rd := false) (.inl ⟨rfl, rfl⟩)
  refine (hin.calls fun k => room_wide k).mono fun e w' ⟨u, he, μ', hv, _, hS⟩ => ?_
  cases hv
  refine ⟨he, hS.os, hS.out, hS.size, fun c hc => hS.keep c hc fun b L ⟨e, h, _⟩ => ?_⟩
  rw [Tr.nil_get] at h; cases h

theorem closed_calls_memo {P : Program} (hmix : P.follows .mixedOrders = true) {tab : Nat → Option AFn} {ftab : Nat → Option FFn} {m k f : Nat} (ht : TabOK P tab) (hft : FTabOK tab ftab m) {L : List ME} {t : MTree} {bound : Nat} (hV : AllV P L bound)
    {afn : AFn} (haf : tab f = some afn) (hext : afn.ext = none) (hno : (mtab L t bound 0).isNone = true) {b : Bool} {H' : Heap} (hrun : fcalM tab ftab (mtab L t bound) m (k + 1) (.fn f []) ⟨0, Tr.nil⟩ (fun v H => some (v, H)) = some (.bool b, H')) (w : World) :
    Calls P f #[] w fun e w' => e = .returned (.bool b) ∧ w'.os = w.os ∧ w'.output = w.output ∧ w.heap.size ≤ w'.heap.size ∧ ∀ c, c < w.heap.size → w'.heap[c]? = w.heap[c]? :=
  closed_calls_args hmix ht hft hV haf hext hno (vs := []) (fun _ => LR.nil) hrun w

theorem closed_calls_int {P : Program} (hmix : P.follows .mixedOrders = true) {tab : Nat → Option AFn} {ftab : Nat → Option FFn} {m k f : Nat} (ht : TabOK P tab) (hft : FTabOK tab ftab m) {L : List ME} {t : MTree} {bound : Nat} (hV : AllV P L bound)
    {afn : AFn} (haf : tab f = some afn) (hext : afn.ext = none) (hno : (mtab L t bound 0).isNone = true) {x : Int} {b : Bool} {H' : Heap} (hrun : fcalM tab ftab (mtab L t bound) m (k + 1) (.fn f [.int .i64 x]) ⟨0, Tr.nil⟩ (fun v H => some (v, H)) = some (.bool b, H')) (w : World) :
    Calls P f #[.int .i64 x] w fun e w' => e = .returned (.bool b) ∧ w'.os = w.os ∧ w'.output = w.output ∧ w.heap.size ≤ w'.heap.size ∧ ∀ c, c < w.heap.size → w'.heap[c]? = w.heap[c]? :=
  closed_calls_args hmix ht hft hV haf hext hno (vs := [.int .i64 x]) (fun _ => LR.cons (.int _ _) LR.nil) hrun w

/-! ### A function's code, asked at once -/

noncomputable def AFn.view (m : Nat) (a : AFn) : Nat × Nat × List (Nat × Option (Option Nat)) × Bool × Bool × Comp := (a.nparams, a.ntmps, a.results, a.ext.isNone, Nat.ble a.ntmps 512 && Nat.ble a.nparams a.ntmps, den m false a.ntmps a.body)
def FFn.view (fn : FFn) : Nat × Nat × List (Nat × Option (Option Nat)) × Bool × Bool × Comp := (fn.nparams, fn.ntmps, fn.results, true, true, fn.body)

theorem both_good {P : Program} {f m : Nat} {fn : Func} {ffn : FFn} {tab : Nat → Option AFn} (hf : P.funcs[f]? = some fn) (h : (cFn P fn).map (AFn.view m) = some ffn.view) (ht : tab f = some ((cFn P fn).getD default)) :
    TGood P f ((cFn P fn).getD default) ∧ FGood tab m f ffn := by
  cases hc : cFn P fn with
  | none => rw [hc] at h; cases h
  | some a =>
    rw [hc] at h ht
    simp only [Option.map_some, AFn.view, FFn.view, Option.some.injEq, Prod.mk.injEq, Bool.and_eq_true] at h
    obtain ⟨h1, h2, h3, h4, ⟨h5, h6⟩, h7⟩ := h
    have he : a.ext = none := by simpa using h4
    refine ⟨tgood_of hf hc h4, a, ht, he, h1.symm, h2.symm, Nat.le_of_ble_eq_true h5, Nat.le_of_ble_eq_true h6, h3.symm, h7.symm⟩

theorem fgood_ext {tab : Nat → Option AFn} {m f : Nat} {ffn : FFn} {a : AFn} (h : FGood tab m f ffn) (ha : tab f = some a) : a.ext = none := by
  obtain ⟨b, h1, h2, -⟩ := h
  rw [ha] at h1
  cases h1
  exact h2

end Go.Proofs.YtmchbjommpmlkaaGreat.Ev
