/-
  A GREAT RUN, CUT: a call whose answer has been shown on a small heap is taken from a table.
-/
import Derived.Test.YtedembbgeljdkaaGreatDoorEvRen
namespace Go.Proofs.YtedembbgeljdkaaGreatDoor.Ev
open Go
set_option linter.all false

structure ME where
  key : Nat
  nxt : Nat
  f : Nat
  args : List AV
  same : List (Nat × Ent)
  turn : List (Nat × Ent)
  out : List (Nat × Ent)
  v : AV
  thr : Bool := false

def Ent.beq : Ent → Ent → Bool
  | .cells a t r, .cells b u q => AV.beqs a b && (Nat.beq t u && (r == q))
  | .map a, .map b => AV.beqs (a.map (·.1)) (b.map (·.1)) && AV.beqs (a.map (·.2)) (b.map (·.2))
  | .mapR a, .mapR b => AV.beqs (a.map (·.1)) (b.map (·.1)) && AV.beqs (a.map (·.2)) (b.map (·.2))
  | .siter s p, .siter t q => decide (s = t) && Nat.beq p q
  | _, _ => false

theorem pairs_eq : ∀ (a b : List (AV × AV)), a.map (·.1) = b.map (·.1) → a.map (·.2) = b.map (·.2) → a = b
  | [], [], _, _ => rfl
  | [], _ :: _, h, _ => by simp at h
  | _ :: _, [], h, _ => by simp at h
  | (x, y) :: a, (x', y') :: b, h1, h2 => by
    simp only [List.map_cons, List.cons.injEq] at h1 h2
    rw [pairs_eq a b h1.2 h2.2, h1.1, h2.1]

theorem Ent.beq_eq {a b : Ent} (h : Ent.beq a b = true) : a = b := by
  cases a <;> cases b <;> simp only [Ent.beq, Bool.and_eq_true] at h <;> first | (cases h; done) | skip
  · obtain ⟨h1, h2, h3⟩ := h
    rw [AV.beqs_eq _ _ h1, Nat.eq_of_beq_eq_true h2, eq_of_beq h3]
  · rw [pairs_eq _ _ (AV.beqs_eq _ _ h.1) (AV.beqs_eq _ _ h.2)]
  · rw [of_decide_eq_true h.1, Nat.eq_of_beq_eq_true h.2]
  · rw [pairs_eq _ _ (AV.beqs_eq _ _ h.1) (AV.beqs_eq _ _ h.2)]

def putsH (l : List (Nat × Ent)) (H : Heap) : Heap := l.foldl (fun H p => H.put p.1 p.2) H
def killsH (l : List (Nat × Ent)) (H : Heap) : Heap := l.foldl (fun H p => H.kill p.1) H
def hasH (H : Heap) (l : List (Nat × Ent)) : Bool := l.all fun p => match H.get p.1 with | some e => Ent.beq e p.2 | none => false
def ME.start (e : ME) : Heap := putsH e.turn (putsH e.same (Heap.nil e.key))
def nthN : List Nat → Nat → Nat
  | [], _ => 0
  | a :: l, n => Nat.casesOn (motive := fun _ => Nat) n a fun m => nthN l m
def sig (rs : List Nat) (key n : Nat) (b : Nat) : Nat := Bool.casesOn (motive := fun _ => Nat) (Nat.ble (Nat.succ b) key) (Nat.add n (Nat.sub b key)) (nthN rs b)
def nodupN : List Nat → Bool
  | [] => true
  | a :: l => l.all (fun b => !(Nat.beq a b)) && nodupN l
def rensE (σ : Nat → Nat) (l : List (Nat × Ent)) : List (Nat × Ent) := l.map fun p => (σ p.1, p.2.ren σ)
def hasR (σ : Nat → Nat) (H : Heap) (l : List (Nat × Ent)) : Bool := l.all fun p => match H.get (σ p.1) with | some e => Ent.beq e (p.2.ren σ) | none => false
def ME.sg (e : ME) (rs : List Nat) (H : Heap) : Nat → Nat := sig rs e.key H.next
def ME.after (e : ME) (rs : List Nat) (H : Heap) : Heap := { putsH (rensE (e.sg rs H) e.out) (killsH (rensE (e.sg rs H) e.turn) H) with next := Nat.add H.next (Nat.sub e.nxt e.key) }
def ME.fits (e : ME) (rs : List Nat) (f : Nat) (args : List AV) (H : Heap) : Bool :=
  Nat.beq f e.f && (Nat.beq rs.length e.key && (AV.beqs (AV.rens (e.sg rs H) e.args) args && (hasR (e.sg rs H) H e.same && (hasR (e.sg rs H) H e.turn && nodupN rs))))
def ME.val (e : ME) (rs : List Nat) (H : Heap) : AV := e.v.ren (e.sg rs H)
def ME.told (e : ME) (v : AV) (H : Heap) : Bool := AV.beq v e.v && (Nat.beq H.next e.nxt && (hasH H e.same && hasH H e.out))

abbrev MT := Nat → Option (ME × List Nat)

def memoA (M : MT) (c : Cal) : Cal := fun t H => match t with
  | .fn f args => match M H.next with
    | some (e, rs) => if e.fits rs f args H = true then some (e.val rs H, e.after rs H) else c t H
    | none => c t H
  | t => c t H

def memoP (M : MT) : PCal := fun t H => match t with
  | .fn f args => match M H.next with
    | some (e, rs) => if e.fits rs f args H = true then some (e.val rs H, e.after rs H) else none
    | none => none
  | _ => none

def runAM (tab : Nat → Option AFn) (pc : PCal) (M : MT) (m : Nat) : Nat → Cal
  | 0 => fun _ _ => none
  | n + 1 => memoA M (runA1 tab pc (runAM tab pc M m n) m)

def ME.Valid (P : Program) (e : ME) : Prop := ∃ D', (match e.thr with
    | false => ∃ cal, CalOK P cal ∧ cal (.fn e.f e.args) e.start = some (e.v, D')
    | true => ∀ (μ : Mu) (F : Nat → Prop) (w : World) (vs : List Value) (fence : Fence) (rd : Bool) (n : Nat), FenceOK fence rd → HR P μ F e.start w → LR μ F w e.args vs → RunsP fence n P ((callFunc e.f vs.toArray).run P w) fun u w' => ∃ μ', Done NoI P μ F e.start w e.v D' u w' μ') ∧ D'.next = e.nxt ∧ (∀ p ∈ e.same, D'.get p.1 = some p.2) ∧ ∀ p ∈ e.out, D'.get p.1 = some p.2

theorem putsH_get : ∀ (l : List (Nat × Ent)) (H : Heap) (b : Nat) (x : Ent), (putsH l H).get b = some x → (b, x) ∈ l ∨ ((∀ p ∈ l, p.1 ≠ b) ∧ H.get b = some x)
  | [], H, b, x, h => .inr ⟨fun p hp => (by cases hp), h⟩
  | p :: l, H, b, x, h => by
    have h : (putsH l (H.put p.1 p.2)).get b = some x := h
    rcases putsH_get l _ b x h with h | ⟨h1, h⟩
    · exact .inl (List.mem_cons_of_mem _ h)
    · rw [Heap.get_put] at h
      by_cases e : b = p.1
      · rw [if_pos e] at h
        cases h
        subst e
        exact .inl (List.mem_cons_self ..)
      · rw [if_neg e] at h
        refine .inr ⟨fun q hq => ?_, h⟩
        rcases List.mem_cons.1 hq with rfl | hq
        · exact fun e' => e e'.symm
        · exact h1 q hq

theorem putsH_next : ∀ (l : List (Nat × Ent)) (H : Heap), (putsH l H).next = H.next
  | [], H => rfl
  | p :: l, H => by
    have : putsH (p :: l) H = putsH l (H.put p.1 p.2) := rfl
    rw [this, putsH_next l]; rfl

theorem putsH_has : ∀ (l : List (Nat × Ent)) (H : Heap) (b : Nat), (∃ p ∈ l, p.1 = b) ∨ (∃ x, H.get b = some x) → ∃ x, (putsH l H).get b = some x
  | [], H, b, h => by
    rcases h with ⟨p, hp, _⟩ | h
    · cases hp
    · exact h
  | p :: l, H, b, h => by
    have e : putsH (p :: l) H = putsH l (H.put p.1 p.2) := rfl
    rw [e]
    refine putsH_has l _ b ?_
    by_cases hb : b = p.1
    · exact .inr ⟨p.2, by rw [Heap.get_put, if_pos hb]⟩
    · rcases h with ⟨q, hq, hq2⟩ | ⟨x, hx⟩
      · rcases List.mem_cons.1 hq with rfl | hq
        · exact absurd hq2.symm hb
        · exact .inl ⟨q, hq, hq2⟩
      · exact .inr ⟨x, by rw [Heap.get_put, if_neg hb]; exact hx⟩

theorem killsH_get : ∀ (l : List (Nat × Ent)) (H : Heap) (b : Nat) (x : Ent), (killsH l H).get b = some x → (∀ p ∈ l, p.1 ≠ b) ∧ H.get b = some x
  | [], H, b, x, h => ⟨fun p hp => (by cases hp), h⟩
  | p :: l, H, b, x, h => by
    have h : (killsH l (H.kill p.1)).get b = some x := h
    obtain ⟨h1, h2⟩ := killsH_get l _ b x h
    rw [Heap.get_kill] at h2
    by_cases e : b = p.1
    · rw [if_pos e] at h2; cases h2
    · rw [if_neg e] at h2
      refine ⟨fun q hq => ?_, h2⟩
      rcases List.mem_cons.1 hq with rfl | hq
      · exact fun e' => e e'.symm
      · exact h1 q hq

theorem hasH_at {H : Heap} {l : List (Nat × Ent)} (h : hasH H l = true) : ∀ p ∈ l, H.get p.1 = some p.2 := by
  intro p hp
  have := List.all_eq_true.1 h p hp
  split at this
  · rename_i e he
    rw [he, Ent.beq_eq this]
  · cases this

theorem hasR_at {σ : Nat → Nat} {H : Heap} {l : List (Nat × Ent)} (h : hasR σ H l = true) : ∀ p ∈ l, H.get (σ p.1) = some (p.2.ren σ) := by
  intro p hp
  have := List.all_eq_true.1 h p hp
  split at this
  · rename_i e he
    rw [he, Ent.beq_eq this]
  · cases this

theorem sig_high {rs : List Nat} {key n b : Nat} (h : key ≤ b) : sig rs key n b = n + (b - key) := by
  unfold sig
  rw [show Nat.ble (Nat.succ b) key = false from (by rw [ble_lt]; exact decide_eq_false (by omega))]
  rfl
theorem sig_low {rs : List Nat} {key n b : Nat} (h : b < key) : sig rs key n b = nthN rs b := by
  unfold sig
  rw [show Nat.ble (Nat.succ b) key = true from (by rw [ble_lt]; exact decide_eq_true h)]

theorem nthN_at : ∀ (l : List Nat) (i : Nat), i < l.length → l[i]? = some (nthN l i)
  | [], i, h => by simp at h
  | a :: l, 0, _ => rfl
  | a :: l, i + 1, h => by
    rw [List.getElem?_cons_succ, nthN_at l i (by simpa using h)]; rfl

theorem nodupN_inj : ∀ (l : List Nat), nodupN l = true → ∀ i j x : Nat, l[i]? = some x → l[j]? = some x → i = j
  | [], _, i, j, x, h, _ => by simp at h
  | a :: l, hn, i, j, x, hi, hj => by
    simp only [nodupN, Bool.and_eq_true] at hn
    have hna : ∀ k, l[k]? = some a → False := fun k hk => by
      have := List.all_eq_true.1 hn.1 a (List.mem_of_getElem? hk)
      rw [Nat.beq_refl] at this; cases this
    cases i with
    | zero =>
      cases j with
      | zero => rfl
      | succ j =>
        simp only [List.getElem?_cons_zero, Option.some.injEq] at hi
        subst hi
        exact (hna j (by simpa using hj)).elim
    | succ i =>
      cases j with
      | zero =>
        simp only [List.getElem?_cons_zero, Option.some.injEq] at hj
        subst hj
        exact (hna i (by simpa using hi)).elim
      | succ j => rw [nodupN_inj l hn.2 i j x (by simpa using hi) (by simpa using hj)]

theorem start_get {e : ME} {b : Nat} {x : Ent} (hx : e.start.get b = some x) : (b, x) ∈ e.turn ∨ (b, x) ∈ e.same := by
  rcases putsH_get _ _ _ _ hx with hx | ⟨-, hx⟩
  · exact .inl hx
  · rcases putsH_get _ _ _ _ hx with hx | ⟨-, hx⟩
    · exact .inr hx
    · rw [Tr.nil_get] at hx; cases hx
theorem start_next (e : ME) : e.start.next = e.key := by
  unfold ME.start
  rw [putsH_next, putsH_next]; rfl

theorem ME.fits_inv {e : ME} {rs : List Nat} {f : Nat} {args : List AV} {H : Heap} (hfit : e.fits rs f args H = true) : e.f = f ∧ AV.rens (e.sg rs H) e.args = args ∧ Lies (e.sg rs H) e.start H ∧ (∀ p ∈ e.same, H.get (e.sg rs H p.1) = some (p.2.ren (e.sg rs H))) := by
  simp only [ME.fits, Bool.and_eq_true] at hfit
  obtain ⟨f1, f2, f3, f4, f5, f6⟩ := hfit
  have f1 := Nat.eq_of_beq_eq_true f1
  have f2 := Nat.eq_of_beq_eq_true f2
  have f3 := AV.beqs_eq _ _ f3
  have f4 := hasR_at f4
  have f5 := hasR_at f5
  refine ⟨f1.symm, f3, ⟨fun b hb => ?_, fun b1 b2 h1 h2 h => ?_, fun b x hx => ?_⟩, f4⟩
  · rw [start_next] at hb ⊢; exact sig_high hb
  · rw [start_next] at h1 h2
    unfold ME.sg at h
    rw [sig_low h1, sig_low h2] at h
    exact nodupN_inj rs f6 b1 b2 (nthN rs b1) (nthN_at rs b1 (by omega)) (by rw [h]; exact nthN_at rs b2 (by omega))
  · rcases start_get hx with hx | hx
    · exact f5 _ hx
    · exact f4 _ hx

theorem ME.after_done {P : Program} (hg : GlobPlain) {e : ME} {rs : List Nat} {H D' : Heap} {μ μ' : Mu} {F : Nat → Prop} {w w' : World} {u : Value} (hH : HR P μ F H w) (hL : Lies (e.sg rs H) e.start H)
    (hsame : ∀ p ∈ e.same, H.get (e.sg rs H p.1) = some (p.2.ren (e.sg rs H)))
    (g3 : D'.next = e.nxt) (g4 : ∀ p ∈ e.same, D'.get p.1 = some p.2) (g5 : ∀ p ∈ e.out, D'.get p.1 = some p.2) (hd : Done NoI P (fun b => μ (e.sg rs H b)) F e.start w e.v D' u w' μ') : ∃ μ2, Done NoI P μ F H w (e.val rs H) (e.after rs H) u w' μ2 := by
  obtain ⟨h1, h2, h3⟩ := hd
  have key : ∀ b x, (e.after rs H).get b = some x → (∃ b0 e0, D'.get b0 = some e0 ∧ e.sg rs H b0 = b ∧ e0.ren (e.sg rs H) = x) ∨ ((∀ b0, b0 < e.start.next → e.sg rs H b0 = b → e.start.get b0 = none) ∧ H.get b = some x) := by
    intro b x hx
    have hx : (putsH (rensE (e.sg rs H) e.out) (killsH (rensE (e.sg rs H) e.turn) H)).get b = some x := hx
    rcases putsH_get _ _ _ _ hx with hx | ⟨-, hx⟩
    · obtain ⟨p, hp, hq⟩ := List.mem_map.1 hx
      cases hq
      exact .inl ⟨p.1, p.2, g5 p hp, rfl, rfl⟩
    · obtain ⟨k3, k4⟩ := killsH_get _ _ _ _ hx
      by_cases hex : ∃ b0 y, e.start.get b0 = some y ∧ e.sg rs H b0 = b
      · obtain ⟨b0, y, hy, rfl⟩ := hex
        left
        rcases start_get hy with hs | hs
        · exact absurd rfl (k3 _ (List.mem_map.2 ⟨_, hs, rfl⟩))
        · refine ⟨b0, y, g4 _ hs, rfl, ?_⟩
          have := hsame _ hs
          rw [k4] at this
          cases this; rfl
      · right
        refine ⟨fun b0 _ hb => ?_, k4⟩
        cases hs : e.start.get b0 with
        | none => rfl
        | some y => exact absurd ⟨b0, y, hs, hb⟩ hex
  obtain ⟨μ2, k1, k2, k3⟩ := hL.step hH hg (A' := e.after rs H) h2 h3 (by rw [g3, start_next]; rfl) key
  exact ⟨μ2, h1.push k1, k2, k3⟩

theorem memoA_sound {P : Program} (hg : GlobPlain) {M : MT} {c : Cal} (hc : CalOK P c) (hM : ∀ k e rs, M k = some (e, rs) → e.Valid P ∧ e.thr = false) : CalOK P (memoA M c) := by
  intro t H v H' h μ F w vs fence rd n hF hH hl hr
  cases t with
  | round b args => exact hc _ _ _ _ h μ F w vs fence rd n hF hH hl hr
  | ent f args => exact hc _ _ _ _ h μ F w vs fence rd n hF hH hl hr
  | fn f args =>
    simp only [memoA] at h
    cases hm : M H.next with
    | none => rw [hm] at h; exact hc _ _ _ _ h μ F w vs fence rd n hF hH hl hr
    | some p =>
      obtain ⟨e, rs⟩ := p
      rw [hm] at h
      simp only at h
      split at h
      · rename_i hfit
        cases h
        obtain ⟨rfl, rfl, hL, hsame⟩ := ME.fits_inv hfit
        obtain ⟨⟨D', g1, g3, g4, g5⟩, hthr⟩ := hM _ _ _ hm
        rw [hthr] at g1
        obtain ⟨cal, g1, g2⟩ := g1
        obtain ⟨k1, k2⟩ := g1 _ _ _ _ g2 (fun b => μ (e.sg rs H b)) F w vs fence rd n hF (hL.hr hg hH) (LR.pull (fun b L h => h) hl) (fun b args h => (by cases h))
        exact ⟨fun f' args' h => (by cases h), k2.mono fun u w' ⟨μ', hd⟩ => ME.after_done hg hH hL hsame g3 g4 g5 hd⟩
      · exact hc _ _ _ _ h μ F w vs fence rd n hF hH hl hr

theorem memoP_sound {P : Program} (hg : GlobPlain) {M : MT} (hM : ∀ k e rs, M k = some (e, rs) → e.Valid P ∧ e.thr = true) : PCalOK P (memoP M) := by
  intro f args H v H' h μ F w vs fence rd n hF hH hl
  simp only [memoP] at h
  cases hm : M H.next with
  | none => rw [hm] at h; cases h
  | some p =>
    obtain ⟨e, rs⟩ := p
    rw [hm] at h
    simp only at h
    split at h
    · rename_i hfit
      cases h
      obtain ⟨rfl, rfl, hL, hsame⟩ := ME.fits_inv hfit
      obtain ⟨⟨D', g1, g3, g4, g5⟩, hthr⟩ := hM _ _ _ hm
      rw [hthr] at g1
      exact (g1 (fun b => μ (e.sg rs H b)) F w vs fence rd n hF (hL.hr hg hH) (LR.pull (fun b L h => h) hl)).mono fun u w' ⟨μ', hd⟩ => ME.after_done hg hH hL hsame g3 g4 g5 hd
    · cases h

theorem runAM_sound {P : Program} (hg : GlobPlain) {tab : Nat → Option AFn} {pc : PCal} {M : MT} {m : Nat} (hpc : PCalOK P pc) (hmix : P.follows .mixedOrders = true) (htab : TabOK P tab) (hM : ∀ k e rs, M k = some (e, rs) → e.Valid P ∧ e.thr = false) : ∀ n, CalOK P (runAM tab pc M m n)
  | 0 => fun t H v H' h => by cases h
  | n + 1 => memoA_sound hg (runA1_sound hmix htab hpc (runAM_sound hg hpc hmix htab hM n)) hM

/-! ### The fast side -/

noncomputable section
def nrmK (tab : Nat → Option AFn) (pc : PCal) (ftab : Nat → Option FFn) (m : Nat) (ih : CalK) (f : Nat) (args : List AV) (H : Heap) (k : KV) : R := @Option.rec FFn (fun _ => R) (optK (runA1 tab pc (calD ih) m (.fn f args) H) fun r => prK r k) (fun fn => runFF fn ih args H k) (ftab f)
def memoK (e : ME) (rs : List Nat) (f : Nat) (args : List AV) (H : Heap) (k : KV) (alt : R) : R := @Bool.rec (fun _ => R) alt (k (e.val rs H) (e.after rs H)) (e.fits rs f args H)

def fcalM (tab : Nat → Option AFn) (pc : PCal) (ftab : Nat → Option FFn) (M : MT) (m : Nat) : Nat → CalK :=
  @Nat.rec (fun _ => CalK) (fun _ _ _ => none) fun n ih t H k => match t with
    | .fn f args => @Option.rec (ME × List Nat) (fun _ => R) (nrmK tab pc ftab m ih f args H k) (fun p => memoK p.1 p.2 f args H k (nrmK tab pc ftab m ih f args H k)) (M H.next)
    | .ent f args => @Option.rec FFn (fun _ => R) (optK (runA1 tab pc (calD ih) m (.ent f args) H) fun r => prK r k) (fun fn => runFF fn ih args H k) (ftab f)
    | t => optK (runA1 tab pc (calD ih) m t H) fun r => prK r k
end

theorem fcalM_rel {tab : Nat → Option AFn} {pc : PCal} {ftab : Nat → Option FFn} {M : MT} {m : Nat} (hft : FTabOK tab ftab m) : ∀ k, CalRel (fcalM tab pc ftab M m k) (runAM tab pc M m k)
  | 0 => fun t H k r h => by cases h
  | j + 1 => by
    have ih := fcalM_rel (pc := pc) (M := M) hft j
    intro t H k r hr
    have slow : ∀ t, optK (runA1 tab pc (calD (fcalM tab pc ftab M m j)) m t H) (fun r => prK r k) = some r → ∃ v H', runA1 tab pc (runAM tab pc M m j) m t H = some (v, H') ∧ k v H' = some r := by
      intro t h
      obtain ⟨⟨v, H'⟩, h1, h2⟩ := optK_some h
      exact ⟨v, H', runA1_mono (fun tk H r hr => calD_rel ih hr) h1, h2⟩
    cases t with
    | round b args => exact slow _ hr
    | fn f args =>
      have nrm : nrmK tab pc ftab m (fcalM tab pc ftab M m j) f args H k = some r → ∃ v H', runA1 tab pc (runAM tab pc M m j) m (.fn f args) H = some (v, H') ∧ k v H' = some r := by
        intro hr
        unfold nrmK at hr
        cases hf : ftab f with
        | none => rw [hf] at hr; exact slow _ hr
        | some fn =>
          rw [hf] at hr
          obtain ⟨afn, a1, a2, a3, a4, a5, a6, a7, a8⟩ := hft f fn hf
          obtain ⟨v, H', h1, h2⟩ := runFF_ok ih a3 a5 a6 a7 a8 hr
          exact ⟨v, H', by simp only [runA1, a1, a2]; exact h1, h2⟩
      have e0 : fcalM tab pc ftab M m (j + 1) (.fn f args) H k = @Option.rec (ME × List Nat) (fun _ => R) (nrmK tab pc ftab m (fcalM tab pc ftab M m j) f args H k) (fun p => memoK p.1 p.2 f args H k (nrmK tab pc ftab m (fcalM tab pc ftab M m j) f args H k)) (M H.next) := rfl
      rw [e0] at hr
      cases hm : M H.next with
      | some p =>
        obtain ⟨e, rs⟩ := p
        rw [hm] at hr
        have hr : @Bool.rec (fun _ => R) (nrmK tab pc ftab m (fcalM tab pc ftab M m j) f args H k) (k (e.val rs H) (e.after rs H)) (e.fits rs f args H) = some r := hr
        cases hfit : e.fits rs f args H with
        | true =>
          rw [hfit] at hr
          exact ⟨e.val rs H, e.after rs H, by simp only [runAM, memoA, hm, hfit, if_true], hr⟩
        | false =>
          rw [hfit] at hr
          obtain ⟨v, H', h1, h2⟩ := nrm hr
          exact ⟨v, H', by simp only [runAM, memoA, hm, hfit, Bool.false_eq_true, if_false]; exact h1, h2⟩
      | none =>
        rw [hm] at hr
        obtain ⟨v, H', h1, h2⟩ := nrm hr
        exact ⟨v, H', by simp only [runAM, memoA, hm]; exact h1, h2⟩
    | ent f args =>
      have e0 : fcalM tab pc ftab M m (j + 1) (.ent f args) H k = @Option.rec FFn (fun _ => R) (optK (runA1 tab pc (calD (fcalM tab pc ftab M m j)) m (.ent f args) H) fun r => prK r k) (fun fn => runFF fn (fcalM tab pc ftab M m j) args H k) (ftab f) := rfl
      rw [e0] at hr
      cases hf : ftab f with
      | none => rw [hf] at hr; exact slow _ hr
      | some fn =>
        rw [hf] at hr
        obtain ⟨afn, a1, a2, a3, a4, a5, a6, a7, a8⟩ := hft f fn hf
        obtain ⟨v, H', h1, h2⟩ := runFF_ok ih a3 a5 a6 a7 a8 hr
        exact ⟨v, H', by simp only [runAM, memoA, runA1, a1, a2]; exact h1, h2⟩

/-! ### Tables of such calls -/

inductive MTree where
  | leaf
  | node (l : MTree) (k i : Nat) (rs : List Nat) (r : MTree)

noncomputable section
def MTree.find (t : MTree) : Nat → Option (Nat × List Nat) := @MTree.rec (fun _ => Nat → Option (Nat × List Nat)) (fun _ => none) (fun _ k i rs _ fl fr n => @Bool.rec (fun _ => Option (Nat × List Nat)) (@Bool.rec (fun _ => Option (Nat × List Nat)) (fr n) (some (i, rs)) (Nat.beq n k)) (fl n) (Nat.ble (Nat.succ n) k)) t
def nthM (L : List ME) : Nat → Option ME := @List.rec ME (fun _ => Nat → Option ME) (fun _ => none) (fun a _ ih n => @Nat.rec (fun _ => Option ME) (some a) (fun m _ => ih m) n) L
def mtabT (th : Bool) (L : List ME) (t : MTree) (bound : Nat) : MT := fun n => @Option.rec (Nat × List Nat) (fun _ => Option (ME × List Nat)) none (fun p => @Bool.rec (fun _ => Option (ME × List Nat)) none (@Option.rec ME (fun _ => Option (ME × List Nat)) none (fun e => @Bool.rec (fun _ => Option (ME × List Nat)) none (some (e, p.2)) (@Bool.rec (fun _ => Bool) (@Bool.rec (fun _ => Bool) true false e.thr) e.thr th)) (nthM L p.1)) (Nat.ble (Nat.succ p.1) bound)) (t.find n)
def mtab (L : List ME) (t : MTree) (bound : Nat) : MT := mtabT false L t bound
def ptab (L : List ME) (t : MTree) (bound : Nat) : MT := mtabT true L t bound
def toldK (e : ME) (v : AV) (H : Heap) : R := @Bool.rec (fun _ => R) none (some (.bool true, H)) (e.told v H)
def isSm (r : R) : Bool := @Option.rec (AV × Heap) (fun _ => Bool) false (fun _ => true) r
end

theorem nthM_eq : ∀ (L : List ME) (n : Nat), nthM L n = L[n]?
  | [], n => rfl
  | a :: l, 0 => rfl
  | a :: l, n + 1 => by show nthM l n = _; rw [nthM_eq l n]; simp

theorem mtabT_some {th : Bool} {L : List ME} {t : MTree} {bound n : Nat} {e : ME} {rs : List Nat} (h : mtabT th L t bound n = some (e, rs)) : (∃ i, i < bound ∧ L[i]? = some e) ∧ e.thr = th := by
  unfold mtabT at h
  cases hf : t.find n with
  | none => rw [hf] at h; cases h
  | some p =>
    obtain ⟨i, rs'⟩ := p
    rw [hf] at h
    cases hb : Nat.ble (Nat.succ i) bound with
    | false => simp only [hb] at h; cases h
    | true =>
      simp only [hb] at h
      rw [nthM_eq] at h
      cases hL : L[i]? with
      | none => rw [hL] at h; cases h
      | some e' =>
        rw [hL] at h
        cases th with
        | false =>
          cases ht : e'.thr with
          | false => simp only [ht] at h; cases h; exact ⟨⟨i, Nat.le_of_ble_eq_true hb, hL⟩, ht⟩
          | true => simp only [ht] at h; cases h
        | true =>
          cases ht : e'.thr with
          | true => simp only [ht] at h; cases h; exact ⟨⟨i, Nat.le_of_ble_eq_true hb, hL⟩, ht⟩
          | false => simp only [ht] at h; cases h

def AllV (P : Program) (L : List ME) (bound : Nat) : Prop := ∀ i e, i < bound → L[i]? = some e → e.Valid P

theorem AllV.zero {P : Program} {L : List ME} : AllV P L 0 := fun i e h => absurd h (Nat.not_lt_zero _)

theorem AllV.mok {P : Program} {L : List ME} {t : MTree} {b : Nat} (h : AllV P L b) {th : Bool} : ∀ k e rs, mtabT th L t b k = some (e, rs) → e.Valid P ∧ e.thr = th := fun k e rs h' => by
  obtain ⟨⟨j, hj, hL⟩, ht⟩ := mtabT_some h'
  exact ⟨h j e hj hL, ht⟩

theorem AllV.next {P : Program} {L : List ME} {t tp : MTree} {b : Nat} {tab : Nat → Option AFn} {ftab : Nat → Option FFn} {m k : Nat} (h : AllV P L b) (hg : GlobPlain) (hmix : P.follows .mixedOrders = true) (htab : TabOK P tab) (hft : FTabOK tab ftab m)
    (e : ME) (he : L[b]? = some e) (hth : e.thr = false) (hrun : isSm (fcalM tab (memoP (ptab L tp b)) ftab (mtab L t b) m k (.fn e.f e.args) e.start (toldK e)) = true) : AllV P L (b + 1) := by
  intro i e' hi he'
  by_cases hib : i < b
  · exact h i e' hib he'
  · have : i = b := by omega
    subst this
    rw [he] at he'
    cases he'
    cases hr : fcalM tab (memoP (ptab L tp i)) ftab (mtab L t i) m k (.fn e.f e.args) e.start (toldK e) with
    | none => rw [hr] at hrun; cases hrun
    | some r =>
      obtain ⟨v, D', h1, h2⟩ := fcalM_rel hft k _ _ _ _ hr
      obtain ⟨h3, -⟩ := boolK_some h2
      simp only [ME.told, Bool.and_eq_true] at h3
      obtain ⟨g1, g2, g3, g4⟩ := h3
      have g1 := AV.beq_eq _ _ g1
      subst g1
      refine ⟨D', ?_, Nat.eq_of_beq_eq_true g2, hasH_at g3, hasH_at g4⟩
      rw [hth]
      exact ⟨_, runAM_sound hg (memoP_sound hg h.mok) hmix htab h.mok k, h1⟩

theorem AllV.nextP {P : Program} {L : List ME} {t tp : MTree} {b : Nat} {tab : Nat → Option AFn} {ftab : Nat → Option FFn} {m k : Nat} (h : AllV P L b) (hg : GlobPlain) (hmix : P.follows .mixedOrders = true) (htab : TabOK P tab) (hft : FTabOK tab ftab m)
    (e : ME) (he : L[b]? = some e) (hth : e.thr = true) (hrun : isSm (optK (runP1 tab (calD (fcalM tab (memoP (ptab L tp b)) ftab (mtab L t b) m k)) (memoP (ptab L tp b)) m e.f e.args e.start) fun r => prK r (toldK e)) = true) : AllV P L (b + 1) := by
  intro i e' hi he'
  by_cases hib : i < b
  · exact h i e' hib he'
  · have : i = b := by omega
    subst this
    rw [he] at he'
    cases he'
    cases hr : optK (runP1 tab (calD (fcalM tab (memoP (ptab L tp i)) ftab (mtab L t i) m k)) (memoP (ptab L tp i)) m e.f e.args e.start) (fun r => prK r (toldK e)) with
    | none => rw [hr] at hrun; cases hrun
    | some r =>
      obtain ⟨⟨v, D'⟩, h1, h2⟩ := optK_some hr
      obtain ⟨h3, -⟩ := boolK_some h2
      simp only [ME.told, Bool.and_eq_true] at h3
      obtain ⟨g1, g2, g3, g4⟩ := h3
      have g1 := AV.beq_eq _ _ g1
      subst g1
      refine ⟨D', ?_, Nat.eq_of_beq_eq_true g2, hasH_at g3, hasH_at g4⟩
      rw [hth]
      have hpc := memoP_sound hg (M := ptab L tp i) (P := P) h.mok
      have hc : CalOK P (calD (fcalM tab (memoP (ptab L tp i)) ftab (mtab L t i) m k)) := fun tk H v H' hh => runAM_sound hg hpc hmix htab h.mok k tk H v H' (calD_rel (fcalM_rel hft k) hh)
      exact fun μ F w vs fence rd n hF hH hl => runP1_sound hc hpc hmix htab h1 hl hH n hF

theorem closed_calls_args {P : Program} (hg : GlobPlain) (hmix : P.follows .mixedOrders = true) {tab : Nat → Option AFn} {ftab : Nat → Option FFn} {m k f : Nat} (ht : TabOK P tab) (hft : FTabOK tab ftab m) {L : List ME} {t tp : MTree} {bound : Nat} (hV : AllV P L bound)
    {afn : AFn} (haf : tab f = some afn) (hext : afn.ext = none) (hno : (mtab L t bound 0).isNone = true) {args : List AV} {vs : List Value} (hl : ∀ F w, LR (fun _ => none) F w args vs) {b : Bool} {H' : Heap} (hrun : fcalM tab (memoP (ptab L tp bound)) ftab (mtab L t bound) m (k + 1) (.fn f args) (Heap.nil 0) (fun v H => some (v, H)) = some (.bool b, H')) (w : World) (hG : GlobW w) :
    Calls P f vs.toArray w fun e w' => e = .returned (.bool b) ∧ w'.os = w.os ∧ w'.output = w.output ∧ w.heap.size ≤ w'.heap.size ∧ ∀ c, c < w.heap.size → w'.heap[c]? = w.heap[c]? := by
  obtain ⟨v, H1, h1, h2⟩ := fcalM_rel hft (k + 1) _ _ _ _ hrun
  cases h2
  have hno : mtab L t bound 0 = none := by simpa using hno
  simp only [runAM, memoA, show (Heap.nil 0).next = 0 from rfl, hno, runA1, haf, hext] at h1
  obtain ⟨-, ht2⟩ := ht f afn haf
  obtain ⟨fn, hfn, hc⟩ := ht2 fun e h => by rw [hext] at h; cases h
  obtain ⟨c1, c2, c3, c4, -⟩ := cFn_inv hc hext
  have hH := start_hr (P := P) hG
  have hin := runFn_sound (runAM_sound hg (memoP_sound hg hV.mok) hmix ht hV.mok k) hmix hfn c1 c2 c3 c4 h1 (vs := vs) (hl _ w) hH 0 (fence := Fence.wide) (rd := false) (.inl ⟨rfl, rfl⟩)
  refine (hin.calls fun k => room_wide k).mono fun e w' ⟨u, he, μ', hv, _, hS⟩ => ?_
  cases hv
  refine ⟨he, hS.os, hS.out, hS.size, fun c hc => hS.keep c hc fun b L ⟨e, h, _⟩ => ?_⟩
  rw [Tr.nil_get] at h; cases h

theorem closed_calls_memo {P : Program} (hg : GlobPlain) (hmix : P.follows .mixedOrders = true) {tab : Nat → Option AFn} {ftab : Nat → Option FFn} {m k f : Nat} (ht : TabOK P tab) (hft : FTabOK tab ftab m) {L : List ME} {t tp : MTree} {bound : Nat} (hV : AllV P L bound)
    {afn : AFn} (haf : tab f = some afn) (hext : afn.ext = none) (hno : (mtab L t bound 0).isNone = true) {b : Bool} {H' : Heap} (hrun : fcalM tab (memoP (ptab L tp bound)) ftab (mtab L t bound) m (k + 1) (.fn f []) (Heap.nil 0) (fun v H => some (v, H)) = some (.bool b, H')) (w : World) (hG : GlobW w) :
    Calls P f #[] w fun e w' => e = .returned (.bool b) ∧ w'.os = w.os ∧ w'.output = w.output ∧ w.heap.size ≤ w'.heap.size ∧ ∀ c, c < w.heap.size → w'.heap[c]? = w.heap[c]? :=
  closed_calls_args hg hmix ht hft hV haf hext hno (vs := []) (fun _ _ => LR.nil) hrun w hG

theorem closed_calls_int {P : Program} (hg : GlobPlain) (hmix : P.follows .mixedOrders = true) {tab : Nat → Option AFn} {ftab : Nat → Option FFn} {m k f : Nat} (ht : TabOK P tab) (hft : FTabOK tab ftab m) {L : List ME} {t tp : MTree} {bound : Nat} (hV : AllV P L bound)
    {afn : AFn} (haf : tab f = some afn) (hext : afn.ext = none) (hno : (mtab L t bound 0).isNone = true) {x : Int} {b : Bool} {H' : Heap} (hrun : fcalM tab (memoP (ptab L tp bound)) ftab (mtab L t bound) m (k + 1) (.fn f [.int .i64 x]) (Heap.nil 0) (fun v H => some (v, H)) = some (.bool b, H')) (w : World) (hG : GlobW w) :
    Calls P f #[.int .i64 x] w fun e w' => e = .returned (.bool b) ∧ w'.os = w.os ∧ w'.output = w.output ∧ w.heap.size ≤ w'.heap.size ∧ ∀ c, c < w.heap.size → w'.heap[c]? = w.heap[c]? :=
  closed_calls_args hg hmix ht hft hV haf hext hno (vs := [.int .i64 x]) (fun _ _ => LR.cons (.int _ _) LR.nil) hrun w hG

/-! ### A function's code, asked at once -/

noncomputable def AFn.view (m : Nat) (a : AFn) : Nat × Nat × List (Nat × Option (Option Nat)) × Bool × Bool × Comp := (a.nparams, a.ntmps, a.results, a.ext.isNone, Nat.ble a.ntmps 512 && Nat.ble a.nparams a.ntmps, den m false a.ntmps a.body)
def FFn.view (fn : FFn) : Nat × Nat × List (Nat × Option (Option Nat)) × Bool × Bool × Comp := (fn.nparams, fn.ntmps, fn.results, true, true, fn.body)

theorem both_good {P : Program} {f m : Nat} {fn : Func} {ffn : FFn} {tab : Nat → Option AFn} (hf : P.funcs[f]? = some fn) (h : (cFn P fn).map (AFn.view m) = some ffn.view) (ht : tab f = some ((cFn P fn).getD default)) :
    TGood P f ((cFn P fn).getD default) ∧ FGood tab m f ffn := by
  cases hc : cFn P fn with
  | none => rw [hc] at h; cases h
  | some a =>
    rw [hc] at h ht
    simp only [Option.map_some, AFn.view, FFn.view, Option.some.injEq, Prod.mk.injEq, Bool.and_eq_true] at h
    obtain ⟨h1, h2, h3, h4, ⟨h5, h6⟩, h7⟩ := h
    have he : a.ext = none := by simpa using h4
    refine ⟨tgood_of hf hc h4, a, ht, he, h1.symm, h2.symm, Nat.le_of_ble_eq_true h5, Nat.le_of_ble_eq_true h6, h3.symm, h7.symm⟩

theorem fgood_ext {tab : Nat → Option AFn} {m f : Nat} {ffn : FFn} {a : AFn} (h : FGood tab m f ffn) (ha : tab f = some a) : a.ext = none := by
  obtain ⟨b, h1, h2, -⟩ := h
  rw [ha] at h1
  cases h1
  exact h2

end Go.Proofs.YtedembbgeljdkaaGreatDoor.Ev
