/-
  THE FAST EVALUATOR answers what the slow one does: code, functions.
-/
import Derived.Test.YtedembbgeljdkaaGreatDoorEvFastDraw
namespace Go.Proofs.YtedembbgeljdkaaGreatDoor.Ev
open Go
set_option linter.all false

/-! ### How many slots: that stays -/

theorem putT_len (t : Tm) (d : Option Nat) (v : AV) : (putT t d v).length = t.length := by cases d <;> simp [putT]

theorem opsA_len {cal : Cal} : ∀ (os : List ROp) (id : Nat) (t : Tm) (H : Heap) (t' : Tm) (H' : Heap), opsA cal id os t H = some (t', H') → t'.length = t.length
  | [], id, t, H, t', H', h => by cases h; rfl
  | o :: os, id, t, H, t', H', h => by
    simp only [opsA] at h
    split at h
    · split at h
      · rw [opsA_len os _ _ _ _ _ h, putT_len]
      · cases h
    · rw [opsA_len os _ _ _ _ _ h, putT_len]
    · cases h

theorem putAll_length : ∀ (ds : List DOp) (Vs : List AV) (T : Tm), (putAll T ds Vs).length = T.length
  | [], [], T => rfl
  | [], _ :: _, T => rfl
  | _ :: _, [], T => rfl
  | d :: ds, v :: Vs, T => by
    simp only [putAll]
    rw [putAll_length ds Vs, putT_len]

theorem iter_len {f : Tm → Heap → Option (Ex × Tm × Heap)} (h : ∀ t H x t' H', f t H = some (x, t', H') → t'.length = t.length) : ∀ (k : Nat) (t : Tm) (H : Heap) (x : Ex) (t' : Tm) (H' : Heap), iter f k t H = some (x, t', H') → t'.length = t.length
  | 0, t, H, x, t', H', hr => by cases hr
  | k + 1, t, H, x, t', H', hr => by
    simp only [iter] at hr
    split at hr
    · rename_i T1 H1 h1
      rw [iter_len h k _ _ _ _ _ hr]
      exact h _ _ _ _ _ h1
    · exact h _ _ _ _ _ hr

theorem codeA_len {cal : Cal} {m : Nat} {rd : Bool} : ∀ (ac : ACode) (t : Tm) (H : Heap) (x : Ex) (t' : Tm) (H' : Heap), codeA cal m rd ac t H = some (x, t', H') → t'.length = t.length := by
  intro ac
  induction ac with
  | skip => intro t H x t' H' h; cases h; rfl
  | exit i => intro t H x t' H' h; cases h; rfl
  | goto l => intro t H x t' H' h; cases h; rfl
  | ret => intro t H x t' H' h; cases h; rfl
  | region ops =>
    intro t H x t' H' h
    simp only [codeA] at h
    split at h
    · rename_i T1 H1 h1
      cases h
      exact opsA_len _ _ _ _ _ _ h1
    · cases h
  | draw ds late =>
    intro t H x t' H' h
    simp only [codeA] at h
    split at h
    · rename_i T1 H1 h1
      cases h
      unfold drawA at h1
      split at h1
      · cases h1
      · split at h1
        · cases h1; exact putAll_length _ _ _
        · cases h1
    · cases h
  | seq a b iha ihb =>
    intro t H x t' H' h
    simp only [codeA] at h
    split at h
    · rename_i T1 H1 h1
      rw [ihb _ _ _ _ _ h]
      exact iha _ _ _ _ _ h1
    · exact iha _ _ _ _ _ h
  | cond s a b iha ihb =>
    intro t H x t' H' h
    simp only [codeA] at h
    split at h
    · exact iha _ _ _ _ _ h
    · exact ihb _ _ _ _ _ h
    · cases h
  | block id a iha =>
    intro t H x t' H' h
    simp only [codeA] at h
    split at h
    · rename_i i T1 H1 h1
      split at h <;> (cases h; exact iha _ _ _ _ _ h1)
    · exact iha _ _ _ _ _ h
  | loop a iha =>
    intro t H x t' H' h
    simp only [codeA] at h
    exact iter_len iha _ _ _ _ _ _ h
  | scope a iha =>
    intro t H x t' H' h
    simp only [codeA] at h
    split at h
    · cases h
    · exact iha _ _ _ _ _ h
  | drawF ds late last mid =>
    intro t H x t' H' h
    simp only [codeA] at h
    split at h
    · rename_i T1 H1 h1
      cases h
      unfold drawFA at h1
      repeat' (split at h1)
      all_goals first | (cases h1; exact putAll_length _ _ _) | (cases h1; done)
    · cases h
  | rangeM pre x it nx ex b1 b2 en os rest W ih =>
    intro t H x' t' H' h
    simp only [codeA] at h
    split at h
    · cases h
    · rename_i T1 H1 h1
      split at h
      · split at h
        · split at h
          · cases h
            rw [← opsA_len _ _ _ _ _ _ h1]
            simp [weakT]
          · cases h
        · cases h
      · cases h
  | rangeFunc f ps asg body iha ihb =>
    intro t H x t' H' h
    simp only [codeA] at h
    repeat' (split at h)
    all_goals first | (cases h; rfl) | (cases h; done)

/-! ### Code -/

theorem imp_slow {m : Nat} {rd : Bool} {nt : Nat} (ac : ACode) : Imp m rd nt (cSlow m rd nt ac) ac := by
  intro calF calA hc T t H n e r hT hr
  unfold cSlow at hr
  rw [hT.toL] at hr
  obtain ⟨⟨x, t', H'⟩, h1, h2⟩ := optK_some hr
  refine ⟨x, t', H', ofL t', codeA_mono (fun tk H r hr => ?_) _ _ _ _ h1, TRel.ofL hT.le ((codeA_len _ _ _ _ _ _ h1).trans hT.len), h2⟩
  exact calD_rel hc hr

theorem kont_nn {n n' : K1} {e : Nat → K1} {x : Ex} (hx : x ≠ .nrm) : kont n e x = kont n' e x := by
  cases x <;> first | rfl | exact absurd rfl hx

theorem imp_loop {m0 : Nat} {rd : Bool} {nt : Nat} {c : Comp} {ac : ACode} (h : Imp m0 rd nt c ac) : ∀ (calF : CalK) (calA : Cal), CalRel calF calA → ∀ (k : Nat) (T : Tq) (t : Tm) (H : Heap) (n : K1) (e : Nat → K1) (r : AV × Heap), TRel nt T t → clz k c calF T H n e = some r →
    ∃ x t' H' T', iter (codeA calA m0 rd ac) k t H = some (x, t', H') ∧ TRel nt T' t' ∧ kont n e x T' H' = some r := by
  intro calF calA hc k
  induction k with
  | zero => intro T t H n e r hT hr; cases hr
  | succ k ih =>
    intro T t H n e r hT hr
    have hr : c calF T H (fun T H => clz k c calF T H n e) e = some r := by
      have : clz (k + 1) c calF T H n e = @Bool.rec (fun _ => R) (c calF T H (fun T H => clz k c calF T H n e) e) (c calF T H (fun T H => clz k c calF T H n e) e) (Nat.ble H.next 0) := rfl
      rw [this] at hr
      cases hb : Nat.ble H.next 0 <;> rw [hb] at hr <;> exact hr
    obtain ⟨x, t1, H1, T1, h1, h2, h3⟩ := h calF calA hc T t H _ e r hT hr
    by_cases hx : x = .nrm
    · subst hx
      obtain ⟨x2, t2, H2, T2, k1, k2, k3⟩ := ih T1 t1 H1 n e r h2 h3
      exact ⟨x2, t2, H2, T2, by simp only [iter, h1]; exact k1, k2, k3⟩
    · refine ⟨x, t1, H1, T1, ?_, h2, by rw [kont_nn hx]; exact h3⟩
      simp only [iter, h1]
      cases x <;> first | rfl | exact absurd rfl hx

theorem imp_den {m : Nat} {rd : Bool} {nt : Nat} : ∀ (ac : ACode), Imp m rd nt (den m rd nt ac) ac := by
  intro ac
  induction ac with
  | skip => intro calF calA hc T t H n e r hT hr; exact ⟨.nrm, t, H, T, rfl, hT, hr⟩
  | exit i => intro calF calA hc T t H n e r hT hr; exact ⟨.exit i, t, H, T, rfl, hT, hr⟩
  | goto i => intro calF calA hc T t H n e r hT hr; exact ⟨.goto i, t, H, T, rfl, hT, hr⟩
  | ret => intro calF calA hc T t H n e r hT hr; exact ⟨.ret, t, H, T, rfl, hT, hr⟩
  | draw ds late =>
    show Imp m rd nt (if okDraw nt ds late = true then denDraw nt ds late else cSlow m rd nt (.draw ds late)) _
    by_cases hok : okDraw nt ds late = true
    · rw [if_pos hok]; exact imp_draw hok
    · rw [if_neg hok]; exact imp_slow _
  | rangeFunc f ps asg body iha ihb => exact imp_slow _
  | drawF ds late last mid => exact imp_slow _
  | rangeM pre x it nx ex b1 b2 en os rest W ih => exact imp_slow _
  | region ops =>
    intro calF calA hc T t H n e r hT hr
    obtain ⟨t', H', T', h1, h2, h3⟩ := impS_den ops 0 calF calA hc T t _ n H.next r hT hr
    refine ⟨.nrm, t', H', T', ?_, h2, h3⟩
    simp only [codeA]
    have h1 : opsA calA H.next ops t { H with next := H.next + ops.length } = some (t', H') := h1
    rw [h1]
  | seq a b iha ihb =>
    intro calF calA hc T t H n e r hT hr
    obtain ⟨x, t1, H1, T1, h1, h2, h3⟩ := iha calF calA hc T t H _ e r hT hr
    by_cases hx : x = .nrm
    · subst hx
      obtain ⟨x2, t2, H2, T2, k1, k2, k3⟩ := ihb calF calA hc T1 t1 H1 n e r h2 h3
      exact ⟨x2, t2, H2, T2, by simp only [codeA, h1]; exact k1, k2, k3⟩
    · refine ⟨x, t1, H1, T1, ?_, h2, by rw [kont_nn hx]; exact h3⟩
      simp only [codeA, h1]
      cases x <;> first | rfl | exact absurd rfl hx
  | cond s a b iha ihb =>
    intro calF calA hc T t H n e r hT hr
    have hr : condA (srcG s T) (den m rd nt a calF T H n e) (den m rd nt b calF T H n e) = some r := hr
    rw [hT.ev] at hr
    simp only [codeA]
    generalize s.ev t = v at hr ⊢
    cases v with
    | bool b =>
      cases b
      · exact ihb calF calA hc T t H n e r hT hr
      · exact iha calF calA hc T t H n e r hT hr
    | _ => cases hr
  | block id a iha =>
    intro calF calA hc T t H n e r hT hr
    obtain ⟨x, t1, H1, T1, h1, h2, h3⟩ := iha calF calA hc T t H n _ r hT hr
    have beq_f : ∀ a b : Nat, a ≠ b → Nat.beq a b = false := fun a b hab => by
      cases hb : Nat.beq a b with
      | false => rfl
      | true => exact absurd (Nat.eq_of_beq_eq_true hb) hab
    cases x with
    | nrm => exact ⟨.nrm, t1, H1, T1, by simp only [codeA, h1], h2, h3⟩
    | ret =>
      refine ⟨.ret, t1, H1, T1, by simp only [codeA, h1], h2, ?_⟩
      simp only [kont, exCode] at h3 ⊢
      rw [beq_f 0 (2 * id + 1) (by omega)] at h3
      exact h3
    | goto l =>
      refine ⟨.goto l, t1, H1, T1, by simp only [codeA, h1], h2, ?_⟩
      simp only [kont, exCode] at h3 ⊢
      rw [beq_f (2 * l + 2) (2 * id + 1) (by omega)] at h3
      exact h3
    | exit i =>
      simp only [kont, exCode] at h3
      by_cases hi : i = id
      · subst hi
        refine ⟨.nrm, t1, H1, T1, by simp only [codeA, h1, if_true], h2, ?_⟩
        rw [Nat.beq_refl] at h3
        exact h3
      · refine ⟨.exit i, t1, H1, T1, by simp only [codeA, h1, if_neg hi], h2, ?_⟩
        rw [beq_f (2 * i + 1) (2 * id + 1) (by omega)] at h3
        exact h3
  | loop a iha =>
    intro calF calA hc T t H n e r hT hr
    exact imp_loop iha calF calA hc m T t H n e r hT hr
  | scope a iha =>
    intro calF calA hc T t H n e r hT hr
    obtain ⟨x, t1, H1, T1, h1, h2, h3⟩ := iha calF calA hc T t H _ _ r hT hr
    cases x with
    | nrm => exact ⟨.nrm, t1, H1, T1, by simp only [codeA, h1], h2, h3⟩
    | ret => exact ⟨.ret, t1, H1, T1, by simp only [codeA, h1], h2, h3⟩
    | exit i =>
      refine ⟨.exit i, t1, H1, T1, by simp only [codeA, h1], h2, ?_⟩
      simp only [kont, exCode] at h3 ⊢
      have e1 : Nat.beq (Nat.mod (2 * i + 1) 2) 0 = false := by
        have : Nat.mod (2 * i + 1) 2 = 1 := by show (2 * i + 1) % 2 = 1; omega
        rw [this]; rfl
      rw [e1] at h3
      exact h3
    | goto l =>
      exfalso
      simp only [kont, exCode] at h3
      have e1 : Nat.beq (Nat.mod (2 * l + 2) 2) 0 = true := by
        have : Nat.mod (2 * l + 2) 2 = 0 := by show (2 * l + 2) % 2 = 0; omega
        rw [this]; rfl
      have e2 : Nat.beq (2 * l + 2) 0 = false := rfl
      rw [e1, e2] at h3
      cases h3

/-! ### Functions -/

theorem resF_eq {nt : Nat} {T : Tq} {t : Tm} (hT : TRel nt T t) (H : Heap) (rs : List (Nat × Option (Option Nat))) : resF T H rs = resultsA t H rs := by
  have hf : resF1 T H = resA t H := by
    funext r
    obtain ⟨a, b⟩ := r
    unfold resF1 resA
    simp only [hT.gt]
    cases b with
    | none => rfl
    | some k =>
      generalize getT t a = v
      cases v <;> rfl
  unfold resF
  split
  · rename_i t0
    rw [hT.gt]
    simp [resultsA, resA]
  · unfold resultsA
    rw [hf]
    rfl

def FTabOK (tab : Nat → Option AFn) (ftab : Nat → Option FFn) (m : Nat) : Prop := ∀ f fn, ftab f = some fn → ∃ afn, tab f = some afn ∧ afn.ext = none ∧ fn.nparams = afn.nparams ∧ fn.ntmps = afn.ntmps ∧ afn.ntmps ≤ 512 ∧ afn.nparams ≤ afn.ntmps ∧ fn.results = afn.results ∧ fn.body = den m false afn.ntmps afn.body

theorem runFF_ok {calF : CalK} {calA : Cal} (hc : CalRel calF calA) {m : Nat} {fn : FFn} {afn : AFn} (h1 : fn.nparams = afn.nparams) (h3 : afn.ntmps ≤ 512) (h4 : afn.nparams ≤ afn.ntmps) (h5 : fn.results = afn.results) (h6 : fn.body = den m false afn.ntmps afn.body)
    {args : List AV} {H : Heap} {k : KV} {r : AV × Heap} (hr : runFF fn calF args H k = some r) : ∃ v H', runFn calA m afn args H = some (v, H') ∧ k v H' = some r := by
  unfold runFF at hr
  rw [lenF_eq] at hr
  cases hb : Nat.beq args.length fn.nparams with
  | false => rw [hb] at hr; cases hr
  | true =>
    rw [hb] at hr
    have ha : args.length = afn.nparams := (Nat.eq_of_beq_eq_true hb).trans h1
    have hr : fn.body calF (argsT args) H (fun T H => optK (resF T H fn.results) fun v => k v H) (fun j T H => @Bool.rec (fun _ => R) none (optK (resF T H fn.results) fun v => k v H) (Nat.beq j 0)) = some r := hr
    rw [h6] at hr
    obtain ⟨x, t', H', T', e1, e2, e3⟩ := imp_den afn.body calF calA hc _ _ H _ _ r (TRel.args h3 (by omega)) hr
    have fin : optK (resF T' H' fn.results) (fun v => k v H') = some r → ∃ v, resultsA t' H' afn.results = some v ∧ k v H' = some r := by
      intro h
      obtain ⟨v, hv, hk⟩ := optK_some h
      rw [resF_eq e2, h5] at hv
      exact ⟨v, hv, hk⟩
    unfold runFn
    rw [if_pos ha, e1]
    cases x with
    | nrm =>
      obtain ⟨v, hv, hk⟩ := fin e3
      exact ⟨v, H', by simp [hv], hk⟩
    | ret =>
      obtain ⟨v, hv, hk⟩ := fin e3
      exact ⟨v, H', by simp [hv], hk⟩
    | exit i =>
      have h0 : Nat.beq (2 * i + 1) 0 = false := rfl
      simp only [kont, exCode, h0] at e3
      cases e3
    | goto i =>
      have h0 : Nat.beq (2 * i + 2) 0 = false := rfl
      simp only [kont, exCode, h0] at e3
      cases e3

theorem fcal_rel {tab : Nat → Option AFn} {pc : PCal} {ftab : Nat → Option FFn} {m : Nat} (hft : FTabOK tab ftab m) : ∀ k, CalRel (fcal tab pc ftab m k) (runA tab pc m k)
  | 0 => fun t H k r h => by cases h
  | j + 1 => by
    have ih := fcal_rel (pc := pc) hft j
    intro t H k r hr
    have slow : optK (runA1 tab pc (calD (fcal tab pc ftab m j)) m t H) (fun r => prK r k) = some r → ∃ v H', runA tab pc m (j + 1) t H = some (v, H') ∧ k v H' = some r := by
      intro h
      obtain ⟨⟨v, H'⟩, h1, h2⟩ := optK_some h
      exact ⟨v, H', runA1_mono (fun tk H r hr => calD_rel ih hr) h1, h2⟩
    cases t with
    | round b args => exact slow hr
    | fn f args =>
      cases hf : ftab f with
      | none =>
        have : fcal tab pc ftab m (j + 1) (.fn f args) H k = @Option.rec FFn (fun _ => R) (optK (runA1 tab pc (calD (fcal tab pc ftab m j)) m (.fn f args) H) fun r => prK r k) (fun fn => runFF fn (fcal tab pc ftab m j) args H k) (ftab f) := rfl
        rw [this, hf] at hr
        exact slow hr
      | some fn =>
        have : fcal tab pc ftab m (j + 1) (.fn f args) H k = @Option.rec FFn (fun _ => R) (optK (runA1 tab pc (calD (fcal tab pc ftab m j)) m (.fn f args) H) fun r => prK r k) (fun fn => runFF fn (fcal tab pc ftab m j) args H k) (ftab f) := rfl
        rw [this, hf] at hr
        obtain ⟨afn, a1, a2, a3, a4, a5, a6, a7, a8⟩ := hft f fn hf
        obtain ⟨v, H', h1, h2⟩ := runFF_ok ih a3 a5 a6 a7 a8 hr
        exact ⟨v, H', by simp only [runA, runA1, a1, a2]; exact h1, h2⟩
    | ent f args =>
      cases hf : ftab f with
      | none =>
        have : fcal tab pc ftab m (j + 1) (.ent f args) H k = @Option.rec FFn (fun _ => R) (optK (runA1 tab pc (calD (fcal tab pc ftab m j)) m (.ent f args) H) fun r => prK r k) (fun fn => runFF fn (fcal tab pc ftab m j) args H k) (ftab f) := rfl
        rw [this, hf] at hr
        exact slow hr
      | some fn =>
        have : fcal tab pc ftab m (j + 1) (.ent f args) H k = @Option.rec FFn (fun _ => R) (optK (runA1 tab pc (calD (fcal tab pc ftab m j)) m (.ent f args) H) fun r => prK r k) (fun fn => runFF fn (fcal tab pc ftab m j) args H k) (ftab f) := rfl
        rw [this, hf] at hr
        obtain ⟨afn, a1, a2, a3, a4, a5, a6, a7, a8⟩ := hft f fn hf
        obtain ⟨v, H', h1, h2⟩ := runFF_ok ih a3 a5 a6 a7 a8 hr
        exact ⟨v, H', by simp only [runA, runA1, a1, a2]; exact h1, h2⟩

end Go.Proofs.YtedembbgeljdkaaGreatDoor.Ev
