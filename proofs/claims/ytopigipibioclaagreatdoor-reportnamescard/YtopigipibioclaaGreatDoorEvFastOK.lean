/- The evaluator, a part. -/
import Derived.Test.YtopigipibioclaaGreatDoorEvSlots
import Derived.Test.YtopigipibioclaaGreatDoorEvCode
namespace Go.Proofs.YtopigipibioclaaGreatDoor.Ev
open Go
set_option linter.all false
/-! ### Slots -/
theorem Tq.get_set {n m : Nat} (hn : n < 512) (hm : m < 512) (v : AV) (T : Tq) : Tq.get m (Tq.set n v T) = if m = n then v else Tq.get m T := by
 have b : ∀ u v : Nat, Nat.div u v = u / v := fun _ _ => rfl
 unfold Tq.get Tq.set
 simp only [b]
 by_cases a : m = n
 ·subst a
  simp only [Q.at_up, if_true]
 ·rw [if_neg a]
  by_cases h2 : D8.of (m / 64) = D8.of (n / 64)
  ·rw [Q.at_up, if_pos h2]
   by_cases h1 : D8.of (m / 8) = D8.of (n / 8)
   ·rw [Q.at_up, if_pos h1]
    have h0 : D8.of m ≠ D8.of n := fun h0 => a (by
     have := D8.of_eq h0; have := D8.of_eq h1; have := D8.of_eq h2
     omega)
    rw [Q.at_up, if_neg h0]
   ·rw [Q.at_up, if_neg h1]
  ·rw [Q.at_up, if_neg h2]
theorem Tq.get_T0 (n : Nat) : Tq.get n T0 = .undef := by
 have h : ∀ {α : Type} (d : D8) (x : α), Q.at d (Q.all x) = x := by intro α d x; cases d <;> rfl
 unfold Tq.get T0
 rw [h, h, h]
structure TRel (nt : Nat) (T : Tq) (t : Tm) : Prop where
 le : nt ≤ 512
 len : t.length = nt
 at' : ∀ n, n < 512 → Tq.get n T = t.getD n .undef
section
variable {nt : Nat} {T : Tq} {t : Tm}
theorem TRel.gt (h : TRel nt T t) (n : Nat) : pL n T = eQ t n := by
 unfold pL eQ
 split
 ·rename_i hn; exact h.at' n hn
 ·rename_i hn
  have h1 := h.le
  have h2 := h.len
  rw [List.getD_eq_getElem?_getD, List.getElem?_eq_none (by omega)]; rfl
theorem TRel.ev (h : TRel nt T t) (s : Src) : co s T = s.ev t := by
 cases s with
 | t n => exact h.gt n
 | c v => rfl
theorem TRel.evq (h : TRel nt T t) : evq T = Src.ev t := funext fun s => h.ev s
theorem TRel.put (h : TRel nt T t) (d : Option Nat) (v : AV) : TRel nt (lY nt d v T) (fL t d v) := by
 cases d with
 | none => exact h
 | some d =>
  simp only [lY, fL]
  split
  ·rename_i hd
   refine ⟨h.le, by rw [List.length_set]; exact h.len, fun n hn => ?_⟩
   have h1 := h.le
   have h2 := h.len
   rw [Tq.get_set (by omega) hn, List.getD_eq_getElem?_getD]
   by_cases e : n = d
   ·subst e; rw [if_pos rfl, List.getElem?_set_self (by omega)]; rfl
   ·rw [if_neg e, List.getElem?_set_ne (Ne.symm e), h.at' n hn, List.getD_eq_getElem?_getD]
  ·rename_i hd
   have h2 := h.len
   rw [List.set_eq_of_length_le (by omega)]
   exact h
theorem akf : ∀ (l : List AV) (i : Nat) (T : Tq) (n : Nat), n < 512 → i + l.length ≤ 512 → Tq.get n (nY l i T) = if i ≤ n ∧ n < i + l.length then l.getD (n - i) .undef else Tq.get n T
 | [], i, T, n, _, _ => by simp [nY]; intro h1 h2; omega
 | v :: l, i, T, n, hn, hl => by
  simp only [List.length_cons] at hl ⊢
  simp only [nY]
  rw [akf l (i + 1) _ n hn (by omega), Tq.get_set (by omega) hn]
  by_cases h1 : n = i
  ·subst h1
   rw [if_neg (by omega), if_pos rfl, if_pos (by omega)]
   simp
  ·by_cases h2 : i + 1 ≤ n ∧ n < i + 1 + l.length
   ·rw [if_pos h2, if_pos (by omega), show n - i = (n - (i + 1)) + 1 by omega, List.getD_cons_succ]
   ·rw [if_neg h2, if_neg h1, if_neg (by omega)]
theorem TRel.ofL (a : nt ≤ 512) (hlen : t.length = nt) : TRel nt (ofL t) t := by
 refine ⟨a, hlen, fun n hn => ?_⟩
 unfold Ev.ofL
 rw [akf _ _ _ _ hn (by omega)]
 by_cases h : n < t.length
 ·rw [if_pos (by omega)]; simp
 ·rw [if_neg (by omega), Tq.get_T0, List.getD_eq_getElem?_getD, List.getElem?_eq_none (by omega)]; rfl
theorem aos : ∀ (l : List AV) (n : Nat), lO l n = l.getD n .undef
 | [], n => rfl
 | a :: l, 0 => rfl
 | a :: l, n + 1 => by show lO l n = _; rw [aos l n, List.getD_cons_succ]
theorem tW {args : List AV} (hl : args.length ≤ 512) {n : Nat} (hn : n < 512) : Tq.get n (nF args) = args.getD n .undef := by
 unfold nF
 cases hb : Nat.ble (mn args) 8 with
 | false =>
  show Tq.get n (nY args 0 T0) = _
  rw [akf _ _ _ _ hn (by omega)]
  by_cases h : n < args.length
  ·rw [if_pos (by omega)]; rfl
  ·rw [if_neg (by omega), Tq.get_T0, List.getD_eq_getElem?_getD, List.getElem?_eq_none (by omega)]; rfl
 | true =>
  rw [Xz] at hb
  have hb := Nat.le_of_ble_eq_true hb
  by_cases h : n < 8
  ·have : n = 0 ∨ n = 1 ∨ n = 2 ∨ n = 3 ∨ n = 4 ∨ n = 5 ∨ n = 6 ∨ n = 7 := by omega
   rcases this with rfl | rfl | rfl | rfl | rfl | rfl | rfl | rfl <;> exact aos _ _
  ·rw [List.getD_eq_getElem?_getD, List.getElem?_eq_none (by omega)]
   unfold Tq.get
   cases h2 : D8.of (Nat.div n 64) <;> cases h1 : D8.of (Nat.div n 8) <;> cases h0 : D8.of n <;> first | rfl | skip
   all_goals
    exfalso
    have e2 := D8.of_eq (x := Nat.div n 64) (y := 0) h2
    have e1 := D8.of_eq (x := Nat.div n 8) (y := 0) h1
    have a : ∀ u v : Nat, Nat.div u v = u / v := fun _ _ => rfl
    rw [a] at e1 e2
    omega
theorem TRel.args {args : List AV} (a : nt ≤ 512) (ha : args.length ≤ nt) : TRel nt (nF args) (args ++ List.replicate (nt - args.length) .undef) := by
 refine ⟨a, by simp; omega, fun n hn => ?_⟩
 rw [tW (by omega) hn]
 have e : (args ++ List.replicate (nt - args.length) AV.undef).getD n .undef = (if n < args.length then args[n]? else (List.replicate (nt - args.length) AV.undef)[n - args.length]?).getD .undef := by
  rw [List.getD_eq_getElem?_getD, List.getElem?_append]
 rw [e]
 by_cases h : n < args.length
 ·rw [if_pos h, List.getD_eq_getElem?_getD]
 ·rw [if_neg h, List.getElem?_replicate, List.getD_eq_getElem?_getD, List.getElem?_eq_none (by omega)]
  split <;> rfl
theorem TRel.toL (h : TRel nt T t) : toL nt T = t := by
 unfold Ev.toL
 have h1 := h.le
 have h2 := h.len
 apply List.ext_getElem?
 intro n
 by_cases hn : n < nt
 ·rw [List.getElem?_map, List.getElem?_range hn, List.getElem?_eq_getElem (by omega)]
  simp only [Option.map_some]
  rw [h.at' n (by omega), List.getD_eq_getElem?_getD, List.getElem?_eq_getElem (by omega)]; rfl
 ·rw [List.getElem?_eq_none (by simp; omega), List.getElem?_eq_none (by omega)]
end
/-! ### Calls -/
def qC (b : iw) (a : dZ) : Prop := ∀ t H k r, b t H k = some r → ∃ v H', a t H = some (v, H') ∧ k v H' = some r
/-! ### Operations -/
def jk (a : dZ) (id : Nat) (o : ROp) (t : Tm) (H : Heap) : Option (Tm × Heap) := fN a id [o] t H
theorem ant {a : dZ} {id : Nat} {o : ROp} {os : List ROp} {t b : Tm} {H H1 : Heap} (h : jk a id o t H = some (b, H1)) : fN a id (o :: os) t H = fN a (id + 1) os b H1 := by
 unfold jk at h
 simp only [fN] at h ⊢
 split at h
 ·split at h
  ·rename_i v H' hv; cases h; rfl
  ·cases h
 ·cases h; rfl
 ·cases h
def Cm (nt i : Nat) (c : jA) (o : ROp) : Prop := ∀ d b, qC d b → ∀ (T : Tq) (t : Tm) (H : Heap) (n : K1) (x : Nat) (r : AV × Heap), TRel nt T t → c d x T H n = some r →
 ∃ t' H' a, jk b (x + i) o t H = some (t', H') ∧ TRel nt a t' ∧ n a H' = some r
def ImpS (nt i : Nat) (c : jA) (os : List ROp) : Prop := ∀ d b, qC d b → ∀ (T : Tq) (t : Tm) (H : Heap) (n : K1) (x : Nat) (r : AV × Heap), TRel nt T t → c d x T H n = some r →
 ∃ t' H' a, fN b (x + i) os t H = some (t', H') ∧ TRel nt a t' ∧ n a H' = some r
def jB (nt i : Nat) (c : jA) (d : Option Nat) (op : AOp) : Prop := ∀ e b, qC e b → ∀ (T : Tq) (t : Tm) (H : Heap) (n : K1) (x : Nat) (r : AV × Heap), TRel nt T t → c e x T H n = some r →
 ∃ v H' a, gB b (Src.ev t) H (x + i) op = some (v, H') ∧ TRel nt a (fL t d v) ∧ n a H' = some r
theorem anf {nt i : Nat} {c : jA} {d : Option Nat} {op : AOp} (h : jB nt i c d op) : Cm nt i c ⟨d, op, none⟩ := by
 intro e b hc T t H n x r hT hr
 obtain ⟨v, H', a, h1, h2, h3⟩ := h e b hc T t H n x r hT hr
 refine ⟨_, H', a, ?_, h2, h3⟩
 simp only [jk, fN, iv, h1]
theorem ang {nt i : Nat} {c : jA} {d : Option Nat} {op : AOp} {g : Nat} {e : Bool} (h : jB nt i c d op) : Cm nt i (og (pL g) e (lY nt d) c) ⟨d, op, some (g, e)⟩ := by
 intro m k hc T t H n x r hT hr
 unfold og at hr
 rw [hT.gt] at hr
 have o : ∀ v, eQ t g = v → v ≠ .undef → t[g]? = some v := by
  intro v hv p
  unfold eQ at hv
  rw [List.getD_eq_getElem?_getD] at hv
  cases hc : t[g]? with
  | some u => rw [hc] at hv; simp at hv; rw [hv]
  | none => rw [hc] at hv; simp at hv; exact absurd hv.symm p
 have run : c m x T H n = some r → iv t (some (g, e)) = some true → ∃ t' H' j, jk k (x + i) ⟨d, op, some (g, e)⟩ t H = some (t', H') ∧ TRel nt j t' ∧ n j H' = some r := by
  intro hr f
  obtain ⟨v, H', j, h1, h2, h3⟩ := h m k hc T t H n x r hT hr
  refine ⟨_, H', j, ?_, h2, h3⟩
  simp only [jk, fN, f, h1]
 have skip : n (lY nt d (.tup []) T) H = some r → iv t (some (g, e)) = some false → ∃ t' H' j, jk k (x + i) ⟨d, op, some (g, e)⟩ t H = some (t', H') ∧ TRel nt j t' ∧ n j H' = some r := by
  intro hr f
  refine ⟨_, H, _, ?_, hT.put d (.tup []), hr⟩
  simp only [jk, fN, f]
 generalize hv : eQ t g = v at hr
 cases v <;> first | (cases hr; done) | skip
 ·rename_i b
  have f : iv t (some (g, e)) = some (b == e) := by simp only [iv, o _ hv (by simp)]
  cases b <;> cases e <;> first | exact run hr f | exact skip hr f
 ·rename_i l
  cases l with
  | nil =>
   have f : iv t (some (g, e)) = some false := by simp only [iv, o _ hv (by simp)]
   exact skip hr f
  | cons a l => cases hr
theorem vM {nt i : Nat} {d : Option Nat} {x : Src} : jB nt i (om (co x) (lY nt d)) d (.mv x) := by
 intro b a hc T t H n y r hT hr
 exact ⟨x.ev t, H, _, rfl, hT.put d _, by rw [← hT.ev x]; exact hr⟩
theorem al2 {nt i : Nat} {d : Option Nat} {op : AOp} (hop : ∀ f args, op ≠ .call f args) : jB nt i (oe op i (lY nt d)) d op := by
 intro b a hc T t H n y r hT hr
 unfold oe at hr
 rw [hT.evq] at hr
 obtain ⟨⟨v, H'⟩, h1, h2⟩ := uC hr
 refine ⟨v, H', _, ?_, hT.put d v, h2⟩
 cases op <;> first | exact h1 | exact absurd rfl (hop _ _)
theorem ao5 {nt i : Nat} {d : Option Nat} {f : Src} {args : List Src} : jB nt i (b5 (co f) (fun T => args.map fun s => co s T) (lY nt d)) d (.call f args) := by
 intro b a hc T t H n y r hT hr
 unfold b5 at hr
 obtain ⟨c, h1, h2⟩ := uC hr
 simp only at h1
 obtain ⟨v, H', h3, h4⟩ := hc _ _ _ _ h2
 have ha : (args.map fun s => co s T) = args.map (Src.ev t) := List.map_congr_left fun s _ => hT.ev s
 rw [hT.ev, ha] at h1
 refine ⟨v, H', _, ?_, hT.put d v, h4⟩
 simp only [gB, Option.bind_eq_bind, h1, Option.bind_some, h3]
theorem am4 {nt i : Nat} {d : Option Nat} {f : Nat} {args : List Src} : jB nt i (aA f (fun T => args.map fun s => co s T) (lY nt d)) d (.call (.c (.fn (.func f) [] [])) args) := by
 intro b a hc T t H n y r hT hr
 unfold aA at hr
 obtain ⟨v, H', h3, h4⟩ := hc _ _ _ _ hr
 simp only at h3
 have ha : (args.map fun s => co s T) = args.map (Src.ev t) := List.map_congr_left fun s _ => hT.ev s
 rw [ha] at h3
 refine ⟨v, H', _, ?_, hT.put d v, h4⟩
 simp only [gB, Option.bind_eq_bind, Src.ev, qK, List.nil_append, List.append_nil, Option.bind_some, h3]
theorem ani {a : dZ} {ev : Src → AV} {H : Heap} {id : Nat} {op : AOp} {v : AV} (h : bJ ev op = some v) : gB a ev H id op = some (v, H) := by
 cases op <;> first | (simp only [gB, h]; done) | (simp [bJ] at h; done)
theorem o5 {nt i : Nat} {d : Option Nat} {f : PV} {op : AOp} (hf : i5 f op) : jB nt i (oP f (lY nt d)) d op := by
 intro b a hc T t H n y r hT hr
 obtain ⟨v, h1, h2⟩ := hf T _ r hr
 rw [hT.evq] at h1
 exact ⟨v, H, _, ani h1, hT.put d v, h2⟩
theorem aoc {nt i : Nat} {d : Option Nat} {x : Src} : jB nt i (ol (co x) (lY nt d)) d (.load none x) := by
 intro b a hc T t H n y r hT hr
 obtain ⟨v, h1, h2⟩ := ak2 hr
 rw [hT.ev] at h1
 exact ⟨v, H, _, by simp only [gB, bJ, bR, h1]; rfl, hT.put d v, h2⟩
theorem ana {nt i m : Nat} {d : Option Nat} {x : Src} : jB nt i (bM m (co x) (lY nt d)) d (.load (some m) x) := by
 intro b a hc T t H n y r hT hr
 obtain ⟨v, h1, h2⟩ := ajl hr
 rw [hT.ev] at h1
 exact ⟨v, H, _, by simp only [gB, bJ, bR, h1]; rfl, hT.put d v, h2⟩
theorem am5 {nt i : Nat} {d : Option Nat} {x v : Src} : jB nt i (dk (co x) (co v) (lY nt d)) d (.store 1 x v) := by
 intro b a hc T t H n y r hT hr
 obtain ⟨H', h1, h2⟩ := ajf hr
 rw [hT.ev, hT.ev] at h1
 exact ⟨.undef, H', _, by simp only [gB, bJ, bR, h1]; rfl, hT.put d _, h2⟩
theorem ak7 {nt i m : Nat} {d : Option Nat} {x v : Src} : jB nt i (ot m (co x) (co v) (lY nt d)) d (.store m x v) := by
 intro b a hc T t H n y r hT hr
 obtain ⟨H', h1, h2⟩ := aid hr
 rw [hT.ev, hT.ev] at h1
 exact ⟨.undef, H', _, by simp only [gB, bJ, bR, h1]; rfl, hT.put d _, h2⟩
theorem amj {nt i ty : Nat} {z : List AV} {d : Option Nat} : jB nt i (oa ty z i (lY nt d)) d (.alloc ty z) := by
 intro b a hc T t H n y r hT hr
 exact ⟨.ptr (y + i) 0, _, _, rfl, hT.put d _, hr⟩
theorem rX {nt i ty : Nat} {x : Src} {d : Option Nat} : jB nt i (ox ty (co x) i (lY nt d)) d (.box ty x) := by
 intro b a hc T t H n y r hT hr
 obtain ⟨h1, h2⟩ := nM hr
 rw [ajs, YU, hT.ev] at h1
 rw [YU, hT.ev] at h2
 exact ⟨.ptr (y + i) 0, _, _, by simp only [gB, bJ, bR]; exact if_pos h1, hT.put d _, h2⟩
theorem agb {nt i ty size len : Nat} {z : List AV} {ps : List ((Nat × Nat) × Src)} {d : Option Nat} : jB nt i (ob ty size z len (ps.map fun q => (q.1, co q.2)) i (lY nt d)) d (.buildSlice ty size z len ps) := by
 intro b a hc T t H n y r hT hr
 obtain ⟨ds, h1, h2⟩ := aew ps z _ r hr
 rw [hT.evq] at h1
 exact ⟨_, _, _, by simp only [gB, bJ, bR, h1]; rfl, hT.put d _, h2⟩
theorem alz {nt i : Nat} {d : Option Nat} (op : AOp) : jB nt i (Yg i (lY nt d) op) d op := by
 unfold Yg
 split
 ·exact vM
 ·split
  ·exact o5 u3
  ·exact o5 uP
  ·exact o5 uR
  ·exact o5 uS
  ·exact o5 uW
  ·exact o5 uT
  ·exact o5 uX
  ·exact o5 uZ
  ·exact o5 uQ
  ·exact al2 fun _ _ h => by cases h
 ·exact o5 uU
 ·exact o5 uV
 ·exact o5 yD
 ·exact o5 uY
 ·exact aoc
 ·exact am5
 ·exact amj
 ·exact o5 qZ
 ·exact ana
 ·exact ak7
 ·exact rX
 ·exact o5 aoz
 ·exact agb
 ·rename_i f args
  unfold aov
  split
  ·exact am4
  ·exact ao5
 ·rename_i h
  exact al2 (by assumption)
theorem XM {nt i : Nat} (o : ROp) : Cm nt i (iW nt i o) o := by
 obtain ⟨d, op, g⟩ := o
 cases g with
 | none => exact anf (alz op)
 | some p =>
  obtain ⟨g, w⟩ := p
  exact ang (alz op)
theorem alo {nt : Nat} : ∀ (os : List ROp) (i : Nat), ImpS nt i (Ye nt i os) os
 | [], i => fun b a _ T t H n x r hT hr => ⟨t, H, T, rfl, hT, hr⟩
 | [o], i => fun b a hc T t H n x r hT hr => XM o b a hc T t H n x r hT hr
 | o :: d :: os, i => by
  intro b a hc T t H n x r hT hr
  simp only [Ye, oq] at hr
  obtain ⟨e, H1, c, h1, h2, h3⟩ := XM o b a hc T t H _ x r hT hr
  obtain ⟨f, H2, T2, k1, k2, k3⟩ := alo (d :: os) (i + 1) b a hc c e H1 n x r h2 h3
  exact ⟨f, H2, T2, by rw [ant h1]; exact k1, k2, k3⟩
/-! ### Code -/
def X0 (m : Nat) (rd : Bool) (nt : Nat) (c : gY) (ac : ACode) : Prop := ∀ d b, qC d b → ∀ (T : Tq) (t : Tm) (H : Heap) (n : K1) (e : Nat → K1) (r : AV × Heap), TRel nt T t → c d T H n e = some r →
 ∃ x t' H' a, aZ b m rd ac t H = some (x, t', H') ∧ TRel nt a t' ∧ kr n e x a H' = some r
theorem aiv {b : iw} {a : dZ} (h : qC b a) {t : Task} {H : Heap} {v : AV} {H' : Heap} (hv : iZ b t H = some (v, H')) : a t H = some (v, H') := by
 obtain ⟨c, H1, h1, h2⟩ := h _ _ _ _ hv
 cases h2; exact h1
/-! ### More calls, no less -/
def Le (c c' : dZ) : Prop := ∀ t H r, c t H = some r → c' t H = some r
section
variable {c c' : dZ}
theorem aic (h : Le c c') {ev : Src → AV} {H : Heap} {id : Nat} {op : AOp} {r : AV × Heap} (hr : gB c ev H id op = some r) : gB c' ev H id op = some r := by
 cases op <;> first | exact hr | skip
 simp only [gB, Option.bind_eq_bind, bN] at hr ⊢
 obtain ⟨t, ht, hr⟩ := hr
 exact ⟨t, ht, h _ _ _ hr⟩
theorem CO (h : Le c c') : ∀ (os : List ROp) (id : Nat) (t : Tm) (H : Heap) (r : Tm × Heap), fN c id os t H = some r → fN c' id os t H = some r
 | [], id, t, H, r, hr => hr
 | o :: os, id, t, H, r, hr => by
  simp only [fN] at hr ⊢
  split at hr
  ·split at hr
   ·rename_i v H' hv
    rw [aic h hv]
    exact CO h os _ _ _ _ hr
   ·cases hr
  ·exact CO h os _ _ _ _ hr
  ·cases hr
theorem ak3 (h : Le c c') {base : Nat} {T0 : Tm} {i : Nat} {d : DOp} {s e : DS} (hr : lG c base T0 i d s = some e) : lG c' base T0 i d s = some e := by
 unfold lG at hr ⊢
 cases a : iv (cF T0 s.Vs d.uses) d.guard with
 | none => simp only [a] at hr; cases hr
 | some b =>
  cases b with
  | false => simp only [a] at hr ⊢; exact hr
  | true =>
   simp only [a] at hr ⊢
   split at hr
   ·exact hr
   ·exact hr
   ·split at hr
    ·split at hr
     ·rename_i v H' hv
      cases hr
      simp only [aic h hv]
     ·cases hr
    ·cases hr
theorem adj (h : Le c c') {base : Nat} {T0 : Tm} : ∀ (ds : List DOp) (i : Nat) (s a : DS), qB c base T0 i ds s = some a → qB c' base T0 i ds s = some a
 | [], i, s, a, hr => hr
 | d :: ds, i, s, a, hr => by
  simp only [qB] at hr ⊢
  split at hr
  ·rename_i b h1
   rw [ak3 h h1]
   exact adj h ds _ _ _ hr
  ·cases hr
theorem ahh (h : Le c c') {ds : List DOp} {late : List Nat} {t : Tm} {H : Heap} {r : Tm × Heap} (hr : jo c ds late t H = some r) : jo c' ds late t H = some r := by
 unfold jo at hr ⊢
 split at hr
 ·cases hr
 ·rename_i s hs
  rw [adj h _ _ _ _ hs]
  exact hr
theorem aj2 {f g : Tm → Heap → Option (Ex × Tm × Heap)} (h : ∀ t H r, f t H = some r → g t H = some r) : ∀ (k : Nat) (t : Tm) (H : Heap) (r : Ex × Tm × Heap), jd f k t H = some r → jd g k t H = some r
 | 0, t, H, r, hr => by cases hr
 | k + 1, t, H, r, hr => by
  simp only [jd] at hr ⊢
  split at hr
  ·rename_i b H' h1
   rw [h _ _ _ h1]
   exact aj2 h k _ _ _ hr
  ·rename_i a
   have := h _ _ _ hr
   rw [this]
   obtain ⟨x, t', H'⟩ := r
   cases x <;> first | rfl | exact absurd hr (a _ _)
theorem aht {l : Nat} {f g : Tm → Heap → Option (Ex × Tm × Heap)} (h : ∀ t H r, f t H = some r → g t H = some r) : ∀ (k : Nat) (t : Tm) (H : Heap) (r : Ex × Tm × Heap), jL l f k t H = some r → jL l g k t H = some r
 | 0, t, H, r, hr => by cases hr
 | k + 1, t, H, r, hr => by
  simp only [jL] at hr ⊢
  split at hr
  ·rename_i c b H' h1
   rw [h _ _ _ h1]
   simp only
   split at hr
   ·rename_i e
    rw [if_pos e]
    exact aht h k _ _ _ hr
   ·cases hr
  ·rename_i a
   have := h _ _ _ hr
   rw [this]
   obtain ⟨x, t', H'⟩ := r
   cases x <;> first | rfl | exact absurd hr (a _ _ _)
theorem agd (h : Le c c') {ds : List DOp} {late mid : List Nat} {last : DOp} {T : Tm} {H : Heap} {r : Tm × Heap} (hr : xC c ds late last mid T H = some r) : xC c' ds late last mid T H = some r := by
 unfold xC at hr ⊢
 cases hd : qB c H.next T 0 ds ⟨[], [{ H with next := H.next + (ds.length + 1) }], []⟩ with
 | none => rw [hd] at hr; cases hr
 | some s => rw [hd] at hr; rw [adj h _ _ _ _ hd]; exact hr
theorem Cj (h : Le c c') {m : Nat} {rd : Bool} : ∀ (ac : ACode) (t : Tm) (H : Heap) (r : Ex × Tm × Heap), aZ c m rd ac t H = some r → aZ c' m rd ac t H = some r := by
 intro ac
 induction ac with
 | skip => intro t H r hr; exact hr
 | exit i => intro t H r hr; exact hr
 | goto l => intro t H r hr; exact hr
 | ret => intro t H r hr; exact hr
 | region ops =>
  intro t H r hr
  simp only [aZ] at hr ⊢
  split at hr
  ·rename_i j H' h1
   rw [CO h _ _ _ _ _ h1]; exact hr
  ·cases hr
 | draw ds late =>
  intro t H r hr
  simp only [aZ] at hr ⊢
  split at hr
  ·rename_i j H' h1
   rw [ahh h h1]; exact hr
  ·cases hr
 | seq a b d k =>
  intro t H r hr
  simp only [aZ] at hr ⊢
  split at hr
  ·rename_i j H' h1
   rw [d _ _ _ h1]
   exact k _ _ _ hr
  ·rename_i g
   have := d _ _ _ hr
   rw [this]
   obtain ⟨x, t', H'⟩ := r
   cases x <;> first | rfl | exact absurd hr (g _ _)
 | cond s a b d k =>
  intro t H r hr
  simp only [aZ] at hr ⊢
  split at hr
  ·exact d _ _ _ hr
  ·exact k _ _ _ hr
  ·cases hr
 | block id a d =>
  intro t H r hr
  simp only [aZ] at hr ⊢
  split at hr
  ·rename_i i j H' h1
   rw [d _ _ _ h1]
   exact hr
  ·rename_i g
   have := d _ _ _ hr
   rw [this]
   obtain ⟨x, t', H'⟩ := r
   cases x <;> first | rfl | exact absurd hr (g _ _ _)
 | loop a d =>
  intro t H r hr
  simp only [aZ] at hr ⊢
  exact aj2 d _ _ _ _ hr
 | drawF ds late last mid =>
  intro t H r hr
  simp only [aZ] at hr ⊢
  split at hr
  ·rename_i j H' h1
   rw [agd h h1]; exact hr
  ·cases hr
 | rangeM pre x it nx ex b1 b2 en os rest W ih =>
  intro t H r hr
  simp only [aZ] at hr ⊢
  cases n : fN c H.next pre t { H with next := H.next + (pre.length + 1) } with
  | none => rw [n] at hr; cases hr
  | some p =>
   obtain ⟨A, H1⟩ := p
   rw [n] at hr; rw [CO h _ _ _ _ _ n]
   simp only at hr ⊢
   split at hr
   ·rename_i b hb
    split at hr
    ·rename_i es D
     split at hr
     ·rename_i o
      rw [if_pos, ← hr]
      simp only [Bool.and_eq_true] at o ⊢
      obtain ⟨c1, c2, c3, c4, c5⟩ := o
      refine ⟨c1, c2, c3, c4, ?_⟩
      rw [List.all_eq_true] at c5 ⊢
      intro p hp
      have := c5 p hp
      split at this
      ·rename_i w u h3
       rw [CO h _ _ _ _ _ h3]
       simp only
       cases hc : aZ c m rd rest w u with
       | none => rw [hc] at this; cases this
       | some q => rw [hc] at this; rw [ih _ _ _ hc]; exact this
      ·cases this
     ·cases hr
    ·cases hr
   ·cases hr
 | scope a d =>
  intro t H r hr
  simp only [aZ] at hr ⊢
  split at hr
  ·cases hr
  ·rename_i g
   rw [d _ _ _ hr]
   obtain ⟨x, t', H'⟩ := r
   cases x with
   | goto l => exact absurd hr (g _ _ _)
   | _ => rfl
 | scopeL a l rest d z =>
  intro t H r hr
  simp only [aZ] at hr ⊢
  split at hr
  ·rename_i E j H' h1
   rw [d _ _ _ h1]
   simp only
   split at hr
   ·rename_i e
    rw [if_pos e]
    exact aht z _ _ _ _ hr
   ·cases hr
  ·rename_i g
   rw [d _ _ _ hr]
   obtain ⟨x, t', H'⟩ := r
   cases x with
   | goto l => exact absurd hr (g _ _ _)
   | _ => rfl
 | rangeFunc f ps B body d k =>
  intro t H r hr
  simp only [aZ] at hr ⊢
  split at hr
  ·cases hr
  ·rename_i y
   rw [if_neg y]
   split at hr
   ·rename_i C args ht
    split at hr
    ·rename_i v H2 h2
     rw [h _ _ _ h2]
     exact hr
    ·cases hr
   ·cases hr
theorem aen (h : Le c c') {m : Nat} {fn : AFn} {args : List AV} {H : Heap} {r : AV × Heap} (hr : jl c m fn args H = some r) : jl c' m fn args H = some r := by
 unfold jl at hr ⊢
 split at hr
 ·rename_i ha
  rw [if_pos ha]
  split at hr
  ·rename_i T H' h1
   rw [Cj h _ _ _ _ h1]; exact hr
  ·rename_i T H' h1
   rw [Cj h _ _ _ _ h1]; exact hr
  ·cases hr
 ·cases hr
theorem af6 {pc : fj} (h : Le c c') : ∀ (os : List ROp) (id : Nat) (T : Tm) (H : Heap) (r : Option AV × Tm × Heap), kU c pc id os T H = some r → kU c' pc id os T H = some r
 | [], id, T, H, r, hr => hr
 | o :: os, id, T, H, r, hr => by
  simp only [kU] at hr ⊢
  cases b : iv T o.guard with
  | none => rw [b] at hr; cases hr
  | some d =>
   rw [b] at hr
   cases d with
   | false => exact af6 h os _ _ _ _ hr
   | true =>
    simp only at hr ⊢
    cases hp : uu pc (Src.ev T) H o.op with
    | some r => rw [hp] at hr; exact hr
    | none =>
     rw [hp] at hr
     simp only at hr ⊢
     cases a : gB c (Src.ev T) H id o.op with
     | none => rw [a] at hr; cases hr
     | some e => rw [a] at hr; rw [aic h a]; exact af6 h os _ _ _ _ hr
theorem ahq {f g : Tm → Heap → Option (Xx × Tm × Heap)} (h : ∀ T H r, f T H = some r → g T H = some r) : ∀ (k : Nat) (T : Tm) (H : Heap) (r : Xx × Tm × Heap), jK f k T H = some r → jK g k T H = some r
 | 0, T, H, r, hr => by cases hr
 | k + 1, T, H, r, hr => by
  simp only [jK] at hr ⊢
  split at hr
  ·rename_i c H1 h1
   rw [h _ _ _ h1]
   exact ahq h k _ _ _ hr
  ·rename_i a
   rw [h _ _ _ hr]
   obtain ⟨x, b, H'⟩ := r
   cases x with
   | pan v => rfl
   | ex e => cases e <;> first | rfl | exact absurd hr (a _ _)
theorem ahm {pc : fj} (h : Le c c') {m : Nat} {rd : Bool} : ∀ (ac : ACode) (T : Tm) (H : Heap) (r : Xx × Tm × Heap), cK c pc m rd ac T H = some r → cK c' pc m rd ac T H = some r := by
 intro ac
 have other : ∀ (ac : ACode) (T : Tm) (H : Heap) (r : Xx × Tm × Heap), (match aZ c m rd ac T H with | some (x, g, H') => some (Xx.ex x, g, H') | none => none) = some r → (match aZ c' m rd ac T H with | some (x, g, H') => some (Xx.ex x, g, H') | none => none) = some r := by
  intro ac T H r hr
  split at hr
  ·rename_i x k H1 h1
   rw [Cj h _ _ _ _ h1]; exact hr
  ·cases hr
 induction ac with
 | skip => intro T H r hr; exact other .skip _ _ _ hr
 | exit i => intro T H r hr; exact other (.exit i) _ _ _ hr
 | goto l => intro T H r hr; exact other (.goto l) _ _ _ hr
 | ret => intro T H r hr; exact other .ret _ _ _ hr
 | rangeFunc f ps a b _ _ => intro T H r hr; exact other (.rangeFunc f ps a b) _ _ _ hr
 | rangeM pre x it nx ex b1 b2 en os rest W _ => intro T H r hr; exact other (.rangeM pre x it nx ex b1 b2 en os rest W) _ _ _ hr
 | scopeL a l rest d _ =>
  intro T H r hr
  simp only [cK] at hr ⊢
  split at hr
  ·rename_i q k H1 h1
   rw [d _ _ _ h1]
   exact other (.scopeL a l rest) _ _ _ hr
  ·rename_i j
   rw [d _ _ _ hr]
   obtain ⟨x, g, H'⟩ := r
   cases x with
   | pan v => rfl
   | ex e => cases e <;> first | rfl | exact absurd hr (j _ _ _)
 | region ops =>
  intro T H r hr
  simp only [cK] at hr ⊢
  cases n : kU c pc H.next ops T { H with next := H.next + ops.length } with
  | none => rw [n] at hr; cases hr
  | some t => rw [n] at hr; rw [af6 h _ _ _ _ _ n]; exact hr
 | draw ds late =>
  intro T H r hr
  simp only [cK] at hr ⊢
  cases hp : l4 pc ds [] T H with
  | some p => rw [hp] at hr; exact hr
  | none =>
   rw [hp] at hr
   simp only at hr ⊢
   cases hd : jo c ds late T H with
   | none => rw [hd] at hr; cases hr
   | some p => obtain ⟨k, H1⟩ := p; rw [hd] at hr; rw [ahh h hd]; exact hr
 | drawF ds late last mid =>
  intro T H r hr
  simp only [cK] at hr ⊢
  cases hp : l4 pc ds mid T H with
  | some p => rw [hp] at hr; exact hr
  | none =>
   rw [hp] at hr
   simp only at hr ⊢
   cases hd : xC c ds late last mid T H with
   | none => rw [hd] at hr; cases hr
   | some p => obtain ⟨k, H1⟩ := p; rw [hd] at hr; rw [agd h hd]; exact hr
 | seq a b d o =>
  intro T H r hr
  simp only [cK] at hr ⊢
  split at hr
  ·rename_i k H1 h1
   rw [d _ _ _ h1]
   exact o _ _ _ hr
  ·rename_i j
   rw [d _ _ _ hr]
   obtain ⟨x, g, H'⟩ := r
   cases x with
   | pan v => rfl
   | ex e => cases e <;> first | rfl | exact absurd hr (j _ _)
 | cond s a b d o =>
  intro T H r hr
  simp only [cK] at hr ⊢
  split at hr
  ·exact d _ _ _ hr
  ·exact o _ _ _ hr
  ·cases hr
 | block id a d =>
  intro T H r hr
  simp only [cK] at hr ⊢
  split at hr
  ·rename_i i k H1 h1
   rw [d _ _ _ h1]
   exact hr
  ·rename_i j
   rw [d _ _ _ hr]
   obtain ⟨x, g, H'⟩ := r
   cases x with
   | pan v => rfl
   | ex e => cases e <;> first | rfl | exact absurd hr (j _ _ _)
 | loop a d =>
  intro T H r hr
  simp only [cK] at hr ⊢
  exact ahq d _ _ _ _ hr
 | scope a d =>
  intro T H r hr
  simp only [cK] at hr ⊢
  split at hr
  ·cases hr
  ·rename_i j
   rw [d _ _ _ hr]
   obtain ⟨x, g, H'⟩ := r
   cases x with
   | pan v => rfl
   | ex e => cases e <;> first | rfl | exact absurd hr (j _ _ _)
theorem amu {pc : fj} (h : Le c c') {m : Nat} : ∀ (a : ABody) (T : Tm) (H : Heap) (r : Option AV × Option AV × Tm × Heap), g8 c pc m a T H = some r → g8 c' pc m a T H = some r := by
 intro a
 induction a with
 | code ac =>
  intro T H r hr
  simp only [g8] at hr ⊢
  cases hx : cK c pc m false ac T H with
  | none => rw [hx] at hr; cases hr
  | some p => rw [hx] at hr; rw [ahm h _ _ _ _ hx]; exact hr
 | seq ac b ih =>
  intro T H r hr
  simp only [g8] at hr ⊢
  cases hx : cK c pc m false ac T H with
  | none => rw [hx] at hr; cases hr
  | some p =>
   rw [hx] at hr; rw [ahm h _ _ _ _ hx]
   obtain ⟨x, i, H1⟩ := p
   cases x with
   | pan v => exact hr
   | ex e => cases e <;> first | exact hr | exact ih _ _ _ hr
 | dfr ops f b ih =>
  intro T H r hr
  simp only [g8] at hr ⊢
  cases d : fN c H.next ops T { H with next := H.next + (ops.length + 1) } with
  | none => rw [d] at hr; cases hr
  | some p =>
   obtain ⟨i, H1⟩ := p
   rw [d] at hr; rw [CO h _ _ _ _ _ d]
   simp only at hr ⊢
   split at hr
   ·rename_i g fs cs hf
    cases hb : g8 c pc m b i H1 with
    | none => rw [hb] at hr; cases hr
    | some p => rw [hb] at hr; rw [ih _ _ _ hb]; exact hr
   ·cases hr
theorem akt {b : Nat → Option AFn} (h : Le c c') {m : Nat} {p : Option AV} {a : AV} {H : Heap} {r : Heap} (hr : Cb b c m p a H = some r) : Cb b c' m p a H = some r := by
 unfold Cb at hr ⊢
 split at hr
 ·split at hr
  ·split at hr
   ·split at hr
    ·rename_i ha
     rw [if_pos ha]
     cases hx : aZ c m false _ _ H with
     | none => rw [hx] at hr; cases hr
     | some q => rw [hx] at hr; rw [Cj h _ _ _ _ hx]; exact hr
    ·cases hr
   ·cases hr
  ·cases hr
 ·cases hr
theorem aj5 {a : Nat → Option AFn} {pc : fj} (h : Le c c') {m : Nat} {fn : AFn} {b : ABody} {args : List AV} {H : Heap} {r : AV × Heap} (hr : CD a c pc m fn b args H = some r) : CD a c' pc m fn b args H = some r := by
 unfold CD at hr ⊢
 split at hr
 ·rename_i ha
  rw [if_pos ha]
  cases hb : g8 c pc m b (args ++ List.replicate (fn.ntmps - args.length) .undef) H with
  | none => rw [hb] at hr; cases hr
  | some q =>
   rw [hb] at hr; rw [amu h _ _ _ _ hb]
   obtain ⟨p, d, T, H'⟩ := q
   cases d with
   | none => cases p <;> exact hr
   | some e =>
    simp only at hr ⊢
    cases hv : Cb a c m p e H' with
    | none => rw [hv] at hr; cases hr
    | some H2 => rw [hv] at hr; rw [akt h hv]; exact hr
 ·cases hr
theorem am8 {a : Nat → Option AFn} {pc : fj} (h : Le c c') {m : Nat} {t : Task} {H : Heap} {r : AV × Heap} (hr : fA a pc c m t H = some r) : fA a pc c' m t H = some r := by
 cases t with
 | fn f args =>
  simp only [fA] at hr ⊢
  split at hr
  ·cases hr
  ·rename_i fn hfn
   split at hr
   ·exact aj5 h hr
   ·rename_i str gs ty _
    cases hk : mW H str gs ty args with
    | some q => rw [hk] at hr; exact hr
    | none => rw [hk] at hr; exact aen h hr
   ·exact hr
   ·exact aen h hr
 | ent f args =>
  simp only [fA] at hr ⊢
  split at hr
  ·cases hr
  ·rename_i fn hfn
   split at hr
   ·cases hr
   ·exact aen h hr
 | round b args =>
  simp only [fA] at hr ⊢
  split at hr
  ·rename_i T ps i body hb
   split at hr
   ·rename_i ha
    rw [if_pos ha]
    split at hr
    ·rename_i e H1 h1
     rw [Cj h _ _ _ _ h1]
     split at hr
     ·rename_i g l j k d
      simp only [d]
      split at hr
      ·rename_i x T2 H2 h2
       rw [Cj h _ _ _ _ h2]
       exact hr
      ·cases hr
     ·cases hr
    ·cases hr
   ·cases hr
  ·cases hr
end
end Go.Proofs.YtopigipibioclaaGreatDoor.Ev

namespace Go.Proofs.YtopigipibioclaaGreatDoor.Ev
open Go
set_option linter.all false
/-! ### What an operation answers hangs on its slots alone -/
section
variable {ev ev' : Src → AV}
theorem af9 {op : AOp} (h : ∀ s, (∀ n ∈ gr s, n ∈ op.slots) → ev s = ev' s) : bJ ev op = bJ ev' op := by
 cases op
 case build z ps =>
  have e : (ps.map fun p => (p.1, ev p.2)) = ps.map fun p => (p.1, ev' p.2) := List.map_congr_left fun p hp => by
   rw [h p.2 fun n hn => by simp only [AOp.slots, List.mem_flatMap]; exact ⟨p, hp, hn⟩]
  simp only [bJ, e]
 case mkfn f a b =>
  have e1 : a.map ev = a.map ev' := List.map_congr_left fun s hs => h s fun n hn => by simp only [AOp.slots, List.mem_append, List.mem_flatMap]; exact .inl ⟨s, hs, hn⟩
  have e2 : b.map ev = b.map ev' := List.map_congr_left fun s hs => h s fun n hn => by simp only [AOp.slots, List.mem_append, List.mem_flatMap]; exact .inr ⟨s, hs, hn⟩
  simp only [bJ, e1, e2]
 case min xs =>
  have e1 : xs.map ev = xs.map ev' := List.map_congr_left fun s hs => h s fun n hn => by simp only [AOp.slots, List.mem_flatMap]; exact ⟨s, hs, hn⟩
  simp only [bJ, e1]
 case max xs =>
  have e1 : xs.map ev = xs.map ev' := List.map_congr_left fun s hs => h s fun n hn => by simp only [AOp.slots, List.mem_flatMap]; exact ⟨s, hs, hn⟩
  simp only [bJ, e1]
 case slice size x a b c =>
  have ex := h x fun n hn => by simp [AOp.slots, hn]
  have e : ∀ o : Option Src, (∀ n ∈ oT o, n ∈ (AOp.slice size x a b c).slots) → o.map ev = o.map ev' := fun o d => by
   cases o with
   | none => rfl
   | some s => simp only [Option.map_some]; rw [h s d]
  simp only [bJ, ex, e a (fun n hn => by simp [AOp.slots, hn]), e b (fun n hn => by simp [AOp.slots, hn]), e c (fun n hn => by simp [AOp.slots, hn])]
 case sliceStr x a b =>
  have ex := h x fun n hn => by simp [AOp.slots, hn]
  have e : ∀ o : Option Src, (∀ n ∈ oT o, n ∈ (AOp.sliceStr x a b).slots) → o.map ev = o.map ev' := fun o d => by
   cases o with
   | none => rfl
   | some s => simp only [Option.map_some]; rw [h s d]
  simp only [bJ, ex, e a (fun n hn => by simp [AOp.slots, hn]), e b (fun n hn => by simp [AOp.slots, hn])]
 all_goals
  simp only [bJ]
  try (repeat rw [h _ (fun n hn => by simp [AOp.slots, hn])])
theorem agq {op : AOp} {H : Heap} {id : Nat} (h : ∀ s, (∀ n ∈ gr s, n ∈ op.slots) → ev s = ev' s) : bR ev H id op = bR ev' H id op := by
 cases op
 case buildSlice ty size z len ps =>
  have e : (ps.map fun p => (p.1, ev p.2)) = ps.map fun p => (p.1, ev' p.2) := List.map_congr_left fun p hp => by
   rw [h p.2 fun n hn => by simp only [AOp.slots, List.mem_flatMap]; exact ⟨p, hp, hn⟩]
  simp only [bR, e]
 case append size bytes ty z x y =>
  have e1 := h x fun n hn => by simp [AOp.slots, hn]
  have e2 := h y fun n hn => by simp [AOp.slots, hn]
  simp only [bR, e1, e2]
 case mksl ty size bytes z x y =>
  have e1 := h x fun n hn => by simp [AOp.slots, hn]
  have e2 := h y fun n hn => by simp [AOp.slots, hn]
  simp only [bR, e1, e2]
 case box ty x =>
  have e1 := h x fun n hn => by simp [AOp.slots, hn]
  simp only [bR, e1]
 all_goals
  simp only [bR]
  try (repeat rw [h _ (fun n hn => by simp [AOp.slots, hn])])
theorem ajq {op : AOp} {a : dZ} {H : Heap} {id : Nat} (h : ∀ s, (∀ n ∈ gr s, n ∈ op.slots) → ev s = ev' s) : gB a ev H id op = gB a ev' H id op := by
 cases op
 case call f args =>
  have e1 := h f fun n hn => by simp [AOp.slots, hn]
  have e2 : args.map ev = args.map ev' := List.map_congr_left fun s hs => h s fun n hn => by simp only [AOp.slots, List.mem_append, List.mem_flatMap]; exact .inr ⟨s, hs, hn⟩
  simp only [gB, e1, e2]
 all_goals
  simp only [gB]
  rw [af9 h, agq h]
end
theorem sj {op : AOp} {t t' : Tm} (h : ∀ n ∈ op.slots, eQ t n = eQ t' n) : ∀ s, (∀ n ∈ gr s, n ∈ op.slots) → Src.ev t s = Src.ev t' s := by
 intro s hs
 cases s with
 | c v => rfl
 | t n => exact h n (hs n (by simp [gr]))
/-! ### Slots, by the operation that has filled them -/
theorem ali (T0 : Tm) (Vs : List AV) : ∀ (us : List (Nat × Option Nat)) (T : Tm) (n : Nat), n < T.length →
  eQ (us.foldl (fun T u => T.set u.1 (ie T0 Vs u)) T) n = match kf us n with | some u => ie T0 Vs (n, u) | none => eQ T n
 | [], T, n, hn => rfl
 | u :: us, T, n, hn => by
  rw [List.foldl_cons, ali T0 Vs us _ n (by rw [List.length_set]; exact hn)]
  simp only [kf]
  cases h : kf us n with
  | some x => rfl
  | none =>
   simp only
   by_cases e : u.1 = n
   ·subst e
    rw [if_pos rfl]
    simp only [eQ, List.getD_eq_getElem?_getD]
    rw [List.getElem?_set_self hn]
    rfl
   ·rw [if_neg e]
    simp only [eQ, List.getD_eq_getElem?_getD]
    rw [List.getElem?_set_ne e]
theorem al8 {T0 : Tm} {Vs : List AV} {us : List (Nat × Option Nat)} {n : Nat} {u : Option Nat} (hn : n < T0.length) (h : kf us n = some u) : eQ (cF T0 Vs us) n = ie T0 Vs (n, u) := by
 unfold cF
 rw [ali _ _ _ _ _ (by rw [List.length_replicate]; exact hn), h]
theorem Y7 : ∀ (ds : List DOp) (Vs : List AV) (T : Tm) (n : Nat), Vs.length = ds.length → n < T.length →
  eQ (kb T ds Vs) n = ie T Vs (n, o6 ds n)
 | [], [], T, n, _, hn => rfl
 | d :: ds, v :: vs, T, n, hl, hn => by
  simp only [kb, o6]
  have hl : vs.length = ds.length := by simpa using hl
  have hlen : (fL T d.dst v).length = T.length := by cases d.dst <;> simp [fL]
  rw [Y7 ds vs _ n hl (by rw [hlen]; exact hn)]
  cases h : o6 ds n with
  | some j => simp [ie]
  | none =>
   simp only [ie]
   by_cases e : d.dst = some n
   ·rw [if_pos e, e]
    simp only [fL, eQ, List.getD_eq_getElem?_getD]
    rw [List.getElem?_set_self hn]
    rfl
   ·rw [if_neg e]
    cases hd : d.dst with
    | none => rfl
    | some x =>
     simp only [fL, eQ, List.getD_eq_getElem?_getD]
     rw [List.getElem?_set_ne (fun h => e (by rw [hd, h]))]
theorem ahk : ∀ (ds : List DOp) (n j : Nat), o6 ds n = some j → j < ds.length
 | [], n, j, h => by cases h
 | d :: ds, n, j, h => by
  simp only [o6] at h
  split at h
  ·rename_i j' hj
   cases h
   have := ahk ds n _ hj
   simp; omega
  ·split at h
   ·cases h; simp
   ·cases h
theorem q8 {T : Tm} {Vs Vs' : List AV} {n : Nat} {u : Option Nat} (hp : Vs <+: Vs') (a : ∀ j, u = some j → j < Vs.length) : ie T Vs' (n, u) = ie T Vs (n, u) := by
 cases u with
 | none => rfl
 | some j => exact xK hp (a j rfl) _
theorem ak8 {t t' : Tm} {g : Option (Nat × Bool)} (hl : t.length = t'.length) (h : ∀ n w, g = some (n, w) → n < t.length ∧ eQ t n = eQ t' n) : iv t g = iv t' g := by
 cases g with
 | none => rfl
 | some p =>
  obtain ⟨n, w⟩ := p
  obtain ⟨h1, h2⟩ := h n w rfl
  have e : t[n]? = t'[n]? := by
   simp only [eQ, List.getD_eq_getElem?_getD] at h2
   rw [List.getElem?_eq_getElem h1, List.getElem?_eq_getElem (by omega : n < t'.length)] at h2 ⊢
   simpa using h2
  simp only [iv, e]
/-! ### The oh side's lists -/
theorem ako : ∀ (Cs : List Heap) (n : Nat), pK Cs n = Cs.getD n default
 | [], n => rfl
 | a :: l, 0 => rfl
 | a :: l, n + 1 => by show pK l n = _; rw [ako l n, List.getD_cons_succ]
theorem ape : ∀ (Es : List (Option Ent)) (n : Nat), vA Es n = Es.getD n none
 | [], n => rfl
 | a :: l, 0 => rfl
 | a :: l, n + 1 => by show vA l n = _; rw [ape l n, List.getD_cons_succ]
theorem aln {α : Type} {l : List α} {k i : Nat} {d : α} (hl : l.length = i) (hk : k < i) : l.reverse.getD (i - 1 - k) d = l.getD k d := by
 rw [List.getD_eq_getElem?_getD, List.getD_eq_getElem?_getD, List.getElem?_reverse (by omega)]
 congr 2
 omega
theorem aka {x i : Nat} {Es : List (Option Ent)} (hl : Es.length = i) : ∀ (adds : List Nat) (H : Heap), (∀ a ∈ adds, a < i) → qA x Es.reverse (uk i adds) H = dU x Es H adds
 | [], H, _ => rfl
 | a :: adds, H, h => by
  have e1 : qA x Es.reverse (uk i (a :: adds)) H = qA x Es.reverse (uk i adds) (@Option.rec Ent (fun _ => Heap) H (fun e => H.put (Nat.add x a) e) (vA Es.reverse (i - 1 - a))) := rfl
  have e2 : dU x Es H (a :: adds) = dU x Es (match Es.getD a none with | some e => H.put (x + a) e | none => H) adds := rfl
  rw [e1, e2, aka hl adds _ (fun b hb => h b (List.mem_cons_of_mem _ hb)), ape, aln hl (h a (List.mem_cons_self ..))]
  cases Es.getD a none <;> rfl
theorem ak9 {x i acts k : Nat} {adds : List Nat} {Cs : List Heap} {Es : List (Option Ent)} (b : Cs.length = acts + 1) (c : Es.length = i) (hk : k ≤ acts) (ha : ∀ a ∈ adds, a < i) :
  nQ (acts - k) (uk i adds) x Cs.reverse Es.reverse = dU x Es (Cs.getD k default) adds := by
 unfold nQ
 rw [ako, aka c _ _ ha]
 have e := aln (d := (default : Heap)) b (show k < acts + 1 by omega)
 rw [show acts - k = acts + 1 - 1 - k by omega, e]
theorem YD {acts i : Nat} {p : Nat × List Nat} (h : Cn acts i p = true) : p.1 ≤ acts ∧ ∀ a ∈ p.2, a < i := by
 unfold Cn at h
 simp only [Bool.and_eq_true, List.all_eq_true] at h
 exact ⟨Nat.le_of_ble_eq_true h.1, fun a ha => Nat.le_of_ble_eq_true (h.2 a ha)⟩
mutual
theorem AV.beq_refl : ∀ (a : AV), AV.beq a a = true
 | .undef => rfl
 | .bool a => by simp [AV.beq]
 | .int k a => by simp [AV.beq]
 | .str a => by simp [AV.beq]
 | .nilPtr => rfl
 | .nilSl => rfl
 | .nilFn => rfl
 | .nilIf => rfl
 | .nilMap => rfl
 | .agg a => by simp only [AV.beq]; exact AV.beqs_refl a
 | .tup a => by simp only [AV.beq]; exact AV.beqs_refl a
 | .sl a n => by simp [AV.beq, AV.beqs_refl a]
 | .dp a n => by simp [AV.beq, AV.beqs_refl a]
 | .own .. => by simp [AV.beq]
 | .ptr .. => by simp [AV.beq]
 | .fn f a c => by simp [AV.beq, AV.beqs_refl a, AV.beqs_refl c]
 | .ifc t a => by simp [AV.beq, AV.beq_refl a]
 | .map a => by simp [AV.beq]
 | .loopv a => by simp [AV.beq]
theorem AV.beqs_refl : ∀ (a : List AV), AV.beqs a a = true
 | [] => rfl
 | x :: a => by simp only [AV.beqs, AV.beq_refl x, AV.beqs_refl a, Bool.and_self]
end
/-! ### One operation -/
structure DRel (nt : Nat) (T0 : Tm) (pre : List DOp) (acts : Nat) (T : Tq) (CsF : List Heap) (EsF : List (Option Ent)) (s : DS) : Prop where
 t : TRel nt T (kb T0 pre s.Vs)
 c : CsF = s.Cs.reverse
 e : EsF = s.Es.reverse
 lv : s.Vs.length = pre.length
 le : s.Es.length = pre.length
 lc : s.Cs.length = acts + 1
theorem alr {b : dZ} {id : Nat} {d : Option Nat} {op : AOp} {g : Option (Nat × Bool)} {t t' : Tm} {H H' : Heap} (h : jk b id ⟨d, op, g⟩ t H = some (t', H')) :
  (iv t g = some true ∧ ∃ v, gB b (Src.ev t) H id op = some (v, H') ∧ t' = fL t d v) ∨ (iv t g = some false ∧ t' = fL t d (.tup []) ∧ H' = H) := by
 unfold jk at h
 simp only [fN] at h
 split at h
 ·rename_i a
  split at h
  ·rename_i v H1 hv
   cases h
   exact .inl ⟨a, v, hv, rfl⟩
  ·cases h
 ·rename_i a
  cases h
  exact .inr ⟨a, rfl, rfl⟩
 ·cases h
structure Seen (nt : Nat) (T0 : Tm) (d : DOp) (u t : Tm) : Prop where
 lu : u.length = T0.length
 lt : t.length = T0.length
 at' : ∀ n ∈ d.slots, n < T0.length ∧ eQ t n = eQ u n
theorem Seen.guard {nt : Nat} {T0 : Tm} {d : DOp} {u t : Tm} (h : Seen nt T0 d u t) : iv t d.guard = iv u d.guard :=
 ak8 (h.lt.trans h.lu.symm) fun n w e => by
  obtain ⟨h1, h2⟩ := h.at' n (by unfold DOp.slots; rw [e]; simp)
  exact ⟨by rw [h.lt]; exact h1, h2⟩
theorem Seen.ev {nt : Nat} {T0 : Tm} {d : DOp} {u t : Tm} (h : Seen nt T0 d u t) : ∀ s, (∀ n ∈ gr s, n ∈ d.op.slots) → Src.ev t s = Src.ev u s :=
 sj fun n hn => (h.at' n (by unfold DOp.slots; exact List.mem_append_left _ hn)).2
theorem aip {nt : Nat} {T0 : Tm} {pre : List DOp} {d : DOp} {Vs Vs' : List AV} (b : T0.length = nt) (a : Vs.length = pre.length) (hp : Vs <+: Vs')
  (hs : ∀ n ∈ d.slots, n < nt ∧ kf d.uses n = some (o6 pre n)) : Seen nt T0 d (cF T0 Vs' d.uses) (kb T0 pre Vs) := by
 refine ⟨(Yw _ _ _).1, XY _ _ _, fun n hn => ?_⟩
 obtain ⟨h1, h2⟩ := hs n hn
 rw [← b] at h1
 refine ⟨h1, ?_⟩
 rw [al8 h1 h2, Y7 _ _ _ _ a h1]
 exact (q8 hp fun j hj => by rw [a]; exact ahk _ _ _ hj).symm
theorem ag5 {nt a acts i : Nat} {ds : List DOp} {d : DOp} (h : mm nt ds a acts i d = true) : ∀ n ∈ d.slots, n < nt ∧ kf d.uses n = some (o6 (ds.take i) n) := by
 unfold mm at h
 simp only [Bool.and_eq_true, List.all_eq_true] at h
 intro n hn
 have := h.1 n hn
 exact ⟨Nat.le_of_ble_eq_true this.1, of_decide_eq_true this.2⟩
theorem vt {op : AOp} {a : dZ} {ev : Src → AV} {H H' : Heap} {id : Nat} {v : AV} (hp : op.isPure = true) (h : gB a ev H id op = some (v, H')) : bJ ev op = some v := by
 cases op <;> simp only [AOp.isPure] at hp <;> first | (cases hp; done) | skip
 all_goals
  simp only [gB] at h
  split at h
  ·rename_i u b
   cases h
   exact b
  ·simp [bR] at h
theorem ank {op : AOp} {a : dZ} {T : Tm} {H H' : Heap} {id : Nat} {v : AV} (hp : op.looks = true) (h : gB a (Src.ev T) H id op = some (v, H')) : bJ (Src.ev T) op = none ∧ bR (Src.ev T) H 0 op = some (v, H) := by
 have h1 : bJ (Src.ev T) op = none := by cases op <;> simp only [AOp.looks] at hp <;> first | (cases hp; done) | rfl
 refine ⟨h1, ajb (fun b e hb => hb) hp (D := H) (D' := H') (i := id) ?_⟩
 cases op <;> simp only [AOp.looks] at hp <;> first | (cases hp; done) | skip
 all_goals
  simp only [gB, h1] at h
  exact h
theorem vE {op : AOp} {a : dZ} {T : Tm} {H H' : Heap} {id : Nat} {v : AV} (hp : op.makes = true) (h : gB a (Src.ev T) H id op = some (v, H')) : bR (Src.ev T) H id op = some (v, H') := by
 have h1 : bJ (Src.ev T) op = none := by cases op <;> simp only [AOp.makes] at hp <;> first | (cases hp; done) | rfl
 cases op <;> simp only [AOp.makes] at hp <;> first | (cases hp; done) | skip
 all_goals
  simp only [gB, h1] at h
  exact h
theorem Tr.nil_get0 (b : Nat) : Tr.nil.get b = none := by
 have : ∀ {α : Type} (d : D8) (x : α), Q.at d (Q.all x) = x := fun d x => by cases d <;> rfl
 unfold Tr.get Tr.nil
 cases Nat.ble b 16777215 with
 | false => rfl
 | true => simp only [this]
theorem Tr.nil_get (n b : Nat) : Heap.get (Heap.nil n) b = none := by
 have h : Nat.ble (Nat.succ b) 0 = false := rfl
 unfold Heap.nil Heap.get
 simp only [h]
 exact Tr.nil_get0 b
theorem KW {o : iw} {j : dZ} (hc : qC o j) {nt I acts i x : Nat} {T0 : Tm} {ds : List DOp} {d : DOp} (hi : (ds.take i).length = i) (hok : mm nt ds I acts i d = true) (F : T0.length = nt)
  {T : Tq} {CsF : List Heap} {EsF : List (Option Ent)} {s : DS} (f : DRel nt T0 (ds.take i) acts T CsF EsF s) {n : DK} {r : AV × Heap} (hr : pn nt acts i d o x T CsF EsF n = some r) :
  ∃ l a, lG j x T0 i d s = some l ∧ DRel nt T0 (ds.take i ++ [d]) (if d.cls = 2 then acts + 1 else acts) a l.Cs.reverse l.Es.reverse l ∧ n a l.Cs.reverse l.Es.reverse = some r := by
 have G := ag5 hok
 have A := aip F f.lv (List.prefix_rfl) G
 have B := A.guard
 have hop : ∀ (H : Heap) (id : Nat), gB j (Src.ev (kb T0 (ds.take i) s.Vs)) H id d.op = gB j (Src.ev (cF T0 s.Vs d.uses)) H id d.op := fun H id => ajq A.ev
 have run : ∀ {m : Heap} {K : K1}, iW nt i ⟨d.dst, d.op, d.guard⟩ o x T m K = some r →
   ∃ v H' a, TRel nt a (kb T0 (ds.take i ++ [d]) (s.Vs ++ [v])) ∧ K a H' = some r ∧
    ((iv (cF T0 s.Vs d.uses) d.guard = some true ∧ gB j (Src.ev (cF T0 s.Vs d.uses)) m (x + i) d.op = some (v, H')) ∨
     (iv (cF T0 s.Vs d.uses) d.guard = some false ∧ v = .tup [] ∧ H' = m)) := by
  intro m K hr
  obtain ⟨t', H', a, h1, h2, h3⟩ := XM ⟨d.dst, d.op, d.guard⟩ o j hc T _ m K x r f.t hr
  rcases alr h1 with ⟨c, v, hv, e⟩ | ⟨c, e, e2⟩
  ·refine ⟨v, H', a, ?_, h3, .inl ⟨B ▸ c, by rw [← hop]; exact hv⟩⟩
   rw [Y3 _ _ _ _ _ f.lv.symm, ← e]; exact h2
  ·refine ⟨.tup [], H', a, ?_, h3, .inr ⟨B ▸ c, rfl, e2⟩⟩
   rw [Y3 _ _ _ _ _ f.lv.symm, ← e]; exact h2
 have C : s.Es.length = i := f.le.trans hi
 have b := hok
 unfold mm at b
 simp only [Bool.and_eq_true] at b
 obtain ⟨-, b⟩ := b
 unfold pn at hr
 rw [f.c, f.e] at hr
 have h3 : d.cls = 0 ∨ d.cls = 1 ∨ d.cls = 2 := by
  split at b
  ·rename_i h; exact .inl h
  ·rename_i h; exact .inr (.inl h)
  ·rename_i h; exact .inr (.inr h)
  ·cases b
 rcases h3 with hcls | hcls | hcls
 ·simp only [hcls] at b hr
  have t : ¬ (d.cls = 2) := by rw [hcls]; decide
  have z : ∀ v a, TRel nt a (kb T0 (ds.take i ++ [d]) (s.Vs ++ [v])) → DRel nt T0 (ds.take i ++ [d]) (if d.cls = 2 then acts + 1 else acts) a s.Cs.reverse (s.Es ++ [none]).reverse ⟨s.Vs ++ [v], s.Cs, s.Es ++ [none]⟩ := fun v a g =>
   ⟨g, rfl, rfl, by simp [f.lv], by simp [f.le], by rw [if_neg t]; exact f.lc⟩
  have y : (s.Es ++ [none]).reverse = none :: s.Es.reverse := by simp
  by_cases q : d.op.looks = true
  ·rw [if_pos q] at b hr
   cases hl : d.looks with
   | nil => simp [hl] at b
   | cons p ps =>
    simp only [hl] at b hr
    rw [Bool.and_eq_true] at b
    obtain ⟨u, w⟩ := YD b.1
    unfold dl at hr
    rw [ak9 f.lc C u w] at hr
    obtain ⟨v, H', a, g, hk, hv⟩ := run hr
    refine ⟨⟨s.Vs ++ [v], s.Cs, s.Es ++ [none]⟩, a, ?_, z v a g, by rw [y]; exact hk⟩
    rcases hv with ⟨c, hv⟩ | ⟨c, rfl, -⟩
    ·obtain ⟨D, E⟩ := ank q hv
     simp only [lG, c, hcls, D, hl, q, if_true, E]
    ·simp only [lG, c, hcls]
  ·rw [if_neg q] at b hr
   unfold dl at hr
   obtain ⟨v, H', a, g, hk, hv⟩ := run hr
   refine ⟨⟨s.Vs ++ [v], s.Cs, s.Es ++ [none]⟩, a, ?_, z v a g, by rw [y]; exact hk⟩
   rcases hv with ⟨c, hv⟩ | ⟨c, rfl, -⟩
   ·simp only [lG, c, hcls, vt b hv]
   ·simp only [lG, c, hcls]
 ·simp only [hcls] at b hr
  have t : ¬ (d.cls = 2) := by rw [hcls]; decide
  unfold dm at hr
  obtain ⟨v, H', a, g, hk, hv⟩ := run hr
  refine ⟨⟨s.Vs ++ [v], s.Cs, s.Es ++ [H'.get (x + i)]⟩, a, ?_, ⟨g, rfl, rfl, by simp [f.lv], by simp [f.le], by rw [if_neg t]; exact f.lc⟩, by simp only [List.reverse_append, List.reverse_cons, List.reverse_nil, List.nil_append, List.singleton_append]; exact hk⟩
  rcases hv with ⟨c, hv⟩ | ⟨c, rfl, rfl⟩
  ·simp only [lG, c, hcls, b, if_true, vE b hv]
  ·simp only [lG, c, hcls, Tr.nil_get]
 ·simp only [hcls] at b hr
  cases hl : d.looks with
  | nil => simp [hl] at b
  | cons p ps =>
  cases ps with
  | cons J ps => simp [hl] at b
  | nil =>
   simp only [hl] at b hr
   obtain ⟨u, w⟩ := YD b
   obtain ⟨k, adds⟩ := p
   unfold da at hr
   rw [ak9 f.lc C u w] at hr
   obtain ⟨v, H', a, g, hk, hv⟩ := run hr
   refine ⟨⟨s.Vs ++ [v], s.Cs ++ [H'], s.Es ++ [none]⟩, a, ?_, ⟨g, rfl, rfl, by simp [f.lv], by simp [f.le], by rw [if_pos hcls]; simp [f.lc]⟩, by simp only [List.reverse_append, List.reverse_cons, List.reverse_nil, List.nil_append, List.singleton_append]; exact hk⟩
   rcases hv with ⟨c, hv⟩ | ⟨c, rfl, rfl⟩
   ·simp only [lG, c, hcls, hl, hv]
   ·simp only [lG, c, hcls, hl]
/-! ### All of them -/
theorem aj0 {ds : List DOp} {i : Nat} {d : DOp} {rest : List DOp} (h : ds.drop i = d :: rest) : ds.take i ++ [d] = ds.take (i + 1) ∧ ds.drop (i + 1) = rest ∧ i < ds.length ∧ ds[i]? = some d := by
 have hi : i < ds.length := by
  rcases Nat.lt_or_ge i ds.length with h' | h'
  ·exact h'
  ·rw [List.drop_eq_nil_of_le h'] at h; cases h
 have h2 := List.drop_eq_getElem_cons hi
 rw [h] at h2
 simp only [List.cons.injEq] at h2
 exact ⟨by rw [List.take_succ_eq_append_getElem hi, h2.1], h2.2.symm, hi, by rw [List.getElem?_eq_getElem hi, h2.1]⟩
theorem aoo {c : iw} {g : dZ} (hc : qC c g) {nt q x : Nat} {T0 : Tm} {ds : List DOp} (h : T0.length = nt) :
  ∀ (rest : List DOp) (acts i : Nat) (T : Tq) (CsF : List Heap) (EsF : List (Option Ent)) (s : DS) (n : DK) (r : AV × Heap), ds.drop i = rest → i ≤ ds.length → nX nt ds q acts i rest = true →
   DRel nt T0 (ds.take i) acts T CsF EsF s → sr nt acts i rest c x T CsF EsF n = some r →
   ∃ b f, qB g x T0 i rest s = some b ∧ DRel nt T0 ds (acts + (rest.filter fun d => d.cls == 2).length) f b.Cs.reverse b.Es.reverse b ∧ n f b.Cs.reverse b.Es.reverse = some r
 | [], acts, i, T, CsF, EsF, s, n, r, hd, hi, hok, a, hr => by
  have hlen : ds.length ≤ i := List.drop_eq_nil_iff.1 hd
  rw [List.take_of_length_le hlen] at a
  have hr : n T CsF EsF = some r := hr
  have e1 := a.c
  have e2 := a.e
  subst e1
  subst e2
  exact ⟨s, T, rfl, by simpa using a, hr⟩
 | d :: rest, acts, i, T, CsF, EsF, s, n, r, hd, hi, hok, a, hr => by
  obtain ⟨l, m, t, u⟩ := aj0 hd
  simp only [nX, Bool.and_eq_true] at hok
  have hr : pn nt acts i d c x T CsF EsF (fun T Cs Es => sr nt (if d.cls = 2 then acts + 1 else acts) (i + 1) rest c x T Cs Es n) = some r := hr
  obtain ⟨o, k, h1, h2, h3⟩ := KW hc (by rw [List.length_take]; omega) hok.1 h a hr
  rw [l] at h2
  obtain ⟨p, T2, k1, k2, k3⟩ := aoo hc h rest _ (i + 1) k _ _ o n r m (by omega) hok.2 h2 h3
  refine ⟨p, T2, by simp only [qB, h1]; exact k1, ?_, k3⟩
  have e : acts + ((d :: rest).filter fun d => d.cls == 2).length = (if d.cls = 2 then acts + 1 else acts) + (rest.filter fun d => d.cls == 2).length := by
   rw [List.filter_cons]
   by_cases j : d.cls = 2
   ·simp [j]; omega
   ·simp [j]
  rw [e]
  exact k2
theorem akg {nt c : Nat} {ds : List DOp} : ∀ (rest : List DOp) (acts i : Nat), nX nt ds c acts i rest = true → ∀ (q : Nat) (d : DOp), rest[q]? = some d → ∃ a, a = acts + ((rest.take q).filter fun d => d.cls == 2).length ∧ mm nt ds c a (i + q) d = true
 | [], acts, i, h, q, d, hq => by simp at hq
 | d0 :: rest, acts, i, h, q, d, hq => by
  simp only [nX, Bool.and_eq_true] at h
  cases q with
  | zero => simp at hq; subst hq; exact ⟨acts, by simp, h.1⟩
  | succ q =>
   obtain ⟨f, e, h'⟩ := akg rest _ _ h.2 q d (by simpa using hq)
   refine ⟨f, ?_, by rw [show i + (q + 1) = i + 1 + q by omega]; exact h'⟩
   rw [e, List.take_succ_cons, List.filter_cons]
   by_cases b : d0.cls = 2
   ·simp [b]; omega
   ·simp [b]
theorem rF {nt b acts i : Nat} {ds : List DOp} {d : DOp} (h : mm nt ds b acts i d = true) : d.cls = 0 ∨ d.cls = 1 ∨ d.cls = 2 := by
 unfold mm at h
 simp only [Bool.and_eq_true] at h
 have a := h.2
 split at a
 ·rename_i h; exact .inl h
 ·rename_i h; exact .inr (.inl h)
 ·rename_i h; exact .inr (.inr h)
 ·cases a
theorem tO {a : iw} {l : dZ} (hc : qC a l) {nt g x i : Nat} {T0 : Tm} {ds : List DOp} {d : DOp} {f : Nat} (hd : ds[i]? = some d) (y : T0.length = nt) {T : Tq} {s : DS}
  (b : DRel nt T0 ds g T s.Cs.reverse s.Es.reverse s) (h : Seen nt T0 d (cF T0 s.Vs d.uses) (kb T0 ds s.Vs)) (n : d.op.looks = true) (hdst : d.dst = some f) (hx : f < nt) (m : o6 ds f = some i)
  (t : iv (cF T0 s.Vs d.uses) d.guard = some true) :
  ∀ (ps : List (Nat × List Nat)) (c : uF) (k : R) (r : AV × Heap), (∀ p ∈ ps, Cn g ds.length p = true) → Cw nt g ds.length i d ps c a x T s.Cs.reverse s.Es.reverse k = some r →
   (∀ p ∈ ps, ∃ v H', bR (Src.ev (cF T0 s.Vs d.uses)) (dU x s.Es (s.Cs.getD p.1 default) p.2) 0 d.op = some (v, H') ∧ AV.beq v (s.Vs.getD i .undef) = true) ∧ c a x T s.Cs.reverse s.Es.reverse k = some r
 | [], c, k, r, _, hr => ⟨fun p hp => (by cases hp), hr⟩
 | p :: ps, c, k, r, o, hr => by
  have hr : iW nt i ⟨d.dst, d.op, d.guard⟩ a x T (nQ (g - p.1) (uk ds.length p.2) x s.Cs.reverse s.Es.reverse) (fun j _ => @Bool.rec (fun _ => R) none (Cw nt g ds.length i d ps c a x T s.Cs.reverse s.Es.reverse k) (AV.beq (pL (d.dst.getD 0) j) (pL (d.dst.getD 0) T))) = some r := hr
  obtain ⟨z, A⟩ := YD (o p (List.mem_cons_self ..))
  rw [ak9 b.lc b.le z A] at hr
  obtain ⟨t', H', j, h1, h2, h3⟩ := XM ⟨d.dst, d.op, d.guard⟩ a l hc T _ _ _ x r b.t hr
  rcases alr h1 with ⟨-, v, hv, e⟩ | ⟨u, -, -⟩
  ·rw [ajq h.ev] at hv
   obtain ⟨-, w⟩ := ank n hv
   obtain ⟨b1, b2⟩ := nM h3
   rw [hdst, Option.getD_some, h2.gt, b.t.gt, e, hdst] at b1
   have e1 : eQ (fL (kb T0 ds s.Vs) (some f) v) f = v := by
    simp only [fL, eQ, List.getD_eq_getElem?_getD]
    rw [List.getElem?_set_self (by rw [XY]; omega)]
    rfl
   have e2 : eQ (kb T0 ds s.Vs) f = s.Vs.getD i .undef := by
    rw [Y7 _ _ _ _ b.lv (by omega), m]; rfl
   rw [e1, e2] at b1
   obtain ⟨k1, k2⟩ := tO hc hd y b h n hdst hx m t ps c k r (fun q hq => o q (List.mem_cons_of_mem _ hq)) b2
   refine ⟨fun q hq => ?_, k2⟩
   rcases List.mem_cons.1 hq with rfl | hq
   ·exact ⟨v, _, w, b1⟩
   ·exact k1 q hq
  ·rw [h.guard, t] at u; cases u
theorem tP {a : iw} {f : dZ} (hc : qC a f) {nt b x i : Nat} {T0 : Tm} {ds : List DOp} {d : DOp} {T : Tq} {s : DS}
  (g : DRel nt T0 ds b T s.Cs.reverse s.Es.reverse s) :
  ∀ (ps : List (Nat × List Nat)) (c : uF) (k : R) (r : AV × Heap), Cw nt b ds.length i d ps c a x T s.Cs.reverse s.Es.reverse k = some r → c a x T s.Cs.reverse s.Es.reverse k = some r
 | [], c, k, r, hr => hr
 | p :: ps, c, k, r, hr => by
  have hr : iW nt i ⟨d.dst, d.op, d.guard⟩ a x T (nQ (b - p.1) (uk ds.length p.2) x s.Cs.reverse s.Es.reverse) (fun e _ => @Bool.rec (fun _ => R) none (Cw nt b ds.length i d ps c a x T s.Cs.reverse s.Es.reverse k) (AV.beq (pL (d.dst.getD 0) e) (pL (d.dst.getD 0) T))) = some r := hr
  obtain ⟨t', H', e, h1, h2, h3⟩ := XM ⟨d.dst, d.op, d.guard⟩ a f hc T _ _ _ x r g.t hr
  exact tP hc g ps c k r (nM h3).2
theorem pw {D : iw} {L : dZ} (hc : qC D L) {nt x : Nat} {T0 : Tm} {ds : List DOp} (j : T0.length = nt) {T : Tq} {s u : DS} (hok : nX nt ds (lE ds) 0 0 ds = true)
  (A : qB L x T0 0 ds u = some s) (J : u.Vs.length = 0 ∧ u.Es.length = 0 ∧ u.Cs.length = 1) (o : DRel nt T0 ds (lE ds) T s.Cs.reverse s.Es.reverse s) :
  ∀ (rest : List DOp) (i : Nat) (k : R) (r : AV × Heap), ds.drop i = rest → lk nt (lE ds) ds.length i rest D x T s.Cs.reverse s.Es.reverse k = some r → Cg x T0 s i rest = true ∧ k = some r
 | [], i, k, r, _, hr => ⟨rfl, hr⟩
 | d :: rest, i, k, r, hd, hr => by
  obtain ⟨g1, E, g3, w⟩ := aj0 hd
  have hcl : ∀ d ∈ ds, d.cls = 0 ∨ d.cls = 1 ∨ d.cls = 2 := fun d hd => by
   obtain ⟨q, hq⟩ := List.mem_iff_getElem?.1 hd
   obtain ⟨a', -, h'⟩ := akg _ _ _ hok q d hq
   exact rF h'
  obtain ⟨p1, p2, p3, p4, p5⟩ := af3 ds 0 u s hcl A
  obtain ⟨e, s2, c, Q, S, q4, q5⟩ := p5 i d w
  rw [Nat.zero_add] at c
  obtain ⟨acts, V, G⟩ := akg _ _ _ hok i d w
  rw [Nat.zero_add] at V G
  have K := ag5 G
  have hg := Y4 c (hcl d (List.mem_iff_getElem?.2 ⟨i, w⟩))
  have I : Pre e s := hg.1.trans Q
  have M := aip (nt := nt) (Vs := e.Vs) (Vs' := e.Vs) (d := d) (pre := ds.take i) j (by rw [S, List.length_take]; omega) List.prefix_rfl K
  have N := aip (nt := nt) (Vs := e.Vs) (Vs' := s.Vs) (d := d) (pre := ds.take i) j (by rw [S, List.length_take]; omega) I.1 K
  have t : iv (cF T0 e.Vs d.uses) d.guard = iv (cF T0 s.Vs d.uses) d.guard := M.guard.symm.trans N.guard
  have O : ∀ z, (∀ n ∈ gr z, n ∈ d.op.slots) → Src.ev (cF T0 e.Vs d.uses) z = Src.ev (cF T0 s.Vs d.uses) z := fun z hz => (M.ev z hz).symm.trans (N.ev z hz)
  have B : bJ (Src.ev (cF T0 e.Vs d.uses)) d.op = bJ (Src.ev (cF T0 s.Vs d.uses)) d.op := af9 O
  have ad : ∀ H id, bR (Src.ev (cF T0 e.Vs d.uses)) H id d.op = bR (Src.ev (cF T0 s.Vs d.uses)) H id d.op := fun H id => agq O
  have f := G
  unfold mm at f
  simp only [Bool.and_eq_true] at f
  obtain ⟨-, f⟩ := f
  simp only [lk] at hr
  simp only [Cg, Bool.and_eq_true]
  by_cases y : d.cls = 0 ∧ d.op.looks = true
  ·rw [if_pos y] at hr
   obtain ⟨hcls, g⟩ := y
   simp only [hcls, if_pos g] at f
   cases hl : d.looks with
   | nil => simp [hl] at f
   | cons p ps =>
   simp only [hl, Bool.and_eq_true, Bool.or_eq_true] at f
   rw [hl, List.tail_cons] at hr
   cases l : iv (cF T0 s.Vs d.uses) d.guard with
   | none =>
    rw [l] at t
    simp only [lG, t] at c
    cases c
   | some b =>
   cases b with
   | false =>
    obtain ⟨k1, k2⟩ := pw hc j hok A J o rest (i + 1) k r E (tP hc o ps _ _ _ hr)
    refine ⟨⟨?_, k1⟩, k2⟩
    unfold xH
    simp only [hcls, l]
   | true =>
    have P : bJ (Src.ev (cF T0 s.Vs d.uses)) d.op = none := by cases hop : d.op <;> rw [hop] at g <;> simp only [AOp.looks] at g <;> first | (cases g; done) | rfl
    obtain ⟨o1, o2⟩ := YD f.1
    -- the first look is what the evaluator took
    have first : ∃ H', bR (Src.ev (cF T0 s.Vs d.uses)) (dU x s.Es (s.Cs.getD p.1 default) p.2) 0 d.op = some (s.Vs.getD i .undef, H') := by
     rw [l] at t
     rw [P] at B
     simp only [lG, t, hcls, B, hl, g, if_true] at c
     rw [ad] at c
     split at c
     ·rename_i v H' hv
      cases c
      have ab : dU x e.Es (e.Cs.getD p.1 default) p.2 = dU x s.Es (s.Cs.getD p.1 default) p.2 := by
       rw [xK I.2.1 (by omega) default]
       exact ahd _ _ _ fun a hm => (xK I.2.2 (by have := o2 a hm; omega) _).symm
      rw [ab] at hv
      have : s.Vs.getD i .undef = v := by
       have h5 := Q.1
       have F : e.Vs.length = i := by omega
       rw [← F]; exact YI h5 _
      rw [this]
      exact ⟨H', hv⟩
     ·cases c
    have U : (∀ p ∈ ps, ∃ v H', bR (Src.ev (cF T0 s.Vs d.uses)) (dU x s.Es (s.Cs.getD p.1 default) p.2) 0 d.op = some (v, H') ∧ AV.beq v (s.Vs.getD i .undef) = true) ∧ lk nt (lE ds) ds.length (i + 1) rest D x T s.Cs.reverse s.Es.reverse k = some r := by
     rcases f.2 with he | ⟨⟨F, X⟩, m⟩
     ·have : ps = [] := by simpa using he
      subst this
      exact ⟨fun p hp => (by cases hp), hr⟩
     ·cases hdst : d.dst with
      | none => rw [hdst] at m; cases m
      | some xd =>
       rw [hdst] at m
       simp only [Bool.and_eq_true] at m
       have hx : xd < nt := Nat.le_of_ble_eq_true m.1
       have ae := of_decide_eq_true m.2
       have aa : Seen nt T0 d (cF T0 s.Vs d.uses) (kb T0 ds s.Vs) := by
        refine ⟨(Yw _ _ _).1, XY _ _ _, fun n hn => ?_⟩
        obtain ⟨C, z2⟩ := K n hn
        rw [← j] at C
        have z3 : o6 ds n = o6 (ds.take i) n := of_decide_eq_true (List.all_eq_true.1 X n hn)
        exact ⟨C, by rw [al8 C z2, Y7 _ _ _ _ o.lv C, z3]⟩
       exact tO hc w j o aa g hdst hx ae l ps _ _ _ (fun p hp => List.all_eq_true.1 F p hp) hr
    obtain ⟨k1, k2⟩ := pw hc j hok A J o rest (i + 1) k r E U.2
    refine ⟨⟨?_, k1⟩, k2⟩
    unfold xH
    simp only [hcls, l, P, hl, List.all_cons, Bool.and_eq_true, List.all_eq_true]
    obtain ⟨H', Z⟩ := first
    refine ⟨by rw [Z]; exact AV.beq_refl _, fun p hp => ?_⟩
    obtain ⟨v, H2, Y, W⟩ := U.1 p hp
    rw [Y]; exact W
  ·rw [if_neg y] at hr
   obtain ⟨k1, k2⟩ := pw hc j hok A J o rest (i + 1) k r E hr
   refine ⟨⟨?_, k1⟩, k2⟩
   unfold xH
   by_cases hcls : d.cls = 0
   ·have g : d.op.looks = false := by
     cases h : d.op.looks with
     | false => rfl
     | true => exact absurd ⟨hcls, h⟩ y
    cases l : iv (cF T0 s.Vs d.uses) d.guard with
    | none => simp only [hcls]
    | some b =>
    cases b with
    | false => simp only [hcls]
    | true =>
     cases af : bJ (Src.ev (cF T0 s.Vs d.uses)) d.op with
     | some v => simp only [hcls]
     | none =>
      exfalso
      rw [l] at t
      rw [af] at B
      simp only [lG, t, hcls, B, g] at c
      split at c
      ·rename_i h; simp at c
      ·cases c
   ·split
    ·rename_i h _ _; exact absurd h hcls
    ·rfl
theorem rW {m : Nat} {rd : Bool} {nt : Nat} {ds : List DOp} {late : List Nat} (hok : Xy nt ds late = true) : X0 m rd nt (akb nt ds late) (.draw ds late) := by
 intro b i hc T t H n e r hT hr
 unfold Xy at hok
 simp only [Bool.and_eq_true, List.all_eq_true] at hok
 obtain ⟨hok, hlate⟩ := hok
 have c : t.length = nt := hT.len
 have hr : sr nt 0 0 ds b H.next T [⟨H.next + ds.length, H.tr, H.lim, H.ovr⟩] [] (fun T Cs Es => lk nt (lE ds) ds.length 0 ds b H.next T Cs Es (n T (qA H.next Es (uk ds.length late) (pK Cs 0)))) = some r := hr
 have g : DRel nt t (ds.take 0) 0 T [⟨H.next + ds.length, H.tr, H.lim, H.ovr⟩] [] ⟨[], [{ H with next := H.next + ds.length }], []⟩ := ⟨hT, rfl, rfl, rfl, rfl, rfl⟩
 obtain ⟨s, f, h1, h2, h3⟩ := aoo hc c ds 0 0 T _ _ _ _ r rfl (Nat.zero_le _) hok g hr
 rw [Nat.zero_add] at h2
 obtain ⟨k1, k2⟩ := pw hc c hok h1 ⟨rfl, rfl, rfl⟩ h2 ds 0 _ r rfl h3
 refine ⟨.nrm, kb t ds s.Vs, dU H.next s.Es (s.Cs.getLastD default) late, f, ?_, h2.t, ?_⟩
 ·simp only [aZ, jo, h1, k1, if_true]
 ·have e1 : pK s.Cs.reverse 0 = s.Cs.getLastD default := by
   rw [ako]
   have d := h2.lc
   rcases List.eq_nil_or_concat s.Cs with h | ⟨l, a, h⟩
   ·rw [h] at d; simp at d
   ·rw [h]; simp
  rw [e1, aka h2.le _ _ (fun a ha => Nat.le_of_ble_eq_true (hlate a ha))] at k2
  exact k2
end Go.Proofs.YtopigipibioclaaGreatDoor.Ev

namespace Go.Proofs.YtopigipibioclaaGreatDoor.Ev
open Go
set_option linter.all false
/-! ### How many slots: that stays -/
theorem ah8 (t : Tm) (d : Option Nat) (v : AV) : (fL t d v).length = t.length := by cases d <;> simp [fL]
theorem YE {a : dZ} : ∀ (os : List ROp) (id : Nat) (t : Tm) (H : Heap) (t' : Tm) (H' : Heap), fN a id os t H = some (t', H') → t'.length = t.length
 | [], id, t, H, t', H', h => by cases h; rfl
 | o :: os, id, t, H, t', H', h => by
  simp only [fN] at h
  split at h
  ·split at h
   ·rw [YE os _ _ _ _ _ h, ah8]
   ·cases h
  ·rw [YE os _ _ _ _ _ h, ah8]
  ·cases h
theorem aci : ∀ (ds : List DOp) (Vs : List AV) (T : Tm), (kb T ds Vs).length = T.length
 | [], [], T => rfl
 | [], _ :: _, T => rfl
 | _ :: _, [], T => rfl
 | d :: ds, v :: Vs, T => by
  simp only [kb]
  rw [aci ds Vs, ah8]
theorem al1 {f : Tm → Heap → Option (Ex × Tm × Heap)} (h : ∀ t H x t' H', f t H = some (x, t', H') → t'.length = t.length) : ∀ (k : Nat) (t : Tm) (H : Heap) (x : Ex) (t' : Tm) (H' : Heap), jd f k t H = some (x, t', H') → t'.length = t.length
 | 0, t, H, x, t', H', hr => by cases hr
 | k + 1, t, H, x, t', H', hr => by
  simp only [jd] at hr
  split at hr
  ·rename_i a H1 h1
   rw [al1 h k _ _ _ _ _ hr]
   exact h _ _ _ _ _ h1
  ·exact h _ _ _ _ _ hr
theorem ajt {l : Nat} {f : Tm → Heap → Option (Ex × Tm × Heap)} (h : ∀ t H x t' H', f t H = some (x, t', H') → t'.length = t.length) : ∀ (k : Nat) (t : Tm) (H : Heap) (x : Ex) (t' : Tm) (H' : Heap), jL l f k t H = some (x, t', H') → t'.length = t.length
 | 0, t, H, x, t', H', hr => by cases hr
 | k + 1, t, H, x, t', H', hr => by
  simp only [jL] at hr
  split at hr
  ·rename_i b a H1 h1
   split at hr
   ·rw [ajt h k _ _ _ _ _ hr]
    exact h _ _ _ _ _ h1
   ·cases hr
  ·exact h _ _ _ _ _ hr
theorem ao0 {g : dZ} {m : Nat} {rd : Bool} : ∀ (ac : ACode) (t : Tm) (H : Heap) (x : Ex) (t' : Tm) (H' : Heap), aZ g m rd ac t H = some (x, t', H') → t'.length = t.length := by
 intro ac
 induction ac with
 | skip => intro t H x t' H' h; cases h; rfl
 | exit i => intro t H x t' H' h; cases h; rfl
 | goto l => intro t H x t' H' h; cases h; rfl
 | ret => intro t H x t' H' h; cases h; rfl
 | region ops =>
  intro t H x t' H' h
  simp only [aZ] at h
  split at h
  ·rename_i d H1 h1
   cases h
   exact YE _ _ _ _ _ _ h1
  ·cases h
 | draw ds late =>
  intro t H x t' H' h
  simp only [aZ] at h
  split at h
  ·rename_i d H1 h1
   cases h
   unfold jo at h1
   split at h1
   ·cases h1
   ·split at h1
    ·cases h1; exact aci _ _ _
    ·cases h1
  ·cases h
 | seq a b c e =>
  intro t H x t' H' h
  simp only [aZ] at h
  split at h
  ·rename_i d H1 h1
   rw [e _ _ _ _ _ h]
   exact c _ _ _ _ _ h1
  ·exact c _ _ _ _ _ h
 | cond s a b c e =>
  intro t H x t' H' h
  simp only [aZ] at h
  split at h
  ·exact c _ _ _ _ _ h
  ·exact e _ _ _ _ _ h
  ·cases h
 | block id a c =>
  intro t H x t' H' h
  simp only [aZ] at h
  split at h
  ·rename_i i d H1 h1
   split at h <;> (cases h; exact c _ _ _ _ _ h1)
  ·exact c _ _ _ _ _ h
 | loop a c =>
  intro t H x t' H' h
  simp only [aZ] at h
  exact al1 c _ _ _ _ _ _ h
 | scope a c =>
  intro t H x t' H' h
  simp only [aZ] at h
  split at h
  ·cases h
  ·exact c _ _ _ _ _ h
 | scopeL a l rest c j =>
  intro t H x t' H' h
  simp only [aZ] at h
  split at h
  ·rename_i n d H1 h1
   split at h
   ·rw [ajt j _ _ _ _ _ _ h]
    exact c _ _ _ _ _ h1
   ·cases h
  ·exact c _ _ _ _ _ h
 | drawF ds late last mid =>
  intro t H x t' H' h
  simp only [aZ] at h
  split at h
  ·rename_i d H1 h1
   cases h
   unfold xC at h1
   repeat' (split at h1)
   all_goals first | (cases h1; exact aci _ _ _) | (cases h1; done)
  ·cases h
 | rangeM pre x it nx ex b1 b2 en os rest W ih =>
  intro t H o t' H' h
  simp only [aZ] at h
  split at h
  ·cases h
  ·rename_i d H1 h1
   split at h
   ·split at h
    ·split at h
     ·cases h
      rw [← YE _ _ _ _ _ _ h1]
      simp [fX]
     ·cases h
    ·cases h
   ·cases h
 | rangeFunc f ps k body c e =>
  intro t H x t' H' h
  simp only [aZ] at h
  repeat' (split at h)
  all_goals first | (cases h; rfl) | (cases h; done)
/-! ### Code -/
theorem XR {m : Nat} {rd : Bool} {nt : Nat} (ac : ACode) : X0 m rd nt (gq m rd nt ac) ac := by
 intro b a hc T t H n e r hT hr
 unfold gq at hr
 rw [hT.toL] at hr
 obtain ⟨⟨x, t', H'⟩, h1, h2⟩ := uC hr
 refine ⟨x, t', H', ofL t', Cj (fun c H r hr => ?_) _ _ _ _ h1, TRel.ofL hT.le ((ao0 _ _ _ _ _ _ h1).trans hT.len), h2⟩
 exact aiv hc hr
theorem anw {n a : K1} {e : Nat → K1} {x : Ex} (hx : x ≠ .nrm) : kr n e x = kr a e x := by
 cases x <;> first | rfl | exact absurd rfl hx
theorem rV {g : Nat} {rd : Bool} {nt : Nat} {c : gY} {ac : ACode} (h : X0 g rd nt c ac) : ∀ (a : iw) (b : dZ), qC a b → ∀ (k : Nat) (T : Tq) (t : Tm) (H : Heap) (n : K1) (e : Nat → K1) (r : AV × Heap), TRel nt T t → cE k c a T H n e = some r →
  ∃ x t' H' d, jd (aZ b g rd ac) k t H = some (x, t', H') ∧ TRel nt d t' ∧ kr n e x d H' = some r := by
 intro a b hc k
 induction k with
 | zero => intro T t H n e r hT hr; cases hr
 | succ k ih =>
  intro T t H n e r hT hr
  have hr : c a T H (fun T H => cE k c a T H n e) e = some r := by
   have : cE (k + 1) c a T H n e = @Bool.rec (fun _ => R) (c a T H (fun T H => cE k c a T H n e) e) (c a T H (fun T H => cE k c a T H n e) e) (Nat.ble H.next 0) := rfl
   rw [this] at hr
   cases hb : Nat.ble H.next 0 <;> rw [hb] at hr <;> exact hr
  obtain ⟨x, i, H1, f, h1, h2, h3⟩ := h a b hc T t H _ e r hT hr
  by_cases hx : x = .nrm
  ·subst hx
   obtain ⟨l, j, H2, T2, k1, k2, k3⟩ := ih f i H1 n e r h2 h3
   exact ⟨l, j, H2, T2, by simp only [jd, h1]; exact k1, k2, k3⟩
  ·refine ⟨x, i, H1, f, ?_, h2, by rw [anw hx]; exact h3⟩
   simp only [jd, h1]
   cases x <;> first | rfl | exact absurd rfl hx
theorem vL {m : Nat} {rd : Bool} {nt : Nat} : ∀ (ac : ACode), X0 m rd nt (po m rd nt ac) ac := by
 intro ac
 induction ac with
 | skip => intro c d hc T t H n e r hT hr; exact ⟨.nrm, t, H, T, rfl, hT, hr⟩
 | exit i => intro c d hc T t H n e r hT hr; exact ⟨.exit i, t, H, T, rfl, hT, hr⟩
 | goto i => intro c d hc T t H n e r hT hr; exact ⟨.goto i, t, H, T, rfl, hT, hr⟩
 | ret => intro c d hc T t H n e r hT hr; exact ⟨.ret, t, H, T, rfl, hT, hr⟩
 | draw ds late =>
  show X0 m rd nt (if Xy nt ds late = true then akb nt ds late else gq m rd nt (.draw ds late)) _
  by_cases hok : Xy nt ds late = true
  ·rw [if_pos hok]; exact rW hok
  ·rw [if_neg hok]; exact XR _
 | rangeFunc f ps y body j k => exact XR _
 | drawF ds late last mid => exact XR _
 | rangeM pre x it nx ex b1 b2 en os rest W ih => exact XR _
 | scopeL a l rest _ _ => exact XR _
 | region ops =>
  intro c d hc T t H n e r hT hr
  obtain ⟨t', H', p, h1, h2, h3⟩ := alo ops 0 c d hc T t _ n H.next r hT hr
  refine ⟨.nrm, t', H', p, ?_, h2, h3⟩
  simp only [aZ]
  have h1 : fN d H.next ops t { H with next := H.next + ops.length } = some (t', H') := h1
  rw [h1]
 | seq a b j k =>
  intro c d hc T t H n e r hT hr
  obtain ⟨x, h, H1, g, h1, h2, h3⟩ := j c d hc T t H _ e r hT hr
  by_cases hx : x = .nrm
  ·subst hx
   obtain ⟨w, u, H2, T2, k1, k2, k3⟩ := k c d hc g h H1 n e r h2 h3
   exact ⟨w, u, H2, T2, by simp only [aZ, h1]; exact k1, k2, k3⟩
  ·refine ⟨x, h, H1, g, ?_, h2, by rw [anw hx]; exact h3⟩
   simp only [aZ, h1]
   cases x <;> first | rfl | exact absurd rfl hx
 | cond s a b j k =>
  intro c d hc T t H n e r hT hr
  have hr : pv (co s T) (po m rd nt a c T H n e) (po m rd nt b c T H n e) = some r := hr
  rw [hT.ev] at hr
  simp only [aZ]
  generalize s.ev t = v at hr ⊢
  cases v with
  | bool b =>
   cases b
   ·exact k c d hc T t H n e r hT hr
   ·exact j c d hc T t H n e r hT hr
  | _ => cases hr
 | block id a j =>
  intro c d hc T t H n e r hT hr
  obtain ⟨x, h, H1, g, h1, h2, h3⟩ := j c d hc T t H n _ r hT hr
  have o : ∀ a b : Nat, a ≠ b → Nat.beq a b = false := fun a b q => by
   cases hb : Nat.beq a b with
   | false => rfl
   | true => exact absurd (Nat.eq_of_beq_eq_true hb) q
  cases x with
  | nrm => exact ⟨.nrm, h, H1, g, by simp only [aZ, h1], h2, h3⟩
  | ret =>
   refine ⟨.ret, h, H1, g, by simp only [aZ, h1], h2, ?_⟩
   simp only [kr, ym] at h3 ⊢
   rw [o 0 (2 * id + 1) (by omega)] at h3
   exact h3
  | goto l =>
   refine ⟨.goto l, h, H1, g, by simp only [aZ, h1], h2, ?_⟩
   simp only [kr, ym] at h3 ⊢
   rw [o (2 * l + 2) (2 * id + 1) (by omega)] at h3
   exact h3
  | exit i =>
   simp only [kr, ym] at h3
   by_cases hi : i = id
   ·subst hi
    refine ⟨.nrm, h, H1, g, by simp only [aZ, h1, if_true], h2, ?_⟩
    rw [Nat.beq_refl] at h3
    exact h3
   ·refine ⟨.exit i, h, H1, g, by simp only [aZ, h1, if_neg hi], h2, ?_⟩
    rw [o (2 * i + 1) (2 * id + 1) (by omega)] at h3
    exact h3
 | loop a j =>
  intro c d hc T t H n e r hT hr
  exact rV j c d hc m T t H n e r hT hr
 | scope a j =>
  intro c d hc T t H n e r hT hr
  obtain ⟨x, h, H1, g, h1, h2, h3⟩ := j c d hc T t H _ _ r hT hr
  cases x with
  | nrm => exact ⟨.nrm, h, H1, g, by simp only [aZ, h1], h2, h3⟩
  | ret => exact ⟨.ret, h, H1, g, by simp only [aZ, h1], h2, h3⟩
  | exit i =>
   refine ⟨.exit i, h, H1, g, by simp only [aZ, h1], h2, ?_⟩
   simp only [kr, ym] at h3 ⊢
   have e1 : Nat.beq (Nat.mod (2 * i + 1) 2) 0 = false := by
    have : Nat.mod (2 * i + 1) 2 = 1 := by show (2 * i + 1) % 2 = 1; omega
    rw [this]; rfl
   rw [e1] at h3
   exact h3
  | goto l =>
   exfalso
   simp only [kr, ym] at h3
   have e1 : Nat.beq (Nat.mod (2 * l + 2) 2) 0 = true := by
    have : Nat.mod (2 * l + 2) 2 = 0 := by show (2 * l + 2) % 2 = 0; omega
    rw [this]; rfl
   have e2 : Nat.beq (2 * l + 2) 0 = false := rfl
   rw [e1, e2] at h3
   cases h3
/-! ### Functions -/
theorem vq {nt : Nat} {T : Tq} {t : Tm} (hT : TRel nt T t) (H : Heap) (rs : List (Nat × Option (Option Nat))) : nS T H rs = nL t H rs := by
 have hf : ry T H = nT t H := by
  funext r
  obtain ⟨a, b⟩ := r
  unfold ry nT
  simp only [hT.gt]
  cases b with
  | none => rfl
  | some k =>
   generalize eQ t a = v
   cases v <;> rfl
 unfold nS
 split
 ·rename_i t0
  rw [hT.gt]
  simp [nL, nT]
 ·unfold nL
  rw [hf]
  rfl
def CB (b : Nat → Option AFn) (a : Nat → Option FFn) (m : Nat) : Prop := ∀ f fn, a f = some fn → ∃ afn, b f = some afn ∧ afn.ext = none ∧ fn.nparams = afn.nparams ∧ fn.ntmps = afn.ntmps ∧ afn.ntmps ≤ 512 ∧ afn.nparams ≤ afn.ntmps ∧ fn.results = afn.results ∧ fn.body = po m false afn.ntmps afn.body
theorem alj {b : iw} {c : dZ} (hc : qC b c) {m : Nat} {fn : FFn} {afn : AFn} (h1 : fn.nparams = afn.nparams) (h3 : afn.ntmps ≤ 512) (h4 : afn.nparams ≤ afn.ntmps) (h5 : fn.results = afn.results) (f : fn.body = po m false afn.ntmps afn.body)
  {args : List AV} {H : Heap} {k : KV} {r : AV × Heap} (hr : mO fn b args H k = some r) : ∃ v H', jl c m afn args H = some (v, H') ∧ k v H' = some r := by
 unfold mO at hr
 rw [Xz] at hr
 cases hb : Nat.beq args.length fn.nparams with
 | false => rw [hb] at hr; cases hr
 | true =>
  rw [hb] at hr
  have ha : args.length = afn.nparams := (Nat.eq_of_beq_eq_true hb).trans h1
  have hr : fn.body b (nF args) H (fun T H => ga (nS T H fn.results) fun v => k v H) (fun j T H => @Bool.rec (fun _ => R) none (ga (nS T H fn.results) fun v => k v H) (Nat.beq j 0)) = some r := hr
  rw [f] at hr
  obtain ⟨x, t', H', e, e1, e2, a⟩ := vL afn.body b c hc _ _ H _ _ r (TRel.args h3 (by omega)) hr
  have d : ga (nS e H' fn.results) (fun v => k v H') = some r → ∃ v, nL t' H' afn.results = some v ∧ k v H' = some r := by
   intro h
   obtain ⟨v, hv, hk⟩ := uC h
   rw [vq e2, h5] at hv
   exact ⟨v, hv, hk⟩
  unfold jl
  rw [if_pos ha, e1]
  cases x with
  | nrm =>
   obtain ⟨v, hv, hk⟩ := d a
   exact ⟨v, H', by simp [hv], hk⟩
  | ret =>
   obtain ⟨v, hv, hk⟩ := d a
   exact ⟨v, H', by simp [hv], hk⟩
  | exit i =>
   have h0 : Nat.beq (2 * i + 1) 0 = false := rfl
   simp only [kr, ym, h0] at a
   cases a
  | goto i =>
   have h0 : Nat.beq (2 * i + 2) 0 = false := rfl
   simp only [kr, ym, h0] at a
   cases a
end Go.Proofs.YtopigipibioclaaGreatDoor.Ev
