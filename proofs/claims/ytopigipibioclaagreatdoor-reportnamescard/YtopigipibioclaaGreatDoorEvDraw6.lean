/- The evaluator, a part. -/
import Derived.Test.YtopigipibioclaaGreatDoorEvCode
import Derived.Test.YtopigipibioclaaGreatDoorEvRel
namespace Go.Proofs.YtopigipibioclaaGreatDoor.Ev
open Go
set_option linter.all false
section
variable {P : Program} {ops : Array Oper} {l : List DI} {ds : List DOp} {T0 : Tm} {s : DS} {base : Nat} {F : Nat → Prop} {μ0 : Mu} {H0 : Heap} {w0 : World} {df : List Deferred}
def DS.turn (s : DS) (b : Nat) (e : Ent) : DS := ⟨s.Vs, s.Cs.map fun C => C.put b e, s.Es⟩
theorem yh {b k : Nat} {e : Ent} (hk : k < s.Cs.length) : (s.turn b e).Cs.getD k default = (s.Cs.getD k default).put b e := by
 unfold DS.turn
 rw [List.getD_eq_getElem?_getD, List.getD_eq_getElem?_getD, List.getElem?_map, List.getElem?_eq_getElem hk]; rfl
theorem ah4 (base : Nat) (Es : List (Option Ent)) (C : Heap) : dU base Es C [] = C := rfl
theorem af7 {H : Heap} {n : Nat} {x v : AV} {b : Nat} {o : Nat} {H' : Heap} (hx : x = .ptr b o) (h : pz H n x v = some H') :
  ∃ cs ty, H.get b = some (.cells cs ty true) ∧ v.cells.length = n ∧ o + n ≤ cs.length ∧ v.cells.all AV.one = true ∧ H' = H.put b (.cells (cs.take o ++ v.cells ++ cs.drop (o + n)) ty true) := by
 subst hx
 simp only [pz] at h
 split at h
 ·rename_i cs ty hb
  split at h
  ·rename_i hc
   cases h
   exact ⟨cs, ty, hb, hc.1, hc.2.1, hc.2.2, rfl⟩
  ·cases h
 ·cases h
theorem ajw {H : Heap} {n : Nat} {v : AV} {b : Nat} {o : Nat} {cs : List AV} {ty : Nat} (h1 : H.get b = some (.cells cs ty true)) (h2 : v.cells.length = n) (h3 : o + n ≤ cs.length) (h4 : v.cells.all AV.one = true) :
  pz H n (.ptr b o) v = some (H.put b (.cells (cs.take o ++ v.cells ++ cs.drop (o + n)) ty true)) := by
 simp only [pz, h1]
 rw [if_pos ⟨h2, h3, h4⟩]
theorem aft {a : dZ} {T : Tm} {H : Heap} {id n : Nat} {x v : Src} : gB a (Src.ev T) H id (.store n x v) = (pz H n (x.ev T) (v.ev T)).map fun H' => (.undef, H') := rfl
theorem afs {op : AOp} (h : op.isStore = true) : ∃ n x v, op = .store n x v := by
 cases op <;> simp only [AOp.isStore] at h <;> first | (cases h; done) | exact ⟨_, _, _, rfl⟩
theorem rz {f : dZ} {i b : Nat} {e : Ent} {d : DOp} (hop : qE f base T0 s i d) (h1 : yi d = true) (h2 : kW T0 s b d = true) (l : d.cls = 2 → ∀ k adds, d.looks = [(k, adds)] → k + 1 < s.Cs.length) :
  qE f base T0 (s.turn b e) i d ∧ ∀ k, CC base T0 (s.turn b e) i k d := by
 unfold yi at h1
 simp only [Bool.and_eq_true, Bool.or_eq_true, Option.isNone_iff_eq_none, beq_iff_eq, Bool.not_eq_true'] at h1
 obtain ⟨hg, h1⟩ := h1
 rcases hop with ⟨a, -⟩ | ⟨a, r⟩
 ·rw [hg] at a; cases a
 ·rcases r with ⟨h0, g, u⟩ | ⟨w, -⟩ | ⟨h, g, m⟩
  ·have hv : bJ (Src.ev (cF T0 s.Vs d.uses)) d.op = some (s.Vs.getD i .undef) := by
    rcases u with hv | ⟨-, hl⟩
    ·exact hv
    ·rcases h1 with h1 | h1
     ·rw [h1.2] at hl; cases hl
     ·omega
   refine ⟨.inr ⟨a, .inl ⟨h0, g, .inl hv⟩⟩, fun k _ _ hp => ?_⟩
   have hp : bJ (Src.ev (cF T0 s.Vs d.uses)) d.op = none := hp
   rw [hv] at hp; cases hp
  ·exfalso; rcases h1 with h1 | h1 <;> omega
  ·refine ⟨.inr ⟨a, .inr (.inr ⟨h, g, fun k adds hl => ?_⟩)⟩, fun k h0 => by omega⟩
   rcases h1 with h1 | h1
   ·omega
   obtain ⟨⟨-, hst⟩, j⟩ := h1
   rw [hl] at j
   obtain rfl : adds = [] := by cases adds <;> first | rfl | cases j
   obtain ⟨H', hop, hn, q⟩ := m k [] hl
   have hk := l h k [] hl
   rw [yh (by omega), yh (by omega), ah4]
   rw [ah4] at hop
   obtain ⟨n, x, v, hs⟩ := afs hst
   have c : ∃ b' o, x.ev (cF T0 s.Vs d.uses) = .ptr b' o ∧ b' ≠ b := by
    unfold kW at h2
    rw [h, hs] at h2
    simp only at h2
    split at h2
    ·rename_i b' o p
     exact ⟨b', o, p, by simpa using h2⟩
    ·cases h2
   obtain ⟨b', o, hx, c⟩ := c
   rw [hs, aft, Option.map_eq_some_iff] at hop
   obtain ⟨H1, t, hop⟩ := hop
   simp only [Prod.mk.injEq] at hop
   obtain ⟨hV, rfl⟩ := hop
   obtain ⟨cs, ty, c1, c2, c3, c4, rfl⟩ := af7 hx t
   refine ⟨((s.Cs.getD k default).put b e).put b' (.cells (cs.take o ++ (v.ev (cF T0 s.Vs d.uses)).cells ++ cs.drop (o + n)) ty true), ?_, hn, ?_⟩
   ·show (gB f (Src.ev (cF T0 s.Vs d.uses)) ((s.Cs.getD k default).put b e) (base + i) d.op) = some (s.Vs.getD i .undef, ((s.Cs.getD k default).put b e).put b' (.cells (cs.take o ++ (v.ev (cF T0 s.Vs d.uses)).cells ++ cs.drop (o + n)) ty true))
    rw [hs, aft, hx, ajw (by rw [Heap.get_put, if_neg c]; exact c1) c2 c3 c4, ← hV]; rfl
   ·intro y
    rw [Heap.get_put, Heap.get_put, Heap.get_put, ← q, Heap.get_put]
    by_cases e1 : y = b'
    ·rw [if_pos e1, if_neg (by rw [e1]; exact c), if_pos e1]
    ·rw [if_neg e1, if_neg e1]
theorem amo {I : Nat → Prop} {o : Oper} {n : Nat} {b c : Src} {T : Tm} {H H' : Heap} {μ : Mu} {w : World} {a : Act} (hop : CP o.op = true) (hc : iA P o = some (.store n b c)) (hT : LR μ F w T a.tmps.toList) (hH : HR P μ F H w)
  (h : pz H n (b.ev T) (c.ev T) = some H') : ∃ w', qF P a w o undef w' ∧ Done I P μ F H w .undef H' undef w' μ := by
 obtain ⟨dst, op, ty, pos, after, guard⟩ := o
 cases op <;> simp only [CP] at hop <;> first | (cases hop; done) | skip
 simp only [iA, Option.bind_eq_bind, bN] at hc
 obtain ⟨f, hn, g, d, i, e, hc⟩ := hc; cases hc
 obtain ⟨w', h1, h2⟩ := af5 (I := I) hn hH (fw hT d) (fw hT e) h
 exact ⟨w', .inr ⟨pb h1, rfl⟩, h2⟩
theorem q9 {S : Nat → Bool} {k : Nat} {μ : Mu} {a : Act} {w : World} (J : Inv P l T0 s base F μ0 H0 w0 df S k μ a w) {uses : List (Nat × Option Nat)}
  (m : ∀ t j, (t, some j) ∈ uses → S j = true ∧ j < l.length ∧ dr l j = some t ∧ ∀ j', j' < l.length → dr l j' = some t → j' ≤ j) (i : ∀ t, (t, none) ∈ uses → ∀ j', j' < l.length → dr l j' ≠ some t) :
  LR μ F w (cF T0 s.Vs uses) a.tmps.toList := by
 obtain ⟨h1, h2⟩ := Yw T0 s.Vs uses
 refine ⟨by rw [h1, ← J.tm.1, XW], fun t c v hc hv => ?_⟩
 rcases h2 t c hc with rfl | ⟨⟨t', u⟩, d, rfl, rfl⟩
 ·exact .undef v
 ·have ht : t' < T0.length := by rw [← h1]; exact (List.getElem?_eq_some_iff.1 hc).1
  have n : (TS l T0 s S)[t']? = some (tv l T0 s S l.length t') := by
   unfold TS; rw [List.getElem?_map, List.getElem?_range ht]; rfl
  have o : ie T0 s.Vs (t', u) = tv l T0 s S l.length t' := by
   cases u with
   | none => exact (XH _ fun j' b hd => absurd hd (i t' d j' b)).symm
   | some j =>
    obtain ⟨e, f, g, h⟩ := m t' j d
    refine (apa e g _ f fun j' p b hd => ?_).symm
    have := h j' b hd
    omega
  rw [o]
  exact J.tm.2 t' _ v n hv
theorem anm {p : dZ} {S : Nat → Bool} {k b : Nat} {μ : Mu} {a : Act} {w : World} (J : Inv P l T0 s base F μ0 H0 w0 df S k μ a w) (G : DrawOK P ops l ds) (hop : ∀ i, i < l.length → qE p base T0 s i (ds.getD i default))
  (hmid : ∀ i, i < l.length → S i = false → yi (ds.getD i default) = true ∧ kW T0 s b (ds.getD i default) = true) :
  ∀ d, k + d ≤ (dR l).length → (s.Cs.getD (k + d) default).get b = (s.Cs.getD k default).get b
 | 0, _ => rfl
 | d + 1, h => by
  have ih := anm J G hop hmid d (by omega)
  have hq : k + d < (dR l).length := by omega
  obtain ⟨hi, y⟩ := uB hq
  have t : S ((dR l).getD (k + d) 0) = false := by
   cases hb : S ((dR l).getD (k + d) 0) with
   | false => rfl
   | true => have := (J.act _ hq).1 hb; omega
  generalize A : (dR l).getD (k + d) 0 = i at *
  obtain ⟨f, g⟩ := hmid i hi t
  have L := (G.dso i hi).2.2.2
  obtain ⟨K, adds, hl, q, r, -⟩ := G.act i hi y
  have B : K = k + d := YC q hq (r.trans A.symm)
  subst B
  have hop := hop i hi
  generalize ds.getD i default = H at *
  unfold yi at f
  simp only [Bool.and_eq_true, Bool.or_eq_true, Option.isNone_iff_eq_none, beq_iff_eq, Bool.not_eq_true'] at f
  obtain ⟨hg, f⟩ := f
  rcases f with f | ⟨⟨-, hst⟩, m⟩
  ·omega
  rw [hl] at m
  obtain rfl : adds = [] := by cases adds <;> first | rfl | cases m
  rcases hop with ⟨j, -⟩ | ⟨j, D⟩
  ·rw [hg] at j; cases j
  rcases D with ⟨h0, -⟩ | ⟨h1, -⟩ | ⟨h2, I, u⟩
  ·omega
  ·omega
  obtain ⟨H', c, hn, z⟩ := u _ [] hl
  rw [ah4] at c
  obtain ⟨n, x, v, hs⟩ := afs hst
  unfold kW at g
  rw [h2, hs] at g
  simp only at g
  split at g
  ·rename_i b' o hx
   rw [hs, aft, Option.map_eq_some_iff] at c
   obtain ⟨H1, E, c⟩ := c
   simp only [Prod.mk.injEq] at c
   obtain ⟨-, rfl⟩ := c
   obtain ⟨cs, ty, c1, c2, c3, c4, rfl⟩ := af7 hx E
   have C : ¬ b' = b := by simpa using g
   show (s.Cs.getD (k + d + 1) default).get b = _
   rw [← z, Heap.get_put, if_neg (fun e => C e.symm)]
   exact ih
  ·cases g
theorem anr {S : Nat → Bool} {b t : Nat} {e : Ent} : ∀ n, tv l T0 (s.turn b e) S n t = tv l T0 s S n t
 | 0 => rfl
 | n + 1 => by simp only [tv]; rw [anr n]; rfl
theorem an6 {S : Nat → Bool} {b : Nat} {e : Ent} : TS l T0 (s.turn b e) S = TS l T0 s S := by
 unfold TS
 exact List.map_congr_left fun t _ => anr _
theorem apd {fence : Fence} {rd : Bool} (hF : FenceOK fence rd) {n : Nat} {Q : Exit → Act → World → Prop} {S : Nat → Bool} {k : Nat} {μ : Mu} {a : Act} {w : World} (J : Inv P l T0 s base F μ0 H0 w0 df S k μ a w)
  {o : Oper} {i sz b off ty : Nat} {p c : Src} {uses : List (Nat × Option Nat)} {cs : List AV} (hoi : ops[i]? = some o) (v : o.dst = none) (y : o.guard = none) (hst : CP o.op = true) (hc : iA P o = some (.store sz p c))
  (hT : LR μ F w (cF T0 s.Vs uses) a.tmps.toList) (hx : p.ev (cF T0 s.Vs uses) = .ptr b off) (hb : b < base) (u : (s.Cs.getD k default).get b = some (.cells cs ty true))
  (c2 : (c.ev (cF T0 s.Vs uses)).cells.length = sz) (c3 : off + sz ≤ cs.length) (c4 : (c.ev (cF T0 s.Vs uses)).cells.all AV.one = true) (hk : k < s.Cs.length) {K : Act → World → Prop}
  (t : ∀ w', Inv P l T0 (s.turn b (.cells (cs.take off ++ (c.ev (cF T0 s.Vs uses)).cells ++ cs.drop (off + sz)) ty true)) base F μ0 H0 w0 df S k μ a w' → K a w') : wpOpIn fence n P ops Q i K a w := by
 unfold Go.wpOpIn
 simp only [hoi]
 have A : Region.wanted o (yielded ops a.tmps) = true := by unfold Region.wanted; rw [y]
 rw [if_pos A]
 have r : (Hh l s base S k).get b = some (.cells cs ty true) := by
  rw [qM, if_neg (fun h => by omega)]; exact u
 obtain ⟨w', q, hD⟩ := amo (I := fun b => base ≤ b) hst hc hT J.hr (by rw [hx]; exact ajw r c2 c3 c4)
 refine YL hF (agl hc) q ?_
 have z : a.put o.dst undef = a := by rw [v]; rfl
 rw [z]
 generalize B : Ent.cells (cs.take off ++ (c.ev (cF T0 s.Vs uses)).cells ++ cs.drop (off + sz)) ty true = d at *
 have m : ((Hh l s base S k).put b d).next = (Hh l (s.turn b d) base S k).next := by
  rw [Heap.next_put]; unfold Hh; rw [qO, qO, yh hk]; rfl
 have g : ∀ x, ((Hh l s base S k).put b d).get x = (Hh l (s.turn b d) base S k).get x := by
  intro x
  rw [Heap.get_put, qM, qM, yh hk, Heap.get_put]
  by_cases f : x = b
  ·subst f
   rw [if_pos rfl, if_neg (fun h => by omega), if_pos rfl]
  ·rw [if_neg f, if_neg f]; rfl
 refine t w' ⟨J.cl, J.kle, J.act, by rw [an6]; exact hD.stp.lr J.hr J.tm, hD.heap.congr m g, fun j h1 h2 h3 => ?_, ?_, J.un, J.st.trans (hD.stp.congr m fun x e he => ⟨e, by rw [g]; exact he, rfl⟩), J.df⟩
 ·rw [yh hk, Heap.get_put, if_neg (by omega)]; exact J.noC j h1 h2 h3
 ·rw [yh hk]; exact J.nx
theorem XC {listed : Array Bool} {j : Nat} (h : listed.getD j true = false) : j < listed.size := by
 rcases Nat.lt_or_ge j listed.size with h' | h'
 ·exact h'
 ·simp [Array.getElem?_eq_none h'] at h
theorem Yu {listed : Array Bool} {i : Nat} (a : i < listed.size) : (fun j => (listed.setIfInBounds i true).getD j false) = add (fun j => listed.getD j false) i := by
 funext j
 by_cases e : j = i
 ·subst e; simp [add, a]
 ·rw [getD_set_ne false (Ne.symm e)]; simp [add, e]
theorem XA {listed : Array Bool} {j : Nat} (a : j < listed.size) (h : listed.getD j true = false) : listed.getD j false = false := by
 simp [a] at h ⊢; exact h
theorem ain {o : Oper} {e : Edge} (he : e ∈ o.after) (hb : Region.binds .any e = true) : e.on ∈ kG o := by
 unfold kG
 exact List.mem_map.2 ⟨e, List.mem_filter.2 ⟨by simpa using he, hb⟩, rfl⟩
theorem YX {o : Oper} {j : Nat} (h : j ∈ kG o) : ∃ e, e ∈ o.after ∧ Region.binds .any e = true ∧ e.on = j := by
 unfold kG at h
 obtain ⟨e, he, rfl⟩ := List.mem_map.1 h
 rw [List.mem_filter] at he
 exact ⟨e, by simpa using he.1, he.2, rfl⟩
theorem YP {S : Nat → Bool} {k : Nat} {μ : Mu} {a : Act} {w : World} (J : Inv P l T0 s base F μ0 H0 w0 df S k μ a w) {o : Oper} (b : ∀ j ∈ kG o, S j = true) (c : ∀ j ∈ kG o, j < l.length)
  {p : Nat} (hp : ∃ j ∈ kG o, p = j ∨ p ∈ fM l j) : S p = true := by
 obtain ⟨j, hj, hh⟩ := hp
 rcases hh with rfl | hh
 ·exact b _ hj
 ·exact J.cl j (c j hj) (b j hj) p hh
theorem afm {listed : Array Bool} (hsz : listed.size = ops.size) (G : DrawOK P ops l ds) (hr : Region.ready .any ops listed = []) : ∀ j, j < l.length → listed.getD j false = true := by
 intro j
 induction j using Nat.strongRecOn with
 | _ j hj =>
  intro b
  cases a : listed.getD j false with
  | true => rfl
  | false =>
   exfalso
   obtain ⟨o, c, _⟩ := G.op j b
   have f : j < listed.size := by have := G.len; omega
   have : j ∈ Region.ready .any ops listed := by
    refine mem_ready.2 ⟨by simp [f] at a ⊢; exact a, o, c, fun e he hb => ?_⟩
    have d := G.back j o b c _ (ain he hb)
    exact hj e.on d (by omega)
   rw [hr] at this; cases this
theorem Inv.congrS {S S' : Nat → Bool} {k : Nat} {μ : Mu} {a : Act} {w : World} (J : Inv P l T0 s base F μ0 H0 w0 df S k μ a w) (h : ∀ j, j < l.length → S' j = S j) (h' : ∀ j, S j = true → S' j = true) : Inv P l T0 s base F μ0 H0 w0 df S' k μ a w := by
 have d : TS l T0 s S' = TS l T0 s S := List.map_congr_left fun t _ => XP _ h
 have e : kj l S' k = kj l S k := List.filter_congr fun x hx => by rw [h x (by simpa using hx)]
 have c : Hh l s base S' k = Hh l s base S k := by unfold Hh; rw [e]
 exact ⟨fun j hj b p hp => h' p (J.cl j hj (h j hj ▸ b) p hp), J.kle, fun q hq => by rw [h _ (uB hq).1]; exact J.act q hq, d ▸ J.tm, c ▸ J.hr, J.noC, J.nx, fun j hj b => J.un j hj (h j hj ▸ b), c ▸ J.st, J.df⟩
theorem amx {q : dZ} (z : dQ P q) {fence : Fence} {rd : Bool} (hF : FenceOK fence rd) {n : Nat} {Q : Exit → Act → World → Prop} (G : DrawOK P ops l ds) (hlen : l.length + 1 = ops.size) {S0 : Nat → Bool}
  (hop : ∀ i, i < l.length → S0 i = false → qE q base T0 s i (ds.getD i default)) (B : ∀ i, i < l.length → S0 i = false → ∀ k, CC base T0 s i k (ds.getD i default))
  (r : ∀ S k μ a w, (∀ j, j < l.length → S j = true) → Inv P l T0 s base F μ0 H0 w0 df S k μ a w → Q .normal a w) :
  ∀ (fuel : Nat) (listed : Array Bool) (k : Nat) (μ : Mu) (a : Act) (w : World), listed.size = ops.size → listed.getD l.length false = true → (∀ j, S0 j = true → j < l.length → listed.getD j false = true) → nJ (fun j => listed.getD j false) l.length = fuel →
   Inv P l T0 s base F μ0 H0 w0 df (fun j => listed.getD j false) k μ a w → wpAnyIn fence n P .any ops Q fuel listed a w := by
 intro fuel
 induction fuel with
 | zero =>
  intro listed k μ a w hsz d g u J
  have c := XO _ u
  refine ⟨?_, r _ k μ a w c J⟩
  apply List.eq_nil_iff_forall_not_mem.2
  intro j hj
  have h0 := (mem_ready.1 hj).1
  have f := XC h0
  have h1 := XA f h0
  rcases Nat.lt_or_ge j l.length with h | h
  ·rw [c j h] at h1; cases h1
  ·have : j = l.length := by omega
   rw [this, d] at h1; cases h1
 | succ fuel ih =>
  intro listed k μ a w hsz d g u J
  refine ⟨fun hr => r _ k μ a w (afm hsz G hr) J, fun i hi => ?_⟩
  obtain ⟨h0, o, v, c⟩ := mem_ready.1 hi
  have f := XC h0
  have b := XA f h0
  have hil : i < l.length := by
   rcases Nat.lt_or_ge i l.length with h | h
   ·exact h
   ·have : i = l.length := by omega
    rw [this, d] at b; cases b
  have t : S0 i = false := by
   cases hb : S0 i with
   | false => rfl
   | true => rw [g i hb hil] at b; cases b
  have m := Yu f
  refine YQ z hF J G (hop i hil t) (B i hil t k) hil b (fun p hp => ?_) fun y w' μ' C x => ?_
  ·refine YP J (o := o) (fun j hj => ?_) (fun j hj => ?_) (G.pre i o hil v p hp)
   ·obtain ⟨e, he, hb, rfl⟩ := YX hj; exact c e he hb
   ·have := G.back i o hil v j hj; omega
  ·refine ih _ C μ' y w' (by simp [hsz]) ?_ (fun j hj A => ?_) ?_ (m ▸ x)
   ·rw [getD_set_ne false (by omega)]; exact d
   ·have := congrFun m j
    rw [this]
    simp only [add]
    split
    ·rfl
    ·exact g j hj A
   ·rw [m]
    have := XI (S := fun j => listed.getD j false) b l.length hil
    omega
theorem anh {D : dZ} (ad : dQ P D) {fence : Fence} {rd : Bool} (hF : FenceOK fence rd) {n : Nat} {Q : Exit → Act → World → Prop} (G : DrawOK P ops l ds) (hlen : l.length + 1 = ops.size)
  (hop : ∀ i, i < l.length → qE D base T0 s i (ds.getD i default)) (Z : ∀ i, i < l.length → xH base T0 s i (ds.getD i default) = true) (ab : s.Cs.length = (dR l).length + 1)
  {o : Oper} {sz b off ty : Nat} {sx v : Src} {uses : List (Nat × Option Nat)} {cs : List AV} {pl : List Nat} (hoi : ops[l.length]? = some o) (X : o.dst = none) (Y : o.guard = none) (hst : CP o.op = true) (hc : iA P o = some (.store sz sx v))
  (hbl : ∀ j ∈ kG o, j < l.length) (hpl : ∀ q ∈ pl, ∃ j ∈ kG o, q = j ∨ q ∈ fM l j)
  (T : ∀ t j, (t, some j) ∈ uses → j ∈ pl ∧ j < l.length ∧ dr l j = some t ∧ ∀ j', j' < l.length → dr l j' = some t → j' ≤ j) (O : ∀ t, (t, none) ∈ uses → ∀ j', j' < l.length → dr l j' ≠ some t)
  (hmid : ∀ i, i < l.length → i ∉ pl → yi (ds.getD i default) = true ∧ kW T0 s b (ds.getD i default) = true)
  (hx : sx.ev (cF T0 s.Vs uses) = .ptr b off) (hb : b < base) (U : (s.Cs.getD (dR l).length default).get b = some (.cells cs ty true))
  (c2 : (v.ev (cF T0 s.Vs uses)).cells.length = sz) (c3 : off + sz ≤ cs.length) (c4 : (v.ev (cF T0 s.Vs uses)).cells.all AV.one = true)
  (R : ∀ S k μ a w, (∀ j, j < l.length → S j = true) → Inv P l T0 (s.turn b (.cells (cs.take off ++ (v.ev (cF T0 s.Vs uses)).cells ++ cs.drop (off + sz)) ty true)) base F μ0 H0 w0 df S k μ a w → Q .normal a w) :
  ∀ (fuel : Nat) (listed : Array Bool) (k : Nat) (μ : Mu) (a : Act) (w : World), listed.size = ops.size → listed.getD l.length false = false → nJ (fun j => listed.getD j false) l.length = fuel →
   Inv P l T0 s base F μ0 H0 w0 df (fun j => listed.getD j false) k μ a w → wpAnyIn fence n P .any ops Q (fuel + 1) listed a w := by
 have key : ∀ (listed : Array Bool) (k : Nat) (μ : Mu) (a : Act) (w : World), listed.size = ops.size → listed.getD l.length false = false → Inv P l T0 s base F μ0 H0 w0 df (fun j => listed.getD j false) k μ a w → (∀ e ∈ o.after, Region.binds .any e = true → listed.getD e.on false = true) →
   wpOpIn fence n P ops Q l.length (wpAnyIn fence n P .any ops Q (nJ (fun j => listed.getD j false) l.length) (listed.setIfInBounds l.length true)) a w := by
  intro listed k μ a w hsz d J g
  have r : ∀ q ∈ pl, listed.getD q false = true := fun q hq => YP J (o := o) (fun j hj => by obtain ⟨e, he, hb, rfl⟩ := YX hj; exact g e he hb) hbl (hpl q hq)
  have B : ∀ i, i < l.length → (fun j => listed.getD j false) i = false → yi (ds.getD i default) = true ∧ kW T0 s b (ds.getD i default) = true := fun i hi c => hmid i hi fun hq => by
   have := r i hq
   simp only at c
   rw [this] at c; cases c
  have V : (s.Cs.getD k default).get b = some (.cells cs ty true) := by
   rw [← anm J G hop B ((dR l).length - k) (by have := J.kle; omega), show k + ((dR l).length - k) = (dR l).length by have := J.kle; omega]
   exact U
  refine apd hF J hoi X Y hst hc (q9 J (fun t j hu => ?_) O) hx hb V c2 c3 c4 (by have := J.kle; omega) fun w' A => ?_
  ·obtain ⟨E, L, M, N⟩ := T t j hu
   exact ⟨r j E, L, M, N⟩
  ·have m : l.length < listed.size := by omega
   have u := Yu m
   have C : ∀ j, j < l.length → (listed.setIfInBounds l.length true).getD j false = listed.getD j false := fun j hj => getD_set_ne false (by omega)
   have I : ∀ i, i < l.length → (fun j => listed.getD j false) i = false → _ := fun i hi c => rz (e := (.cells (cs.take off ++ (v.ev (cF T0 s.Vs uses)).cells ++ cs.drop (off + sz)) ty true)) (hop i hi) (B i hi c).1 (B i hi c).2 (fun h2 k adds hl => by
     have hcl := (G.dso i hi).2.2.2
     obtain ⟨kk, aa, H, E, -⟩ := G.act i hi (hcl.symm.trans h2)
     rw [hl] at H; cases H; omega)
   refine amx ad hF G hlen (S0 := fun j => listed.getD j false) (fun i hi c => (I i hi c).1) (fun i hi c k => (I i hi c).2 k) R _ _ k μ a w' (by simp [hsz]) (by have := congrFun u l.length; simp only [add, if_true] at this; exact this) (fun j hj W => by rw [C j W]; exact hj) (ago _ C) (A.congrS C fun j hj => ?_)
   have := congrFun u j
   rw [this]
   simp only [add]
   split
   ·rfl
   ·exact hj
 intro fuel
 induction fuel with
 | zero =>
  intro listed k μ a w hsz d y J
  have g := XO _ y
  refine ⟨fun hr => ?_, fun i hi => ?_⟩
  ·exfalso
   have : l.length ∈ Region.ready .any ops listed := by
    refine mem_ready.2 ⟨?_, o, hoi, fun e he hb => g e.on (hbl _ (ain he hb))⟩
    have : l.length < listed.size := by omega
    simp [this] at d ⊢; exact d
   rw [hr] at this; cases this
  ·obtain ⟨h0, z, f, x⟩ := mem_ready.1 hi
   have m := XC h0
   have h1 := XA m h0
   have hil : i = l.length := by
    rcases Nat.lt_or_ge i l.length with h | h
    ·rw [g i h] at h1; cases h1
    ·omega
   subst hil
   rw [hoi] at f; cases f
   have := key listed k μ a w hsz d J x
   rw [y] at this
   exact this
 | succ fuel ih =>
  intro listed k μ a w hsz d y J
  refine ⟨fun hr => ?_, fun i hi => ?_⟩
  ·exfalso
   have g := afm hsz G hr
   have : l.length ∈ Region.ready .any ops listed := by
    refine mem_ready.2 ⟨?_, o, hoi, fun e he hb => g e.on (hbl _ (ain he hb))⟩
    have : l.length < listed.size := by omega
    simp [this] at d ⊢; exact d
   rw [hr] at this; cases this
  ·obtain ⟨h0, z, f, x⟩ := mem_ready.1 hi
   have m := XC h0
   have r := XA m h0
   rcases Nat.lt_or_ge i l.length with hil | hil
   ·have u := Yu m
    refine YQ ad hF J G (hop i hil) (ajh (Z i hil) k) hil r (fun p hp => ?_) fun K w' μ' k' A => ?_
    ·refine YP J (o := z) (fun j hj => ?_) (fun j hj => ?_) (G.pre i z hil f p hp)
     ·obtain ⟨e, he, hb, rfl⟩ := YX hj; exact x e he hb
     ·have := G.back i z hil f j hj; omega
    ·refine ih _ k' μ' K w' (by simp [hsz]) ?_ ?_ (u ▸ A)
     ·rw [getD_set_ne false (by omega)]; exact d
     ·rw [u]
      have := XI (S := fun j => listed.getD j false) r l.length hil
      omega
   ·have : i = l.length := by omega
    subst this
    rw [hoi] at f; cases f
    have := key listed k μ a w hsz d J x
    rw [y] at this
    exact this
theorem aml {c : dZ} {T : Tm} {b : Heap} (G : DrawOK P ops l ds) (hs : qB c base T 0 ds ⟨[], [b], []⟩ = some s) :
  s.Vs.length = l.length ∧ (∀ i, i < l.length → qE c base T s i (ds.getD i default)) ∧ s.Cs.getD 0 default = b ∧ s.Cs.length = (dR l).length + 1 := by
 have hcls : ∀ d ∈ ds, d.cls = 0 ∨ d.cls = 1 ∨ d.cls = 2 := by
  intro d hd
  obtain ⟨i, hi, rfl⟩ := List.getElem_of_mem hd
  have g : i < l.length := by rw [← G.dlen]; exact hi
  have h1 := G.cl i g
  rw [← (G.dso i g).2.2.2, xG (List.getElem?_eq_getElem hi)] at h1
  exact h1
 obtain ⟨k1, k2, k3, k4, k5⟩ := af3 ds 0 _ _ hcls hs
 have hcl : ∀ i, i < l.length → (ds.getD i default).cls = dE l i := fun i hi => (G.dso i hi).2.2.2
 have f : ∀ i, i < l.length → ds[i]? = some (ds.getD i default) := by
  intro i hi
  have : i < ds.length := by rw [G.dlen]; exact hi
  rw [List.getElem?_eq_getElem this]
  simp [List.getD_eq_getElem?_getD, List.getElem?_eq_getElem this]
 have w : s.Vs.length = l.length := by rw [k2, G.dlen]; simp
 have r : s.Cs.getD 0 default = b := by rw [xK k1.2.1 (by simp)]; rfl
 have v : s.Cs.length = (dR l).length + 1 := by
  have := XT G.dlen hcl l.length (Nat.le_refl _)
  rw [List.take_of_length_le (by rw [G.dlen]; exact Nat.le_refl _)] at this
  rw [k4, this]; simp [dR]; omega
 refine ⟨w, ?_, r, v⟩
 intro i hi
 obtain ⟨C, D, e1, e2, m, n, o⟩ := k5 i _ (f i hi)
 rw [Nat.zero_add] at e1
 refine aon e1 e2 (hcls _ (List.mem_of_getElem? (f i hi))) (by simpa using m) (by simpa using n) (fun u x j hj => ?_) (fun h2 k adds hl => ?_)
 ·obtain ⟨t, u⟩ := u
  have hj : u = some j := hj
  subst hj
  exact (G.useS i hi t j x).2.2.1
 ·have e : dE l i = 2 := (hcl i hi) ▸ h2
  obtain ⟨B, A, h, p, q, _⟩ := G.act i hi e
  rw [hl] at h; cases h
  refine ⟨?_, fun a ha => (G.look i hi k adds (by rw [hl]; exact List.mem_cons_self ..) a ha).2.2.2⟩
  rw [o, XT G.dlen hcl i (by omega)]
  obtain ⟨y, z⟩ := aio hi e
  have := YC y p (z.trans q.symm)
  rw [this]
  simp; omega
structure DrawF (P : Program) (ops : Array Oper) (l : List DI) (ds : List DOp) (late : List Nat) (last : DOp) (mid : List Nat) (o : Oper) (pl : List Nat) : Prop where
 hG : DrawOK P ops l ds
 hlen : l.length + 1 = ops.size
 hlate : late = xD l
 hoi : ops[l.length]? = some o
 hdst : o.dst = none
 hguard : o.guard = none
 hst : CP o.op = true
 hop : last.op = (iA P o).getD .bad
 hbl : ∀ j ∈ kG o, j < l.length
 hpl : ∀ q ∈ pl, ∃ j ∈ kG o, q = j ∨ q ∈ fM l j
 hUS : ∀ t j, (t, some j) ∈ last.uses → j ∈ pl ∧ j < l.length ∧ dr l j = some t ∧ ∀ j', j' < l.length → dr l j' = some t → j' ≤ j
 hUN : ∀ t, (t, none) ∈ last.uses → ∀ j', j' < l.length → dr l j' ≠ some t
 hmid : ∀ i, i < l.length → i ∉ pl → i ∈ mid ∧ yi (ds.getD i default) = true
 hact0 : ∀ i, i < l.length → i ∉ mid → i ∈ pl
theorem ahp {late : List Nat} {last : DOp} {mid : List Nat} (h : Yi P ops = some (ds, late, last, mid)) : ∃ l o pl, DrawF P ops l ds late last mid o pl := by
 simp only [Yi] at h
 split at h
 ·cases h
 rename_i l hl
 split at h
 ·cases h
 rename_i o e
 split at h
 rotate_left
 ·cases h
 rename_i hok
 simp only [Option.some.injEq, Prod.mk.injEq] at h
 obtain ⟨f, hlate, c, hmid⟩ := h
 rw [f] at hok
 simp only [Bool.and_eq_true] at hok
 obtain ⟨⟨⟨⟨⟨⟨⟨k1, k2⟩, k3⟩, k4⟩, k5⟩, k6⟩, k7⟩, p⟩ := hok
 have r : ops.size - 1 < ops.size := by
  have := (List.getElem?_eq_some_iff.1 e).1
  simpa using this
 obtain ⟨G, hlen⟩ := ahf (ops := ops) (os := ops.toList.take (ops.size - 1)) (fun i o h => by
  rw [List.getElem?_take] at h
  split at h
  ·simpa using h
  ·cases h) hl f k1
 have hlen : l.length = ops.size - 1 := by rw [hlen]; simp
 rw [← hlen] at e k5 k6 k7 c hmid
 refine ⟨l, o, (YB ops.toList).getD l.length [], ⟨G, by omega, hlate.symm, by simpa using e, by simpa using k2, by simpa using k3, k4, by rw [← c], ?_, ?_, ?_, ?_, ?_, ?_⟩⟩
 ·intro j hj
  have := List.all_eq_true.1 k7 j hj
  simpa using this
 ·intro q hq
  rw [hlen] at hq
  have := List.all_eq_true.1 p q hq
  simp only [List.any_eq_true, Bool.or_eq_true, beq_iff_eq, List.contains_iff_mem] at this
  exact this
 ·intro t j b
  rw [← c] at b
  have := List.all_eq_true.1 k5 _ b
  simp only [aox, Bool.and_eq_true, List.all_eq_true, List.mem_range, Bool.or_eq_true, beq_iff_eq, decide_eq_true_eq, List.contains_iff_mem, bne_iff_ne, ne_eq] at this
  obtain ⟨⟨⟨g, k⟩, m⟩, n⟩ := this
  exact ⟨g, m, k, fun j' d hd => (n j' d).resolve_left fun h => h hd⟩
 ·intro t b j' d hd
  rw [← c] at b
  have := List.all_eq_true.1 k5 _ b
  simp only [aox, List.all_eq_true, List.mem_range, bne_iff_ne, ne_eq] at this
  exact this j' d hd
 ·intro i hi a
  have hm : i ∈ (List.range l.length).filter fun j => !((YB ops.toList).getD l.length []).contains j := by
   rw [List.mem_filter]
   exact ⟨by simpa using hi, by simpa using a⟩
  exact ⟨hmid ▸ hm, List.all_eq_true.1 k6 i hm⟩
 ·intro i hi a
  rw [← hmid] at a
  simp only [List.mem_filter, List.mem_range, not_and, Bool.not_eq_true', Bool.not_eq_false, List.contains_iff_mem] at a
  have := a hi
  simpa using this
theorem ai1 {T : Tm} {H : Heap} {μ : Mu} {a : Act} {w w1 : World} {m : Nat} (c : w1 = { w with drawn := w.drawn + 1 }) (hT : LR μ F w T a.tmps.toList) (hH : HR P μ F H w) (b : s.Cs.getD 0 default = { H with next := H.next + m }) (hm : l.length ≤ m) :
  Inv P l T s H.next F μ (s.Cs.getD 0 default) w1 a.defers (fun j => (Array.replicate ops.size false).getD j false) 0 μ a w1 := by
 have f : HR P μ F H w1 := hH.of_heap (by rw [c])
 have d : HR P μ F (s.Cs.getD 0 default) w1 := by rw [b]; exact f.bump _
 have hz : Hh l s H.next (fun _ => false) 0 = s.Cs.getD 0 default := by
  unfold Hh
  have : kj l (fun _ => false) 0 = [] := by simp [kj]
  rw [this]; rfl
 have g : ∀ j, (Array.replicate ops.size false).getD j false = false := by
  intro j
  rcases Nat.lt_or_ge j ops.size with h | h
  ·simp [h]
  ·simp [Array.getElem?_eq_none (show (Array.replicate ops.size false).size ≤ j by simpa using h)]
 have hf : (fun j => (Array.replicate ops.size false).getD j false) = fun _ => false := funext g
 rw [hf]
 refine ⟨fun j _ h => (by cases h), Nat.zero_le _, fun q _ => (by simp), ?_, by rw [hz]; exact d, fun j hj _ _ => ?_, ?_, fun j hj _ => pB hH (Nat.le_add_right _ _), by rw [hz]; exact Stp.refl _ _ _ _ _ _, rfl⟩
 ·rw [amh]; exact LR.mono (w := w) (w' := w1) (fun _ _ h => h) (fun _ h => h) (fun _ _ => by rw [c]) hT
 ·rw [b]
  cases hg : H.get (H.next + j) with
  | none => exact hg
  | some e =>
   obtain ⟨L, hL, _⟩ := hH.ent _ e hg
   rw [pB hH (Nat.le_add_right _ _)] at hL; cases hL
 ·rw [b]; show H.next + l.length ≤ H.next + m; omega
theorem ai9 {H : Heap} {μ : Mu} {w w1 : World} (a : w1 = { w with drawn := w.drawn + 1 }) : Stp fB P μ F H w μ F H w1 := by
 subst a
 exact ⟨fun _ _ h => h, fun _ h => h, Nat.le_refl _, fun _ _ _ => rfl, fun b L hb hL => .inr ⟨b, L, hb, hL, rfl⟩, Nat.le_refl _, fun _ _ _ h => h, fun b L h => .inl ⟨b, L, h, rfl⟩, fun b e h _ _ => ⟨e, h⟩, fun b e L h hL => .inr ⟨b, e, L, h, hL, rfl⟩, rfl, rfl, rfl⟩
theorem XN {H H' : Heap} {μ μ' : Mu} {w w1 w' : World} {m : Nat} (h1 : Stp fB P μ F H w μ F H w1) (hst : Stp (fun b => H.next ≤ b) P μ F { H with next := H.next + m } w1 μ' F H' w') : Stp fB P μ F H w μ' F H' w' :=
 h1.trans ⟨hst.mu, hst.fr, hst.size, hst.keep, hst.rw, Nat.le_trans (Nat.le_add_right _ _) hst.next, fun b hb _ hn => hst.new b (Nat.lt_of_lt_of_le hb (Nat.le_add_right _ _)) (by omega) hn, hst.rng, fun b e hb hl _ => hst.old b e hb (Nat.lt_of_lt_of_le hl (Nat.le_add_right _ _)) (by omega), hst.alv, hst.tape, hst.os, hst.out⟩
theorem akk {u : dZ} (M : dQ P u) (hm : P.follows .mixedOrders = true) {fence : Fence} {rd : Bool} (hF : FenceOK fence rd) {n id : Nat} {late mid : List Nat} {last : DOp} {Q : Exit → Act → World → Prop} {T r : Tm} {H H' : Heap} {μ : Mu} {a : Act} {w : World}
  (hc : Yi P ops = some (ds, late, last, mid)) (c : xC u ds late last mid T H = some (r, H')) (hT : LR μ F w T a.tmps.toList) (hH : HR P μ F H w)
  (hQ : ∀ d w' μ', d.defers = a.defers → LR μ' F w' r d.tmps.toList → HR P μ' F H' w' → Stp fB P μ F H w μ' F H' w' → Q .normal d w') :
  (Code.region id ops true).wpIn fence n P Q a w := by
 obtain ⟨l, o, pl, D⟩ := ahp hc
 have G := D.hG
 unfold xC at c
 split at c
 ·cases c
 rename_i s hs
 split at c
 rotate_left
 ·cases c
 rename_i Y
 split at c
 rotate_left
 ·cases c
 rename_i sz Z sv X
 split at c
 rotate_left
 ·cases c
 rename_i b off hx
 split at c
 rotate_left
 ·cases c
 rename_i hb
 obtain ⟨hb, W⟩ := hb
 split at c
 rotate_left
 ·cases c
 rename_i H2 hst
 cases c
 obtain ⟨L, hop, v, y⟩ := aml G hs
 have N : iA P o = some (.store sz Z sv) := by
  have := D.hop
  rw [X] at this
  cases z : iA P o with
  | none => rw [z] at this; cases this
  | some x => rw [z] at this; simp only [Option.getD_some] at this; rw [this]
 have m : s.Cs.getLastD default = s.Cs.getD (dR l).length default := by
  rw [List.getLastD_eq_getLast?, List.getLast?_eq_getElem?, y, List.getD_eq_getElem?_getD]; rfl
 obtain ⟨cs, ty, c1, c2, c3, c4, rfl⟩ := af7 rfl hst
 have R : (s.Cs.getD (dR l).length default).get b = some (.cells cs ty true) := by
  rw [CL, if_neg (fun h => by omega), m] at c1
  exact c1
 have O : ∀ i, i < l.length → ds[i]? = some (ds.getD i default) := by
  intro i hi
  have : i < ds.length := by rw [G.dlen]; exact hi
  rw [List.getElem?_eq_getElem this]
  simp [List.getD_eq_getElem?_getD, List.getElem?_eq_getElem this]
 obtain ⟨w1, p⟩ : ∃ w1, w1 = { w with drawn := w.drawn + 1 } := ⟨_, rfl⟩
 have ab : l.length ≤ ops.size := G.len
 have I := ai1 (ops := ops) (l := l) (s := s) p hT hH v (by rw [G.dlen]; omega)
 refine wpIn_region_any hm ?_
 rw [← p]
 have E : ∀ j, (Array.replicate ops.size false).getD j false = false := by
  intro j
  rcases Nat.lt_or_ge j ops.size with h | h
  ·simp [h]
  ·simp [Array.getElem?_eq_none (show (Array.replicate ops.size false).size ≤ j by simpa using h)]
 suffices h : wpAnyIn fence n P .any ops Q (l.length + 1) (Array.replicate ops.size false) a w1 by
  rw [D.hlen] at h; exact h
 refine anh M hF G D.hlen hop (fun i hi => ?_) y D.hoi D.hdst D.hguard D.hst N D.hbl D.hpl D.hUS D.hUN (fun i hi B => ⟨(D.hmid i hi B).2, ?_⟩) hx hb R c2 c3 c4 (fun S k μ' d w' g J => ?_) l.length _ 0 μ a w1 (by simp) (E _) (Yn _ (fun j _ => E j)) I
 ·have := afq ds 0 Y i _ (O i hi)
  rwa [Nat.zero_add] at this
 ·exact List.all_eq_true.1 W i (D.hmid i hi B).1
 ·have hk : k = (dR l).length := by
   rcases Nat.lt_or_ge k (dR l).length with h | h
   ·have := (J.act k h).1 (g _ (uB h).1); omega
   ·have := J.kle; omega
  subst hk
  generalize aa : Ent.cells (cs.take off ++ (sv.ev (cF T s.Vs last.uses)).cells ++ cs.drop (off + sz)) ty true = f at *
  have K : TS l T (s.turn b f) S = kb T ds s.Vs := by
   rw [an6, ai4 G.dlen L (fun i hi => (G.dso i hi).1)]
   unfold TS
   apply List.map_congr_left
   intro t _
   exact XP _ g
  have V : kj l S (dR l).length = xD l := by
   rw [← ao9]
   unfold kj
   apply List.filter_congr
   intro x hx
   rw [g x (by simpa using hx)]
  have C : (Hh l (s.turn b f) H.next S (dR l).length).next = ((dU H.next s.Es (s.Cs.getLastD default) late).put b f).next := by
   rw [Heap.next_put]; unfold Hh; rw [qO, qO, yh (by omega), m]; rfl
  have A : ∀ x, (Hh l (s.turn b f) H.next S (dR l).length).get x = ((dU H.next s.Es (s.Cs.getLastD default) late).put b f).get x := by
   intro x
   rw [qM, V, yh (by omega), Heap.get_put, Heap.get_put, CL, m, D.hlate]
   by_cases q : x = b
   ·subst q
    rw [if_neg (fun h => by omega), if_pos rfl, if_pos rfl]
   ·rw [if_neg q, if_neg q]; rfl
  have U := J.hr.congr C A
  have hst := J.st.congr C fun x e he => ⟨e, by rw [A]; exact he, rfl⟩
  rw [v] at hst
  exact hQ d w' μ' J.df (K ▸ J.tm) U (XN (ai9 p) hst)
end
end Go.Proofs.YtopigipibioclaaGreatDoor.Ev

namespace Go.Proofs.YtopigipibioclaaGreatDoor.Ev
open Go
set_option linter.all false
section
variable {μ μ' : Mu} {F : Nat → Prop} {w w' : World}
theorem VR.back (p : ∀ b L, μ b = some L → μ' b = some L) {c : AV} {v0 : Value} (h0 : VR μ F w c v0) : ∀ {v : Value}, VR μ' F w' c v → VR μ F w' c v := by
 induction h0 with
 | undef v0 => intro v h; exact .undef v
 | bool b => intro v h; cases h; exact .bool b
 | int k n => intro v h; cases h; exact .int k n
 | str s => intro v h; cases h; exact .str s
 | nilPtr => intro v h; cases h; exact .nilPtr
 | nilSl => intro v h; cases h; exact .nilSl
 | nilFn => intro v h; cases h; exact .nilFn
 | nilIf => intro v h; cases h; exact .nilIf
 | nilMap => intro v h; cases h; exact .nilMap
 | agg cs vs hl hv ih =>
  intro v h
  cases h with
  | agg _ us z A =>
   refine .agg cs us z fun i c u hc e => ?_
   obtain ⟨x, hx⟩ : ∃ x, vs[i]? = some x := ⟨vs[i]'(by have := (List.getElem?_eq_some_iff.1 hc).1; omega), Array.getElem?_eq_getElem _⟩
   exact ih i c x hc hx (A i c u hc e)
 | tup cs vs hl hv ih =>
  intro v h
  cases h with
  | tup _ us z A =>
   refine .tup cs us z fun i c u hc e => ?_
   obtain ⟨x, hx⟩ : ∃ x, vs[i]? = some x := ⟨vs[i]'(by have := (List.getElem?_eq_some_iff.1 hc).1; omega), Array.getElem?_eq_getElem _⟩
   exact ih i c x hc hx (A i c u hc e)
 | sl0 a cap =>
  intro v h
  cases h with
  | sl0 a cap => exact .sl0 a cap
  | sl _ _ cap blk off arr ty fr d g l j m => exact .sl0 _ _
 | sl cells n cap blk off arr ty fr hf hb hn E hv ih =>
  intro v h
  cases h with
  | sl0 a cap => exact .sl0 a cap
  | sl _ _ cap' r B q C y d g l j m =>
   refine .sl cells n cap' r B q C y d g l j fun i c u hc e => ?_
   obtain ⟨x, hx⟩ : ∃ x, arr[off + i]? = some x := ⟨arr[off + i]'(by have := (List.getElem?_eq_some_iff.1 hc).1; omega), Array.getElem?_eq_getElem _⟩
   exact ih i c x hc hx (m i c u hc e)
 | dp cells o blk off arr ty fr hf hb E hv ih =>
  intro v h
  cases h with
  | dp _ _ r B q C y d g j m =>
   refine .dp cells o r B q C y d g j fun i c u hc e => ?_
   obtain ⟨x, hx⟩ : ∃ x, arr[off + i]? = some x := ⟨arr[off + i]'(by have := (List.getElem?_eq_some_iff.1 hc).1; omega), Array.getElem?_eq_getElem _⟩
   exact ih i c x hc hx (m i c u hc e)
 | own b off n c sz ex L cap h1 h2 h3 h4 h5 K =>
  intro v h
  cases h with
  | own _ _ _ _ _ _ L' cap' d g l j m D =>
   have := p _ _ h1
   rw [d] at this
   cases this
   exact .own b off n c sz ex L cap' h1 g l j m D
 | ptr b off L h1 =>
  intro v h
  cases h with
  | ptr _ _ L' d =>
   have := p _ _ h1
   rw [d] at this
   cases this
   exact .ptr b off L h1
 | fn f as bs us vs h1 h2 h3 h4 G H =>
  intro v h
  cases h with
  | fn _ _ _ I J d g l j =>
   refine .fn f as bs I J d (fun i c u hc e => ?_) l fun i c u hc e => ?_
   ·obtain ⟨x, hx⟩ : ∃ x, us[i]? = some x := ⟨us[i]'(by have := (List.getElem?_eq_some_iff.1 hc).1; omega), Array.getElem?_eq_getElem _⟩
    exact G i c x hc hx (g i c u hc e)
   ·obtain ⟨x, hx⟩ : ∃ x, vs[i]? = some x := ⟨vs[i]'(by have := (List.getElem?_eq_some_iff.1 hc).1; omega), Array.getElem?_eq_getElem _⟩
    exact H i c x hc hx (j i c u hc e)
 | ifc t x v0 hx ih =>
  intro v h
  cases h with
  | ifc _ _ u e => exact .ifc t x u (ih e)
 | map b L h1 =>
  intro v h
  cases h with
  | map _ L' d =>
   have := p _ _ h1
   rw [d] at this
   cases this
   exact .map b L h1
 | loopv b L h1 =>
  intro v h
  cases h with
  | loopv _ L' d =>
   have := p _ _ h1
   rw [d] at this
   cases this
   exact .loopv b L h1
theorem LR.back (d : ∀ b L, μ b = some L → μ' b = some L) {cs : List AV} {a vs : List Value} (h0 : LR μ F w cs a) (h : LR μ' F w' cs vs) : LR μ F w' cs vs := by
 refine ⟨h.1, fun i c v hc hv => ?_⟩
 obtain ⟨x, hx⟩ : ∃ x, a[i]? = some x := ⟨a[i]'(by have := (List.getElem?_eq_some_iff.1 hc).1; have := h0.1; omega), List.getElem?_eq_getElem _⟩
 exact (h0.2 i c x hc hx).back d (h.2 i c v hc hv)
theorem amb {W : List Nat} {T : Tm} {vs : List Value} (h : LR μ F w T vs) : LR μ F w (fX W T) vs := by
 refine ⟨by simp [fX, h.1], fun i c v hc hv => ?_⟩
 unfold fX at hc
 rw [List.getElem?_map, Option.map_eq_some_iff] at hc
 obtain ⟨p, hp, rfl⟩ := hc
 rw [List.getElem?_zipIdx, Option.map_eq_some_iff] at hp
 obtain ⟨y, hy, rfl⟩ := hp
 split
 ·exact .undef v
 ·exact h.2 i y v hy hv
end
end Go.Proofs.YtopigipibioclaaGreatDoor.Ev
