/- The evaluator, a part. -/
import Derived.Test.YtcmbokfnglkfnaaGreatDoorEvCode
import Derived.Test.YtcmbokfnglkfnaaGreatDoorEvRel
namespace Go.Proofs.YtcmbokfnglkfnaaGreatDoor.Ev
open Go
set_option linter.all false
section
variable {P : Program} {ops : Array Oper} {l : List DI} {ds : List DOp} {T0 : Tm} {s : DS} {base : Nat} {F : Nat → Prop} {μ0 : Mu} {H0 : Heap} {w0 : World} {df : List Deferred}
def DS.turn (s : DS) (b : Nat) (e : Ent) : DS := ⟨s.Vs, s.Cs.map fun C => C.put b e, s.Es⟩
theorem aey {b k : Nat} {e : Ent} (hk : k < s.Cs.length) : (s.turn b e).Cs.getD k default = (s.Cs.getD k default).put b e := by
 unfold DS.turn
 rw [List.getD_eq_getElem?_getD, List.getD_eq_getElem?_getD, List.getElem?_map, List.getElem?_eq_getElem hk]; rfl
theorem ah5 (base : Nat) (Es : List (Option Ent)) (C : Heap) : addE base Es C [] = C := rfl
theorem afv {H : Heap} {n : Nat} {x v : AV} {b : Nat} {o : Nat} {H' : Heap} (hx : x = .ptr b o) (h : abt H n x v = some H') :
  ∃ cs ty, H.get b = some (.cells cs ty true) ∧ v.cells.length = n ∧ o + n ≤ cs.length ∧ v.cells.all AV.one = true ∧ H' = H.put b (.cells (cs.take o ++ v.cells ++ cs.drop (o + n)) ty true) := by
 subst hx
 simp only [abt] at h
 split at h
 ·rename_i cs ty hb
  split at h
  ·rename_i hc
   cases h
   exact ⟨cs, ty, hb, hc.1, hc.2.1, hc.2.2, rfl⟩
  ·cases h
 ·cases h
theorem ajj {H : Heap} {n : Nat} {v : AV} {b : Nat} {o : Nat} {cs : List AV} {ty : Nat} (h1 : H.get b = some (.cells cs ty true)) (h2 : v.cells.length = n) (h3 : o + n ≤ cs.length) (h4 : v.cells.all AV.one = true) :
  abt H n (.ptr b o) v = some (H.put b (.cells (cs.take o ++ v.cells ++ cs.drop (o + n)) ty true)) := by
 simp only [abt, h1]
 rw [if_pos ⟨h2, h3, h4⟩]
theorem agj {cal : Cal} {T : Tm} {H : Heap} {id n : Nat} {x v : Src} : opA cal (Src.ev T) H id (.store n x v) = (abt H n (x.ev T) (v.ev T)).map fun H' => (.undef, H') := rfl
theorem afz {op : AOp} (h : op.isStore = true) : ∃ n x v, op = .store n x v := by
 cases op <;> simp only [AOp.isStore] at h <;> first | (cases h; done) | exact ⟨_, _, _, rfl⟩
theorem opS_turn {cal : Cal} {i b : Nat} {e : Ent} {d : DOp} (hop : OpS cal base T0 s i d) (h1 : ae6 d = true) (h2 : midOk T0 s b d = true) (hC : d.cls = 2 → ∀ k adds, d.looks = [(k, adds)] → k + 1 < s.Cs.length) :
  OpS cal base T0 (s.turn b e) i d ∧ ∀ k, ag5 base T0 (s.turn b e) i k d := by
 unfold ae6 at h1
 simp only [Bool.and_eq_true, Bool.or_eq_true, Option.isNone_iff_eq_none, beq_iff_eq, Bool.not_eq_true'] at h1
 obtain ⟨hg, h1⟩ := h1
 rcases hop with ⟨hw, -⟩ | ⟨hw, hrest⟩
 ·rw [hg] at hw; cases hw
 ·rcases hrest with ⟨h0, hE, hval⟩ | ⟨hc1, -⟩ | ⟨hc2, hE, hact⟩
  ·have hv : pureA (Src.ev (useT T0 s.Vs d.uses)) d.op = some (s.Vs.getD i .undef) := by
    rcases hval with hv | ⟨-, hl⟩
    ·exact hv
    ·rcases h1 with h1 | h1
     ·rw [h1.2] at hl; cases hl
     ·omega
   refine ⟨.inr ⟨hw, .inl ⟨h0, hE, .inl hv⟩⟩, fun k _ _ hp => ?_⟩
   have hp : pureA (Src.ev (useT T0 s.Vs d.uses)) d.op = none := hp
   rw [hv] at hp; cases hp
  ·exfalso; rcases h1 with h1 | h1 <;> omega
  ·refine ⟨.inr ⟨hw, .inr (.inr ⟨hc2, hE, fun k adds hl => ?_⟩)⟩, fun k h0 => by omega⟩
   rcases h1 with h1 | h1
   ·omega
   obtain ⟨⟨-, hst⟩, hlk⟩ := h1
   rw [hl] at hlk
   obtain rfl : adds = [] := by cases adds <;> first | rfl | cases hlk
   obtain ⟨H', hop, hn, hgt⟩ := hact k [] hl
   have hk := hC hc2 k [] hl
   rw [aey (by omega), aey (by omega), ah5]
   rw [ah5] at hop
   obtain ⟨n, x, v, hs⟩ := afz hst
   have hne : ∃ b' o, x.ev (useT T0 s.Vs d.uses) = .ptr b' o ∧ b' ≠ b := by
    unfold midOk at h2
    rw [hc2, hs] at h2
    simp only at h2
    split at h2
    ·rename_i b' o hb'
     exact ⟨b', o, hb', by simpa using h2⟩
    ·cases h2
   obtain ⟨b', o, hx, hne⟩ := hne
   rw [hs, agj, Option.map_eq_some_iff] at hop
   obtain ⟨H1, hst1, hop⟩ := hop
   simp only [Prod.mk.injEq] at hop
   obtain ⟨hV, rfl⟩ := hop
   obtain ⟨cs, ty, c1, c2, c3, c4, rfl⟩ := afv hx hst1
   refine ⟨((s.Cs.getD k default).put b e).put b' (.cells (cs.take o ++ (v.ev (useT T0 s.Vs d.uses)).cells ++ cs.drop (o + n)) ty true), ?_, hn, ?_⟩
   ·show (opA cal (Src.ev (useT T0 s.Vs d.uses)) ((s.Cs.getD k default).put b e) (base + i) d.op) = some (s.Vs.getD i .undef, ((s.Cs.getD k default).put b e).put b' (.cells (cs.take o ++ (v.ev (useT T0 s.Vs d.uses)).cells ++ cs.drop (o + n)) ty true))
    rw [hs, agj, hx, ajj (by rw [Heap.get_put, if_neg hne]; exact c1) c2 c3 c4, ← hV]; rfl
   ·intro y
    rw [Heap.get_put, Heap.get_put, Heap.get_put, ← hgt, Heap.get_put]
    by_cases e1 : y = b'
    ·rw [if_pos e1, if_neg (by rw [e1]; exact hne), if_pos e1]
    ·rw [if_neg e1, if_neg e1]
theorem amg {I : Nat → Prop} {o : Oper} {n : Nat} {sx sy : Src} {T : Tm} {H H' : Heap} {μ : Mu} {w : World} {a : Act} (hop : aca o.op = true) (hc : cOp P o = some (.store n sx sy)) (hT : LR μ F w T a.tmps.toList) (hH : HR P μ F H w)
  (h : abt H n (sx.ev T) (sy.ev T) = some H') : ∃ w', Ends P a w o undef w' ∧ Done I P μ F H w .undef H' undef w' μ := by
 obtain ⟨dst, op, ty, pos, after, guard⟩ := o
 cases op <;> simp only [aca] at hop <;> first | (cases hop; done) | skip
 simp only [cOp, Option.bind_eq_bind, bes] at hc
 obtain ⟨n', hn, sx', hsx, sy', hsy, hc⟩ := hc; cases hc
 obtain ⟨w', h1, h2⟩ := afl (I := I) hn hH (aad hT hsx) (aad hT hsy) h
 exact ⟨w', .inr ⟨run_u h1, rfl⟩, h2⟩
theorem useT_lrF {S : Nat → Bool} {k : Nat} {μ : Mu} {a : Act} {w : World} (J : Inv P l T0 s base F μ0 H0 w0 df S k μ a w) {uses : List (Nat × Option Nat)}
  (hS : ∀ t j, (t, some j) ∈ uses → S j = true ∧ j < l.length ∧ dstOf l j = some t ∧ ∀ j', j' < l.length → dstOf l j' = some t → j' ≤ j) (hN : ∀ t, (t, none) ∈ uses → ∀ j', j' < l.length → dstOf l j' ≠ some t) :
  LR μ F w (useT T0 s.Vs uses) a.tmps.toList := by
 obtain ⟨h1, h2⟩ := aij T0 s.Vs uses
 refine ⟨by rw [h1, ← J.tm.1, ac1], fun t c v hc hv => ?_⟩
 rcases h2 t c hc with rfl | ⟨⟨t', u⟩, hu, rfl, rfl⟩
 ·exact .undef v
 ·have ht : t' < T0.length := by rw [← h1]; exact (List.getElem?_eq_some_iff.1 hc).1
  have hTS : (TS l T0 s S)[t']? = some (tv l T0 s S l.length t') := by
   unfold TS; rw [List.getElem?_map, List.getElem?_range ht]; rfl
  have hval : useV T0 s.Vs (t', u) = tv l T0 s S l.length t' := by
   cases u with
   | none => exact (afw _ fun j' hj' hd => absurd hd (hN t' hu j' hj')).symm
   | some j =>
    obtain ⟨g1, g2, g3, g4⟩ := hS t' j hu
    refine (anp g1 g3 _ g2 fun j' hlt hj' hd => ?_).symm
    have := g4 j' hj' hd
    omega
  rw [hval]
  exact J.tm.2 t' _ v hTS hv
theorem aov {cal : Cal} {S : Nat → Bool} {k b : Nat} {μ : Mu} {a : Act} {w : World} (J : Inv P l T0 s base F μ0 H0 w0 df S k μ a w) (G : DrawOK P ops l ds) (hop : ∀ i, i < l.length → OpS cal base T0 s i (ds.getD i default))
  (hmid : ∀ i, i < l.length → S i = false → ae6 (ds.getD i default) = true ∧ midOk T0 s b (ds.getD i default) = true) :
  ∀ d, k + d ≤ (aaa l).length → (s.Cs.getD (k + d) default).get b = (s.Cs.getD k default).get b
 | 0, _ => rfl
 | d + 1, h => by
  have ih := aov J G hop hmid d (by omega)
  have hq : k + d < (aaa l).length := by omega
  obtain ⟨hi, hc2⟩ := aa9 hq
  have hSi : S ((aaa l).getD (k + d) 0) = false := by
   cases hb : S ((aaa l).getD (k + d) 0) with
   | false => rfl
   | true => have := (J.act _ hq).1 hb; omega
  generalize hie : (aaa l).getD (k + d) 0 = i at *
  obtain ⟨m1, m2⟩ := hmid i hi hSi
  have hcd := (G.dso i hi).2.2.2
  obtain ⟨kk, adds, hl, g1, g2, -⟩ := G.act i hi hc2
  have hkk : kk = k + d := afg g1 hq (g2.trans hie.symm)
  subst hkk
  have hop := hop i hi
  generalize ds.getD i default = dd at *
  unfold ae6 at m1
  simp only [Bool.and_eq_true, Bool.or_eq_true, Option.isNone_iff_eq_none, beq_iff_eq, Bool.not_eq_true'] at m1
  obtain ⟨hg, m1⟩ := m1
  rcases m1 with m1 | ⟨⟨-, hst⟩, hlk⟩
  ·omega
  rw [hl] at hlk
  obtain rfl : adds = [] := by cases adds <;> first | rfl | cases hlk
  rcases hop with ⟨hw, -⟩ | ⟨hw, hrest⟩
  ·rw [hg] at hw; cases hw
  rcases hrest with ⟨h0, -⟩ | ⟨h1, -⟩ | ⟨h2, hE, hact⟩
  ·omega
  ·omega
  obtain ⟨H', hopA, hn, hgt⟩ := hact _ [] hl
  rw [ah5] at hopA
  obtain ⟨n, x, v, hs⟩ := afz hst
  unfold midOk at m2
  rw [h2, hs] at m2
  simp only at m2
  split at m2
  ·rename_i b' o hx
   rw [hs, agj, Option.map_eq_some_iff] at hopA
   obtain ⟨H1, hst1, hopA⟩ := hopA
   simp only [Prod.mk.injEq] at hopA
   obtain ⟨-, rfl⟩ := hopA
   obtain ⟨cs, ty, c1, c2, c3, c4, rfl⟩ := afv hx hst1
   have hne : ¬ b' = b := by simpa using m2
   show (s.Cs.getD (k + d + 1) default).get b = _
   rw [← hgt, Heap.get_put, if_neg (fun e => hne e.symm)]
   exact ih
  ·cases m2
theorem aoq {S : Nat → Bool} {b t : Nat} {e : Ent} : ∀ n, tv l T0 (s.turn b e) S n t = tv l T0 s S n t
 | 0 => rfl
 | n + 1 => by simp only [tv]; rw [aoq n]; rfl
theorem ao1 {S : Nat → Bool} {b : Nat} {e : Ent} : TS l T0 (s.turn b e) S = TS l T0 s S := by
 unfold TS
 exact List.map_congr_left fun t _ => aoq _
theorem anf {fence : Fence} {rd : Bool} (hF : FenceOK fence rd) {n : Nat} {Q : Exit → Act → World → Prop} {S : Nat → Bool} {k : Nat} {μ : Mu} {a : Act} {w : World} (J : Inv P l T0 s base F μ0 H0 w0 df S k μ a w)
  {o : Oper} {i sz b off ty : Nat} {sx sv : Src} {uses : List (Nat × Option Nat)} {cs : List AV} (hoi : ops[i]? = some o) (hod : o.dst = none) (hog : o.guard = none) (hst : aca o.op = true) (hc : cOp P o = some (.store sz sx sv))
  (hT : LR μ F w (useT T0 s.Vs uses) a.tmps.toList) (hx : sx.ev (useT T0 s.Vs uses) = .ptr b off) (hb : b < base) (hget : (s.Cs.getD k default).get b = some (.cells cs ty true))
  (c2 : (sv.ev (useT T0 s.Vs uses)).cells.length = sz) (c3 : off + sz ≤ cs.length) (c4 : (sv.ev (useT T0 s.Vs uses)).cells.all AV.one = true) (hk : k < s.Cs.length) {K : Act → World → Prop}
  (hK : ∀ w', Inv P l T0 (s.turn b (.cells (cs.take off ++ (sv.ev (useT T0 s.Vs uses)).cells ++ cs.drop (off + sz)) ty true)) base F μ0 H0 w0 df S k μ a w' → K a w') : wpOpIn fence n P ops Q i K a w := by
 unfold Go.wpOpIn
 simp only [hoi]
 have hw : Region.wanted o (yielded ops a.tmps) = true := by unfold Region.wanted; rw [hog]
 rw [if_pos hw]
 have hHb : (Hh l s base S k).get b = some (.cells cs ty true) := by
  rw [acp, if_neg (fun h => by omega)]; exact hget
 obtain ⟨w', hE, hD⟩ := amg (I := fun b => base ≤ b) hst hc hT J.hr (by rw [hx]; exact ajj hHb c2 c3 c4)
 refine adp hF (af0 hc) hE ?_
 have hput : a.put o.dst undef = a := by rw [hod]; rfl
 rw [hput]
 generalize he8 : Ent.cells (cs.take off ++ (sv.ev (useT T0 s.Vs uses)).cells ++ cs.drop (off + sz)) ty true = e8 at *
 have hnext : ((Hh l s base S k).put b e8).next = (Hh l (s.turn b e8) base S k).next := by
  rw [Heap.next_put]; unfold Hh; rw [aat, aat, aey hk]; rfl
 have hgt : ∀ x, ((Hh l s base S k).put b e8).get x = (Hh l (s.turn b e8) base S k).get x := by
  intro x
  rw [Heap.get_put, acp, acp, aey hk, Heap.get_put]
  by_cases hxb : x = b
  ·subst hxb
   rw [if_pos rfl, if_neg (fun h => by omega), if_pos rfl]
  ·rw [if_neg hxb, if_neg hxb]; rfl
 refine hK w' ⟨J.cl, J.kle, J.act, by rw [ao1]; exact hD.stp.lr J.hr J.tm, hD.heap.congr hnext hgt, fun j h1 h2 h3 => ?_, ?_, J.un, J.st.trans (hD.stp.congr hnext fun x e he => ⟨e, by rw [hgt]; exact he, rfl⟩), J.df⟩
 ·rw [aey hk, Heap.get_put, if_neg (by omega)]; exact J.noC j h1 h2 h3
 ·rw [aey hk]; exact J.nx
theorem agq {listed : Array Bool} {j : Nat} (h : listed.getD j true = false) : j < listed.size := by
 rcases Nat.lt_or_ge j listed.size with h' | h'
 ·exact h'
 ·simp [Array.getElem?_eq_none h'] at h
theorem aii {listed : Array Bool} {i : Nat} (hlt : i < listed.size) : (fun j => (listed.setIfInBounds i true).getD j false) = add (fun j => listed.getD j false) i := by
 funext j
 by_cases e : j = i
 ·subst e; simp [add, hlt]
 ·rw [getD_set_ne false (Ne.symm e)]; simp [add, e]
theorem agk {listed : Array Bool} {j : Nat} (hlt : j < listed.size) (h : listed.getD j true = false) : listed.getD j false = false := by
 simp [hlt] at h ⊢; exact h
theorem aia {o : Oper} {e : Edge} (he : e ∈ o.after) (hb : Region.binds .any e = true) : e.on ∈ aam o := by
 unfold aam
 exact List.mem_map.2 ⟨e, List.mem_filter.2 ⟨by simpa using he, hb⟩, rfl⟩
theorem ad0 {o : Oper} {j : Nat} (h : j ∈ aam o) : ∃ e, e ∈ o.after ∧ Region.binds .any e = true ∧ e.on = j := by
 unfold aam at h
 obtain ⟨e, he, rfl⟩ := List.mem_map.1 h
 rw [List.mem_filter] at he
 exact ⟨e, by simpa using he.1, he.2, rfl⟩
theorem aed {S : Nat → Bool} {k : Nat} {μ : Mu} {a : Act} {w : World} (J : Inv P l T0 s base F μ0 H0 w0 df S k μ a w) {o : Oper} (hS : ∀ j ∈ aam o, S j = true) (hlt : ∀ j ∈ aam o, j < l.length)
  {p : Nat} (hp : ∃ j ∈ aam o, p = j ∨ p ∈ prOf l j) : S p = true := by
 obtain ⟨j, hj, hh⟩ := hp
 rcases hh with rfl | hh
 ·exact hS _ hj
 ·exact J.cl j (hlt j hj) (hS j hj) p hh
theorem af1 {listed : Array Bool} (hsz : listed.size = ops.size) (G : DrawOK P ops l ds) (hr : Region.ready .any ops listed = []) : ∀ j, j < l.length → listed.getD j false = true := by
 intro j
 induction j using Nat.strongRecOn with
 | _ j hj =>
  intro hlt
  cases hS : listed.getD j false with
  | true => rfl
  | false =>
   exfalso
   obtain ⟨o, ho, _⟩ := G.op j hlt
   have hlt2 : j < listed.size := by have := G.len; omega
   have : j ∈ Region.ready .any ops listed := by
    refine mem_ready.2 ⟨by simp [hlt2] at hS ⊢; exact hS, o, ho, fun e he hb => ?_⟩
    have hlt' := G.back j o hlt ho _ (aia he hb)
    exact hj e.on hlt' (by omega)
   rw [hr] at this; cases this
theorem Inv.congrS {S S' : Nat → Bool} {k : Nat} {μ : Mu} {a : Act} {w : World} (J : Inv P l T0 s base F μ0 H0 w0 df S k μ a w) (h : ∀ j, j < l.length → S' j = S j) (h' : ∀ j, S j = true → S' j = true) : Inv P l T0 s base F μ0 H0 w0 df S' k μ a w := by
 have hTS : TS l T0 s S' = TS l T0 s S := List.map_congr_left fun t _ => adu _ h
 have hlst : lst l S' k = lst l S k := List.filter_congr fun x hx => by rw [h x (by simpa using hx)]
 have hHh : Hh l s base S' k = Hh l s base S k := by unfold Hh; rw [hlst]
 exact ⟨fun j hj hSj p hp => h' p (J.cl j hj (h j hj ▸ hSj) p hp), J.kle, fun q hq => by rw [h _ (aa9 hq).1]; exact J.act q hq, hTS ▸ J.tm, hHh ▸ J.hr, J.noC, J.nx, fun j hj hSj => J.un j hj (h j hj ▸ hSj), hHh ▸ J.st, J.df⟩
theorem amv {cal : Cal} (hcal : CalOK P cal) {fence : Fence} {rd : Bool} (hF : FenceOK fence rd) {n : Nat} {Q : Exit → Act → World → Prop} (G : DrawOK P ops l ds) (hlen : l.length + 1 = ops.size) {S0 : Nat → Bool}
  (hop : ∀ i, i < l.length → S0 i = false → OpS cal base T0 s i (ds.getD i default)) (hsame : ∀ i, i < l.length → S0 i = false → ∀ k, ag5 base T0 s i k (ds.getD i default))
  (hQ : ∀ S k μ a w, (∀ j, j < l.length → S j = true) → Inv P l T0 s base F μ0 H0 w0 df S k μ a w → Q .normal a w) :
  ∀ (fuel : Nat) (listed : Array Bool) (k : Nat) (μ : Mu) (a : Act) (w : World), listed.size = ops.size → listed.getD l.length false = true → (∀ j, S0 j = true → j < l.length → listed.getD j false = true) → cnt (fun j => listed.getD j false) l.length = fuel →
   Inv P l T0 s base F μ0 H0 w0 df (fun j => listed.getD j false) k μ a w → wpAnyIn fence n P .any ops Q fuel listed a w := by
 intro fuel
 induction fuel with
 | zero =>
  intro listed k μ a w hsz hlast hS0 hcnt J
  have hall := aei _ hcnt
  refine ⟨?_, hQ _ k μ a w hall J⟩
  apply List.eq_nil_iff_forall_not_mem.2
  intro j hj
  have h0 := (mem_ready.1 hj).1
  have hlt := agq h0
  have h1 := agk hlt h0
  rcases Nat.lt_or_ge j l.length with h | h
  ·rw [hall j h] at h1; cases h1
  ·have : j = l.length := by omega
   rw [this, hlast] at h1; cases h1
 | succ fuel ih =>
  intro listed k μ a w hsz hlast hS0 hcnt J
  refine ⟨fun hr => hQ _ k μ a w (af1 hsz G hr) J, fun i hi => ?_⟩
  obtain ⟨h0, o, ho, hall⟩ := mem_ready.1 hi
  have hlt := agq h0
  have hS := agk hlt h0
  have hil : i < l.length := by
   rcases Nat.lt_or_ge i l.length with h | h
   ·exact h
   ·have : i = l.length := by omega
    rw [this, hlast] at hS; cases hS
  have hS0i : S0 i = false := by
   cases hb : S0 i with
   | false => rfl
   | true => rw [hS0 i hb hil] at hS; cases hS
  have hset := aii hlt
  refine aef hcal hF J G (hop i hil hS0i) (hsame i hil hS0i k) hil hS (fun p hp => ?_) fun a' w' μ' k' J' => ?_
  ·refine aed J (o := o) (fun j hj => ?_) (fun j hj => ?_) (G.pre i o hil ho p hp)
   ·obtain ⟨e, he, hb, rfl⟩ := ad0 hj; exact hall e he hb
   ·have := G.back i o hil ho j hj; omega
  ·refine ih _ k' μ' a' w' (by simp [hsz]) ?_ (fun j hj hjl => ?_) ?_ (hset ▸ J')
   ·rw [getD_set_ne false (by omega)]; exact hlast
   ·have := congrFun hset j
    rw [this]
    simp only [add]
    split
    ·rfl
    ·exact hS0 j hj hjl
   ·rw [hset]
    have := afr (S := fun j => listed.getD j false) hS l.length hil
    omega
theorem am1 {cal : Cal} (hcal : CalOK P cal) {fence : Fence} {rd : Bool} (hF : FenceOK fence rd) {n : Nat} {Q : Exit → Act → World → Prop} (G : DrawOK P ops l ds) (hlen : l.length + 1 = ops.size)
  (hop : ∀ i, i < l.length → OpS cal base T0 s i (ds.getD i default)) (hsame : ∀ i, i < l.length → abe base T0 s i (ds.getD i default) = true) (hCl : s.Cs.length = (aaa l).length + 1)
  {o : Oper} {sz b off ty : Nat} {sx sv : Src} {uses : List (Nat × Option Nat)} {cs : List AV} {pl : List Nat} (hoi : ops[l.length]? = some o) (hod : o.dst = none) (hog : o.guard = none) (hst : aca o.op = true) (hc : cOp P o = some (.store sz sx sv))
  (hbl : ∀ j ∈ aam o, j < l.length) (hpl : ∀ q ∈ pl, ∃ j ∈ aam o, q = j ∨ q ∈ prOf l j)
  (hU : ∀ t j, (t, some j) ∈ uses → j ∈ pl ∧ j < l.length ∧ dstOf l j = some t ∧ ∀ j', j' < l.length → dstOf l j' = some t → j' ≤ j) (hN : ∀ t, (t, none) ∈ uses → ∀ j', j' < l.length → dstOf l j' ≠ some t)
  (hmid : ∀ i, i < l.length → i ∉ pl → ae6 (ds.getD i default) = true ∧ midOk T0 s b (ds.getD i default) = true)
  (hx : sx.ev (useT T0 s.Vs uses) = .ptr b off) (hb : b < base) (hget : (s.Cs.getD (aaa l).length default).get b = some (.cells cs ty true))
  (c2 : (sv.ev (useT T0 s.Vs uses)).cells.length = sz) (c3 : off + sz ≤ cs.length) (c4 : (sv.ev (useT T0 s.Vs uses)).cells.all AV.one = true)
  (hQ : ∀ S k μ a w, (∀ j, j < l.length → S j = true) → Inv P l T0 (s.turn b (.cells (cs.take off ++ (sv.ev (useT T0 s.Vs uses)).cells ++ cs.drop (off + sz)) ty true)) base F μ0 H0 w0 df S k μ a w → Q .normal a w) :
  ∀ (fuel : Nat) (listed : Array Bool) (k : Nat) (μ : Mu) (a : Act) (w : World), listed.size = ops.size → listed.getD l.length false = false → cnt (fun j => listed.getD j false) l.length = fuel →
   Inv P l T0 s base F μ0 H0 w0 df (fun j => listed.getD j false) k μ a w → wpAnyIn fence n P .any ops Q (fuel + 1) listed a w := by
 have key : ∀ (listed : Array Bool) (k : Nat) (μ : Mu) (a : Act) (w : World), listed.size = ops.size → listed.getD l.length false = false → Inv P l T0 s base F μ0 H0 w0 df (fun j => listed.getD j false) k μ a w → (∀ e ∈ o.after, Region.binds .any e = true → listed.getD e.on false = true) →
   wpOpIn fence n P ops Q l.length (wpAnyIn fence n P .any ops Q (cnt (fun j => listed.getD j false) l.length) (listed.setIfInBounds l.length true)) a w := by
  intro listed k μ a w hsz hlast J hall
  have hS : ∀ q ∈ pl, listed.getD q false = true := fun q hq => aed J (o := o) (fun j hj => by obtain ⟨e, he, hb, rfl⟩ := ad0 hj; exact hall e he hb) hbl (hpl q hq)
  have hmid' : ∀ i, i < l.length → (fun j => listed.getD j false) i = false → ae6 (ds.getD i default) = true ∧ midOk T0 s b (ds.getD i default) = true := fun i hi hSi => hmid i hi fun hq => by
   have := hS i hq
   simp only at hSi
   rw [this] at hSi; cases hSi
  have hget' : (s.Cs.getD k default).get b = some (.cells cs ty true) := by
   rw [← aov J G hop hmid' ((aaa l).length - k) (by have := J.kle; omega), show k + ((aaa l).length - k) = (aaa l).length by have := J.kle; omega]
   exact hget
  refine anf hF J hoi hod hog hst hc (useT_lrF J (fun t j hu => ?_) hN) hx hb hget' c2 c3 c4 (by have := J.kle; omega) fun w' J' => ?_
  ·obtain ⟨g1, g2, g3, g4⟩ := hU t j hu
   exact ⟨hS j g1, g2, g3, g4⟩
  ·have hlt : l.length < listed.size := by omega
   have hset := aii hlt
   have hsetj : ∀ j, j < l.length → (listed.setIfInBounds l.length true).getD j false = listed.getD j false := fun j hj => getD_set_ne false (by omega)
   have hturn : ∀ i, i < l.length → (fun j => listed.getD j false) i = false → _ := fun i hi hSi => opS_turn (e := (.cells (cs.take off ++ (sv.ev (useT T0 s.Vs uses)).cells ++ cs.drop (off + sz)) ty true)) (hop i hi) (hmid' i hi hSi).1 (hmid' i hi hSi).2 (fun h2 k adds hl => by
     have hcl := (G.dso i hi).2.2.2
     obtain ⟨kk, adds', hl', g1, -⟩ := G.act i hi (hcl.symm.trans h2)
     rw [hl] at hl'; cases hl'; omega)
   refine amv hcal hF G hlen (S0 := fun j => listed.getD j false) (fun i hi hSi => (hturn i hi hSi).1) (fun i hi hSi k => (hturn i hi hSi).2 k) hQ _ _ k μ a w' (by simp [hsz]) (by have := congrFun hset l.length; simp only [add, if_true] at this; exact this) (fun j hj hjl => by rw [hsetj j hjl]; exact hj) (aft _ hsetj) (J'.congrS hsetj fun j hj => ?_)
   have := congrFun hset j
   rw [this]
   simp only [add]
   split
   ·rfl
   ·exact hj
 intro fuel
 induction fuel with
 | zero =>
  intro listed k μ a w hsz hlast hcnt J
  have hall := aei _ hcnt
  refine ⟨fun hr => ?_, fun i hi => ?_⟩
  ·exfalso
   have : l.length ∈ Region.ready .any ops listed := by
    refine mem_ready.2 ⟨?_, o, hoi, fun e he hb => hall e.on (hbl _ (aia he hb))⟩
    have : l.length < listed.size := by omega
    simp [this] at hlast ⊢; exact hlast
   rw [hr] at this; cases this
  ·obtain ⟨h0, o', ho, hall'⟩ := mem_ready.1 hi
   have hlt := agq h0
   have h1 := agk hlt h0
   have hil : i = l.length := by
    rcases Nat.lt_or_ge i l.length with h | h
    ·rw [hall i h] at h1; cases h1
    ·omega
   subst hil
   rw [hoi] at ho; cases ho
   have := key listed k μ a w hsz hlast J hall'
   rw [hcnt] at this
   exact this
 | succ fuel ih =>
  intro listed k μ a w hsz hlast hcnt J
  refine ⟨fun hr => ?_, fun i hi => ?_⟩
  ·exfalso
   have hall := af1 hsz G hr
   have : l.length ∈ Region.ready .any ops listed := by
    refine mem_ready.2 ⟨?_, o, hoi, fun e he hb => hall e.on (hbl _ (aia he hb))⟩
    have : l.length < listed.size := by omega
    simp [this] at hlast ⊢; exact hlast
   rw [hr] at this; cases this
  ·obtain ⟨h0, o', ho, hall'⟩ := mem_ready.1 hi
   have hlt := agq h0
   have hS := agk hlt h0
   rcases Nat.lt_or_ge i l.length with hil | hil
   ·have hset := aii hlt
    refine aef hcal hF J G (hop i hil) (aji (hsame i hil) k) hil hS (fun p hp => ?_) fun a' w' μ' k' J' => ?_
    ·refine aed J (o := o') (fun j hj => ?_) (fun j hj => ?_) (G.pre i o' hil ho p hp)
     ·obtain ⟨e, he, hb, rfl⟩ := ad0 hj; exact hall' e he hb
     ·have := G.back i o' hil ho j hj; omega
    ·refine ih _ k' μ' a' w' (by simp [hsz]) ?_ ?_ (hset ▸ J')
     ·rw [getD_set_ne false (by omega)]; exact hlast
     ·rw [hset]
      have := afr (S := fun j => listed.getD j false) hS l.length hil
      omega
   ·have : i = l.length := by omega
    subst this
    rw [hoi] at ho; cases ho
    have := key listed k μ a w hsz hlast J hall'
    rw [hcnt] at this
    exact this
theorem amw {cal : Cal} {T : Tm} {C0 : Heap} (G : DrawOK P ops l ds) (hs : ab4 cal base T 0 ds ⟨[], [C0], []⟩ = some s) :
  s.Vs.length = l.length ∧ (∀ i, i < l.length → OpS cal base T s i (ds.getD i default)) ∧ s.Cs.getD 0 default = C0 ∧ s.Cs.length = (aaa l).length + 1 := by
 have hcls : ∀ d ∈ ds, d.cls = 0 ∨ d.cls = 1 ∨ d.cls = 2 := by
  intro d hd
  obtain ⟨i, hi, rfl⟩ := List.getElem_of_mem hd
  have hi' : i < l.length := by rw [← G.dlen]; exact hi
  have h1 := G.cl i hi'
  rw [← (G.dso i hi').2.2.2, ace (List.getElem?_eq_getElem hi)] at h1
  exact h1
 obtain ⟨k1, k2, k3, k4, k5⟩ := af2 ds 0 _ _ hcls hs
 have hcl : ∀ i, i < l.length → (ds.getD i default).cls = clOf l i := fun i hi => (G.dso i hi).2.2.2
 have hdi : ∀ i, i < l.length → ds[i]? = some (ds.getD i default) := by
  intro i hi
  have : i < ds.length := by rw [G.dlen]; exact hi
  rw [List.getElem?_eq_getElem this]
  simp [List.getD_eq_getElem?_getD, List.getElem?_eq_getElem this]
 have hVl : s.Vs.length = l.length := by rw [k2, G.dlen]; simp
 have hC0 : s.Cs.getD 0 default = C0 := by rw [aas k1.2.1 (by simp)]; rfl
 have hCl : s.Cs.length = (aaa l).length + 1 := by
  have := ab0 G.dlen hcl l.length (Nat.le_refl _)
  rw [List.take_of_length_le (by rw [G.dlen]; exact Nat.le_refl _)] at this
  rw [k4, this]; simp [aaa]; omega
 refine ⟨hVl, ?_, hC0, hCl⟩
 intro i hi
 obtain ⟨s1, s2, e1, e2, e3, e4, e5⟩ := k5 i _ (hdi i hi)
 rw [Nat.zero_add] at e1
 refine ang e1 e2 (hcls _ (List.mem_of_getElem? (hdi i hi))) (by simpa using e3) (by simpa using e4) (fun u hu j hj => ?_) (fun h2 k adds hl => ?_)
 ·obtain ⟨t, u⟩ := u
  have hj : u = some j := hj
  subst hj
  exact (G.useS i hi t j hu).2.2.1
 ·have hc2 : clOf l i = 2 := (hcl i hi) ▸ h2
  obtain ⟨kk, adds', hl', g1, g2, _⟩ := G.act i hi hc2
  rw [hl] at hl'; cases hl'
  refine ⟨?_, fun a ha => (G.look i hi k adds (by rw [hl]; exact List.mem_cons_self ..) a ha).2.2.2⟩
  rw [e5, ab0 G.dlen hcl i (by omega)]
  obtain ⟨q1, q2⟩ := ah3 hi hc2
  have := afg q1 g1 (q2.trans g2.symm)
  rw [this]
  simp; omega
structure DrawF (P : Program) (ops : Array Oper) (l : List DI) (ds : List DOp) (late : List Nat) (last : DOp) (mid : List Nat) (o : Oper) (pl : List Nat) : Prop where
 hG : DrawOK P ops l ds
 hlen : l.length + 1 = ops.size
 hlate : late = adx l
 hoi : ops[l.length]? = some o
 hdst : o.dst = none
 hguard : o.guard = none
 hst : aca o.op = true
 hop : last.op = (cOp P o).getD .bad
 hbl : ∀ j ∈ aam o, j < l.length
 hpl : ∀ q ∈ pl, ∃ j ∈ aam o, q = j ∨ q ∈ prOf l j
 hUS : ∀ t j, (t, some j) ∈ last.uses → j ∈ pl ∧ j < l.length ∧ dstOf l j = some t ∧ ∀ j', j' < l.length → dstOf l j' = some t → j' ≤ j
 hUN : ∀ t, (t, none) ∈ last.uses → ∀ j', j' < l.length → dstOf l j' ≠ some t
 hmid : ∀ i, i < l.length → i ∉ pl → i ∈ mid ∧ ae6 (ds.getD i default) = true
 hact0 : ∀ i, i < l.length → i ∉ mid → i ∈ pl
theorem ahg {late : List Nat} {last : DOp} {mid : List Nat} (h : al9 P ops = some (ds, late, last, mid)) : ∃ l o pl, DrawF P ops l ds late last mid o pl := by
 simp only [al9] at h
 split at h
 ·cases h
 rename_i l hl
 split at h
 ·cases h
 rename_i o ho
 split at h
 rotate_left
 ·cases h
 rename_i hok
 simp only [Option.some.injEq, Prod.mk.injEq] at h
 obtain ⟨hds, hlate, hlast, hmid⟩ := h
 rw [hds] at hok
 simp only [Bool.and_eq_true] at hok
 obtain ⟨⟨⟨⟨⟨⟨⟨k1, k2⟩, k3⟩, k4⟩, k5⟩, k6⟩, k7⟩, k8⟩ := hok
 have hlt : ops.size - 1 < ops.size := by
  have := (List.getElem?_eq_some_iff.1 ho).1
  simpa using this
 obtain ⟨G, hlen⟩ := agz (ops := ops) (os := ops.toList.take (ops.size - 1)) (fun i o h => by
  rw [List.getElem?_take] at h
  split at h
  ·simpa using h
  ·cases h) hl hds k1
 have hlen : l.length = ops.size - 1 := by rw [hlen]; simp
 rw [← hlen] at ho k5 k6 k7 hlast hmid
 refine ⟨l, o, (ahx ops.toList).getD l.length [], ⟨G, by omega, hlate.symm, by simpa using ho, by simpa using k2, by simpa using k3, k4, by rw [← hlast], ?_, ?_, ?_, ?_, ?_, ?_⟩⟩
 ·intro j hj
  have := List.all_eq_true.1 k7 j hj
  simpa using this
 ·intro q hq
  rw [hlen] at hq
  have := List.all_eq_true.1 k8 q hq
  simp only [List.any_eq_true, Bool.or_eq_true, beq_iff_eq, List.contains_iff_mem] at this
  exact this
 ·intro t j hu
  rw [← hlast] at hu
  have := List.all_eq_true.1 k5 _ hu
  simp only [ao2, Bool.and_eq_true, List.all_eq_true, List.mem_range, Bool.or_eq_true, beq_iff_eq, decide_eq_true_eq, List.contains_iff_mem, bne_iff_ne, ne_eq] at this
  obtain ⟨⟨⟨g1, g2⟩, g3⟩, g4⟩ := this
  exact ⟨g1, g3, g2, fun j' hj' hd => (g4 j' hj').resolve_left fun h => h hd⟩
 ·intro t hu j' hj' hd
  rw [← hlast] at hu
  have := List.all_eq_true.1 k5 _ hu
  simp only [ao2, List.all_eq_true, List.mem_range, bne_iff_ne, ne_eq] at this
  exact this j' hj' hd
 ·intro i hi hni
  have hm : i ∈ (List.range l.length).filter fun j => !((ahx ops.toList).getD l.length []).contains j := by
   rw [List.mem_filter]
   exact ⟨by simpa using hi, by simpa using hni⟩
  exact ⟨hmid ▸ hm, List.all_eq_true.1 k6 i hm⟩
 ·intro i hi hni
  rw [← hmid] at hni
  simp only [List.mem_filter, List.mem_range, not_and, Bool.not_eq_true', Bool.not_eq_false, List.contains_iff_mem] at hni
  have := hni hi
  simpa using this
theorem ajo {T : Tm} {H : Heap} {μ : Mu} {a : Act} {w w1 : World} {m : Nat} (hw1 : w1 = { w with drawn := w.drawn + 1 }) (hT : LR μ F w T a.tmps.toList) (hH : HR P μ F H w) (hC0 : s.Cs.getD 0 default = { H with next := H.next + m }) (hm : l.length ≤ m) :
  Inv P l T s H.next F μ (s.Cs.getD 0 default) w1 a.defers (fun j => (Array.replicate ops.size false).getD j false) 0 μ a w1 := by
 have hH1 : HR P μ F H w1 := hH.of_heap (by rw [hw1])
 have hB1 : HR P μ F (s.Cs.getD 0 default) w1 := by rw [hC0]; exact hH1.bump _
 have hz : Hh l s H.next (fun _ => false) 0 = s.Cs.getD 0 default := by
  unfold Hh
  have : lst l (fun _ => false) 0 = [] := by simp [lst]
  rw [this]; rfl
 have hrep : ∀ j, (Array.replicate ops.size false).getD j false = false := by
  intro j
  rcases Nat.lt_or_ge j ops.size with h | h
  ·simp [h]
  ·simp [Array.getElem?_eq_none (show (Array.replicate ops.size false).size ≤ j by simpa using h)]
 have hf : (fun j => (Array.replicate ops.size false).getD j false) = fun _ => false := funext hrep
 rw [hf]
 refine ⟨fun j _ h => (by cases h), Nat.zero_le _, fun q _ => (by simp), ?_, by rw [hz]; exact hB1, fun j hj _ _ => ?_, ?_, fun j hj _ => aal hH (Nat.le_add_right _ _), by rw [hz]; exact Stp.refl _ _ _ _ _ _, rfl⟩
 ·rw [alk]; exact LR.mono (w := w) (w' := w1) (fun _ _ h => h) (fun _ h => h) (fun _ _ => by rw [hw1]) hT
 ·rw [hC0]
  cases hg : H.get (H.next + j) with
  | none => exact hg
  | some e =>
   obtain ⟨L, hL, _⟩ := hH.ent _ e hg
   rw [aal hH (Nat.le_add_right _ _)] at hL; cases hL
 ·rw [hC0]; show H.next + l.length ≤ H.next + m; omega
theorem ajd {H : Heap} {μ : Mu} {w w1 : World} (hw1 : w1 = { w with drawn := w.drawn + 1 }) : Stp NoI P μ F H w μ F H w1 := by
 subst hw1
 exact ⟨fun _ _ h => h, fun _ h => h, Nat.le_refl _, fun _ _ _ => rfl, fun b L hb hL => .inr ⟨b, L, hb, hL, rfl⟩, Nat.le_refl _, fun _ _ _ h => h, fun b L h => .inl ⟨b, L, h, rfl⟩, fun b e h _ _ => ⟨e, h⟩, fun b e L h hL => .inr ⟨b, e, L, h, hL, rfl⟩, rfl, rfl, rfl⟩
theorem adz {H H' : Heap} {μ μ' : Mu} {w w1 w' : World} {m : Nat} (h1 : Stp NoI P μ F H w μ F H w1) (hst : Stp (fun b => H.next ≤ b) P μ F { H with next := H.next + m } w1 μ' F H' w') : Stp NoI P μ F H w μ' F H' w' :=
 h1.trans ⟨hst.mu, hst.fr, hst.size, hst.keep, hst.rw, Nat.le_trans (Nat.le_add_right _ _) hst.next, fun b hb _ hn => hst.new b (Nat.lt_of_lt_of_le hb (Nat.le_add_right _ _)) (by omega) hn, hst.rng, fun b e hb hl _ => hst.old b e hb (Nat.lt_of_lt_of_le hl (Nat.le_add_right _ _)) (by omega), hst.alv, hst.tape, hst.os, hst.out⟩
theorem akh {cal : Cal} (hcal : CalOK P cal) (hm : P.follows .mixedOrders = true) {fence : Fence} {rd : Bool} (hF : FenceOK fence rd) {n id : Nat} {late mid : List Nat} {last : DOp} {Q : Exit → Act → World → Prop} {T T' : Tm} {H H' : Heap} {μ : Mu} {a : Act} {w : World}
  (hc : al9 P ops = some (ds, late, last, mid)) (hrun : ad6 cal ds late last mid T H = some (T', H')) (hT : LR μ F w T a.tmps.toList) (hH : HR P μ F H w)
  (hQ : ∀ a' w' μ', a'.defers = a.defers → LR μ' F w' T' a'.tmps.toList → HR P μ' F H' w' → Stp NoI P μ F H w μ' F H' w' → Q .normal a' w') :
  (Code.region id ops true).wpIn fence n P Q a w := by
 obtain ⟨l, o, pl, D⟩ := ahg hc
 have G := D.hG
 unfold ad6 at hrun
 split at hrun
 ·cases hrun
 rename_i s hs
 split at hrun
 rotate_left
 ·cases hrun
 rename_i hsame
 split at hrun
 rotate_left
 ·cases hrun
 rename_i sz sx sv hop0
 split at hrun
 rotate_left
 ·cases hrun
 rename_i b off hx
 split at hrun
 rotate_left
 ·cases hrun
 rename_i hb
 obtain ⟨hb, hmids⟩ := hb
 split at hrun
 rotate_left
 ·cases hrun
 rename_i H2 hst
 cases hrun
 obtain ⟨hVl, hop, hC0, hCl⟩ := amw G hs
 have hcop : cOp P o = some (.store sz sx sv) := by
  have := D.hop
  rw [hop0] at this
  cases hco : cOp P o with
  | none => rw [hco] at this; cases this
  | some x => rw [hco] at this; simp only [Option.getD_some] at this; rw [this]
 have hlast : s.Cs.getLastD default = s.Cs.getD (aaa l).length default := by
  rw [List.getLastD_eq_getLast?, List.getLast?_eq_getElem?, hCl, List.getD_eq_getElem?_getD]; rfl
 obtain ⟨cs, ty, c1, c2, c3, c4, rfl⟩ := afv rfl hst
 have hget : (s.Cs.getD (aaa l).length default).get b = some (.cells cs ty true) := by
  rw [adb, if_neg (fun h => by omega), hlast] at c1
  exact c1
 have hdi : ∀ i, i < l.length → ds[i]? = some (ds.getD i default) := by
  intro i hi
  have : i < ds.length := by rw [G.dlen]; exact hi
  rw [List.getElem?_eq_getElem this]
  simp [List.getD_eq_getElem?_getD, List.getElem?_eq_getElem this]
 obtain ⟨w1, hw1⟩ : ∃ w1, w1 = { w with drawn := w.drawn + 1 } := ⟨_, rfl⟩
 have hlsz : l.length ≤ ops.size := G.len
 have J0 := ajo (ops := ops) (l := l) (s := s) hw1 hT hH hC0 (by rw [G.dlen]; omega)
 refine wpIn_region_any hm ?_
 rw [← hw1]
 have hrep : ∀ j, (Array.replicate ops.size false).getD j false = false := by
  intro j
  rcases Nat.lt_or_ge j ops.size with h | h
  ·simp [h]
  ·simp [Array.getElem?_eq_none (show (Array.replicate ops.size false).size ≤ j by simpa using h)]
 suffices h : wpAnyIn fence n P .any ops Q (l.length + 1) (Array.replicate ops.size false) a w1 by
  rw [D.hlen] at h; exact h
 refine am1 hcal hF G D.hlen hop (fun i hi => ?_) hCl D.hoi D.hdst D.hguard D.hst hcop D.hbl D.hpl D.hUS D.hUN (fun i hi hni => ⟨(D.hmid i hi hni).2, ?_⟩) hx hb hget c2 c3 c4 (fun S k μ' a' w' hall J => ?_) l.length _ 0 μ a w1 (by simp) (hrep _) (ah2 _ (fun j _ => hrep j)) J0
 ·have := af5 ds 0 hsame i _ (hdi i hi)
  rwa [Nat.zero_add] at this
 ·exact List.all_eq_true.1 hmids i (D.hmid i hi hni).1
 ·have hk : k = (aaa l).length := by
   rcases Nat.lt_or_ge k (aaa l).length with h | h
   ·have := (J.act k h).1 (hall _ (aa9 h).1); omega
   ·have := J.kle; omega
  subst hk
  generalize he8 : Ent.cells (cs.take off ++ (sv.ev (useT T s.Vs last.uses)).cells ++ cs.drop (off + sz)) ty true = e8 at *
  have hTS : TS l T (s.turn b e8) S = aar T ds s.Vs := by
   rw [ao1, aj1 G.dlen hVl (fun i hi => (G.dso i hi).1)]
   unfold TS
   apply List.map_congr_left
   intro t _
   exact adu _ hall
  have hlst : lst l S (aaa l).length = adx l := by
   rw [← an7]
   unfold lst
   apply List.filter_congr
   intro x hx
   rw [hall x (by simpa using hx)]
  have hnx : (Hh l (s.turn b e8) H.next S (aaa l).length).next = ((addE H.next s.Es (s.Cs.getLastD default) late).put b e8).next := by
   rw [Heap.next_put]; unfold Hh; rw [aat, aat, aey (by omega), hlast]; rfl
  have hgt : ∀ x, (Hh l (s.turn b e8) H.next S (aaa l).length).get x = ((addE H.next s.Es (s.Cs.getLastD default) late).put b e8).get x := by
   intro x
   rw [acp, hlst, aey (by omega), Heap.get_put, Heap.get_put, adb, hlast, D.hlate]
   by_cases hxb : x = b
   ·subst hxb
    rw [if_neg (fun h => by omega), if_pos rfl, if_pos rfl]
   ·rw [if_neg hxb, if_neg hxb]; rfl
  have hhr := J.hr.congr hnx hgt
  have hst := J.st.congr hnx fun x e he => ⟨e, by rw [hgt]; exact he, rfl⟩
  rw [hC0] at hst
  exact hQ a' w' μ' J.df (hTS ▸ J.tm) hhr (adz (ajd hw1) hst)
end
end Go.Proofs.YtcmbokfnglkfnaaGreatDoor.Ev

namespace Go.Proofs.YtcmbokfnglkfnaaGreatDoor.Ev
open Go
set_option linter.all false
section
variable {μ μ' : Mu} {F : Nat → Prop} {w w' : World}
theorem VR.back (hμ : ∀ b L, μ b = some L → μ' b = some L) {c : AV} {v0 : Value} (h0 : VR μ F w c v0) : ∀ {v : Value}, VR μ' F w' c v → VR μ F w' c v := by
 induction h0 with
 | undef v0 => intro v h; exact .undef v
 | bool b => intro v h; cases h; exact .bool b
 | int k n => intro v h; cases h; exact .int k n
 | str s => intro v h; cases h; exact .str s
 | nilPtr => intro v h; cases h; exact .nilPtr
 | nilSl => intro v h; cases h; exact .nilSl
 | nilFn => intro v h; cases h; exact .nilFn
 | nilIf => intro v h; cases h; exact .nilIf
 | nilMap => intro v h; cases h; exact .nilMap
 | agg cs vs hl hv ih =>
  intro v h
  cases h with
  | agg _ us hl' hv' =>
   refine .agg cs us hl' fun i c u hc hu => ?_
   obtain ⟨x, hx⟩ : ∃ x, vs[i]? = some x := ⟨vs[i]'(by have := (List.getElem?_eq_some_iff.1 hc).1; omega), Array.getElem?_eq_getElem _⟩
   exact ih i c x hc hx (hv' i c u hc hu)
 | tup cs vs hl hv ih =>
  intro v h
  cases h with
  | tup _ us hl' hv' =>
   refine .tup cs us hl' fun i c u hc hu => ?_
   obtain ⟨x, hx⟩ : ∃ x, vs[i]? = some x := ⟨vs[i]'(by have := (List.getElem?_eq_some_iff.1 hc).1; omega), Array.getElem?_eq_getElem _⟩
   exact ih i c x hc hx (hv' i c u hc hu)
 | sl0 a cap =>
  intro v h
  cases h with
  | sl0 a cap => exact .sl0 a cap
  | sl _ _ cap blk off arr ty fr g1 g2 g3 g4 g5 => exact .sl0 _ _
 | sl cells n cap blk off arr ty fr hf hb hn ho hv ih =>
  intro v h
  cases h with
  | sl0 a cap => exact .sl0 a cap
  | sl _ _ cap' blk' off' arr' ty' fr' g1 g2 g3 g4 g5 =>
   refine .sl cells n cap' blk' off' arr' ty' fr' g1 g2 g3 g4 fun i c u hc hu => ?_
   obtain ⟨x, hx⟩ : ∃ x, arr[off + i]? = some x := ⟨arr[off + i]'(by have := (List.getElem?_eq_some_iff.1 hc).1; omega), Array.getElem?_eq_getElem _⟩
   exact ih i c x hc hx (g5 i c u hc hu)
 | dp cells o blk off arr ty fr hf hb ho hv ih =>
  intro v h
  cases h with
  | dp _ _ blk' off' arr' ty' fr' g1 g2 g4 g5 =>
   refine .dp cells o blk' off' arr' ty' fr' g1 g2 g4 fun i c u hc hu => ?_
   obtain ⟨x, hx⟩ : ∃ x, arr[off + i]? = some x := ⟨arr[off + i]'(by have := (List.getElem?_eq_some_iff.1 hc).1; omega), Array.getElem?_eq_getElem _⟩
   exact ih i c x hc hx (g5 i c u hc hu)
 | own b off n c sz ex L cap h1 h2 h3 h4 h5 h6 =>
  intro v h
  cases h with
  | own _ _ _ _ _ _ L' cap' g1 g2 g3 g4 g5 g6 =>
   have := hμ _ _ h1
   rw [g1] at this
   cases this
   exact .own b off n c sz ex L cap' h1 g2 g3 g4 g5 g6
 | ptr b off L h1 =>
  intro v h
  cases h with
  | ptr _ _ L' g1 =>
   have := hμ _ _ h1
   rw [g1] at this
   cases this
   exact .ptr b off L h1
 | fn f as bs us vs h1 h2 h3 h4 ih1 ih2 =>
  intro v h
  cases h with
  | fn _ _ _ us' vs' g1 g2 g3 g4 =>
   refine .fn f as bs us' vs' g1 (fun i c u hc hu => ?_) g3 fun i c u hc hu => ?_
   ·obtain ⟨x, hx⟩ : ∃ x, us[i]? = some x := ⟨us[i]'(by have := (List.getElem?_eq_some_iff.1 hc).1; omega), Array.getElem?_eq_getElem _⟩
    exact ih1 i c x hc hx (g2 i c u hc hu)
   ·obtain ⟨x, hx⟩ : ∃ x, vs[i]? = some x := ⟨vs[i]'(by have := (List.getElem?_eq_some_iff.1 hc).1; omega), Array.getElem?_eq_getElem _⟩
    exact ih2 i c x hc hx (g4 i c u hc hu)
 | ifc t x v0 hx ih =>
  intro v h
  cases h with
  | ifc _ _ u hu => exact .ifc t x u (ih hu)
 | map b L h1 =>
  intro v h
  cases h with
  | map _ L' g1 =>
   have := hμ _ _ h1
   rw [g1] at this
   cases this
   exact .map b L h1
 | loopv b L h1 =>
  intro v h
  cases h with
  | loopv _ L' g1 =>
   have := hμ _ _ h1
   rw [g1] at this
   cases this
   exact .loopv b L h1
theorem LR.back (hμ : ∀ b L, μ b = some L → μ' b = some L) {cs : List AV} {vs0 vs : List Value} (h0 : LR μ F w cs vs0) (h : LR μ' F w' cs vs) : LR μ F w' cs vs := by
 refine ⟨h.1, fun i c v hc hv => ?_⟩
 obtain ⟨x, hx⟩ : ∃ x, vs0[i]? = some x := ⟨vs0[i]'(by have := (List.getElem?_eq_some_iff.1 hc).1; have := h0.1; omega), List.getElem?_eq_getElem _⟩
 exact (h0.2 i c x hc hx).back hμ (h.2 i c v hc hv)
theorem ale {W : List Nat} {T : Tm} {vs : List Value} (h : LR μ F w T vs) : LR μ F w (weakT W T) vs := by
 refine ⟨by simp [weakT, h.1], fun i c v hc hv => ?_⟩
 unfold weakT at hc
 rw [List.getElem?_map, Option.map_eq_some_iff] at hc
 obtain ⟨p, hp, rfl⟩ := hc
 rw [List.getElem?_zipIdx, Option.map_eq_some_iff] at hp
 obtain ⟨y, hy, rfl⟩ := hp
 split
 ·exact .undef v
 ·exact h.2 i y v hy hv
end
end Go.Proofs.YtcmbokfnglkfnaaGreatDoor.Ev
