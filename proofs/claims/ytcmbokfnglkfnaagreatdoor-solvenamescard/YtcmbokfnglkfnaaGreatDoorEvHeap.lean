/- The evaluator, a part. -/
import Derived.Test.YtcmbokfnglkfnaaGreatDoorEvPure
import Derived.RangeFuncRecord
namespace Go.Proofs.YtcmbokfnglkfnaaGreatDoor.Ev
open Go
set_option linter.all false
def Mu.upd (μ : Mu) (b : Nat) (L : Loc) : Mu := fun x => if x = b then some L else μ x
section
variable {I : Nat → Prop} {P : Program} {μ : Mu} {F : Nat → Prop} {H : Heap} {w : World}
theorem aaq {b : Nat} {L : Loc} (hb : μ b = none) : ∀ x M, μ x = some M → (μ.upd b L) x = some M := by
 intro x M h
 unfold Mu.upd
 split
 ·rename_i e; subst e; rw [hb] at h; cases h
 ·exact h
@[simp] theorem upd_same (b : Nat) (L : Loc) : (μ.upd b L) b = some L := by simp [Mu.upd]
theorem aab {b x : Nat} (L : Loc) (h : x ≠ b) : (μ.upd b L) x = μ x := by simp [Mu.upd, h]
theorem ER.mono {μ μ' : Mu} {F F' : Nat → Prop} {w w' : World} {L : Loc} {e : Ent} (hμ : ∀ b L, μ b = some L → μ' b = some L) (hF : ∀ c, F c → F' c)
  (hw : ∀ c, F c → w'.heap[c]? = w.heap[c]?) (hs : w'.heap[L.blk]? = w.heap[L.blk]?) (hn : e.rw = true → ¬ F' L.blk) (h : ER P μ F w L e) : ER P μ' F' w' L e := by
 cases e with
 | cells cs ty rw =>
  obtain ⟨arr, fr, h1, h2, h3, h4, h5, h6, h7⟩ := h
  exact ⟨arr, fr, hs.trans h1, h2, h3, h4, fun i c v hc hv => (h5 i c v hc hv).mono hμ hF hw, fun hr => ⟨hn hr, (h6 hr).2⟩, fun _ => trivial⟩
 | map es =>
  obtain ⟨h0, entries, clock, h1, h2, h3, h4⟩ := h
  exact ⟨hn rfl, entries, clock, hs.trans h1, h2.mono hμ hF hw, h3.mono hμ hF hw, h4⟩
 | mapR es =>
  obtain ⟨entries, clock, h1, h2, h3, h4⟩ := h
  exact ⟨entries, clock, hs.trans h1, h2.mono hμ hF hw, h3.mono hμ hF hw, h4⟩
 | loop T ps asg body st pe =>
  obtain ⟨h0, r, h1, h2, h3, h4⟩ := h
  exact ⟨hn rfl, r, hs.trans h1, h2, h3.mono hμ hF hw, h4⟩
 | siter s pos => exact ⟨hn rfl, hs.trans h.2⟩
theorem abw (w : World) (o : Obj) {c : Nat} (h : c < w.heap.size) : (w.alloc o).heap[c]? = w.heap[c]? := by
 simp only [World.alloc, Array.getElem?_push]
 rw [if_neg (by omega)]
theorem ac3 (hH : HR P μ F H w) {id : Nat} (hid : μ id = none) (hlt : id < H.next) (o : Obj) (e : Ent) (N sz : Nat)
  (he : ∀ w', (∀ c, F c → w'.heap[c]? = w.heap[c]?) → w'.heap[w.heap.size]? = some o → ¬ F w.heap.size → ER P (μ.upd id ⟨w.heap.size, N, sz⟩) F w' ⟨w.heap.size, N, sz⟩ e) (hI : I id)
  (w1 : World) (h1 : w1.heap = w.heap) (ht : w1.tape = w.tape) (hos : w1.os = w.os) (hout : w1.output = w.output) :
  HR P (μ.upd id ⟨w.heap.size, N, sz⟩) F (H.put id e) (w1.alloc o) ∧ Stp I P μ F H w (μ.upd id ⟨w.heap.size, N, sz⟩) F (H.put id e) (w1.alloc o) := by
 have hw : ∀ c, c < w.heap.size → (w1.alloc o).heap[c]? = w.heap[c]? := fun c hc => by rw [abw _ _ (by rw [h1]; exact hc), h1]
 have hnew : (w1.alloc o).heap[w.heap.size]? = some o := by rw [← h1]; exact World.alloc_heap_new w1 o
 have hsz : (w1.alloc o).heap.size = w.heap.size + 1 := by simp [World.alloc, h1]
 have hnF : ¬ F w.heap.size := fun h => by have := hH.fb _ h; omega
 have hFw : ∀ c, F c → (w1.alloc o).heap[c]? = w.heap[c]? := fun c hc => hw c (hH.fb c hc)
 have hnone : ∀ e', H.get id ≠ some e' := fun e' h => by obtain ⟨L, hL, _⟩ := hH.ent id e' h; rw [hid] at hL; cases hL
 refine ⟨⟨?_, ?_, ?_, ?_, fun g cs hg => (hH.gl g cs hg).mono (aaq hid) (fun _ h => h) hFw⟩, ⟨aaq hid, fun _ h => h, by rw [hsz]; omega, fun c hc _ => hw c hc, ?_, Nat.le_refl _, ?_, ?_, ?_, ?_, ht, hos, hout⟩⟩
 ·intro b L hb
  rw [hsz]
  by_cases e0 : b = id
  ·subst e0; simp at hb; subst hb; exact ⟨hlt, by simp⟩
  ·rw [aab _ e0] at hb
   have := hH.dom b L hb
   exact ⟨this.1, by omega⟩
 ·intro c hc; rw [hsz]; have := hH.fb c hc; omega
 ·intro b e' hb
  rw [Heap.get_put] at hb
  split at hb
  ·rename_i e0; subst e0; cases hb
   exact ⟨_, upd_same _ _, he _ hFw hnew hnF⟩
  ·rename_i e0
   obtain ⟨L, hL, hE⟩ := hH.ent b e' hb
   exact ⟨L, aaq hid _ _ hL, hE.mono (aaq hid) (fun _ h => h) hFw (hw _ (hH.dom b L hL).2) (fun hr => hE.notF hr)⟩
 ·intro b b' e1 e2 L L' hb hb' hL hL' hblk
  rw [Heap.get_put] at hb hb'
  by_cases e0 : b = id
  ·by_cases e0' : b' = id
   ·rw [e0, e0']
   ·subst e0
    simp at hL; subst hL
    rw [aab _ e0'] at hL'
    have := (hH.dom b' L' hL').2
    simp only at hblk; omega
  ·by_cases e0' : b' = id
   ·subst e0'
    simp at hL'; subst hL'
    rw [aab _ e0] at hL
    have := (hH.dom b L hL).2
    simp only at hblk; omega
   ·rw [if_neg e0] at hb; rw [if_neg e0'] at hb'
    rw [aab _ e0] at hL; rw [aab _ e0'] at hL'
    exact hH.inj b b' e1 e2 L L' hb hb' hL hL' hblk
 ·intro b L ⟨e', hb, hr⟩ hL
  rw [Heap.get_put] at hb
  split at hb
  ·rename_i e0; subst e0; simp at hL; subst hL; exact .inl (Nat.le_refl _)
  ·rename_i e0; rw [aab _ e0] at hL; exact .inr ⟨b, L, ⟨e', hb, hr⟩, hL, rfl⟩
 ·intro b hb hi hn
  have : b ≠ id := fun e0 => hi (e0 ▸ hI)
  rw [aab _ this]; exact hn
 ·intro b L hb
  by_cases e0 : b = id
  ·subst e0; simp at hb; subst hb; exact .inr (Nat.le_refl _)
  ·rw [aab _ e0] at hb; exact .inl ⟨b, L, hb, rfl⟩
 ·intro b e' hb _ hi
  rw [Heap.get_put, if_neg (fun e0 : b = id => hi (e0 ▸ hI))] at hb
  exact ⟨e', hb⟩
 ·intro b e' L hb hL
  by_cases e0 : b = id
  ·subst e0; simp at hL; subst hL; exact .inl (Nat.le_refl _)
  ·rw [aab _ e0] at hL; rw [Heap.get_put, if_neg e0] at hb; exact .inr ⟨b, e', L, hb, hL, rfl⟩
theorem abq (hH : HR P μ F H w) {b : Nat} {L : Loc} {e0 e : Ent} (hb : H.get b = some e0) (hr : e0.rw = true) (hL : μ b = some L) (w' : World)
  (hoth : ∀ c, c ≠ L.blk → w'.heap[c]? = w.heap[c]?) (hsz : w'.heap.size = w.heap.size) (ht : w'.tape = w.tape) (hos : w'.os = w.os) (hout : w'.output = w.output)
  (he : (∀ c, F c → w'.heap[c]? = w.heap[c]?) → ER P μ F w' L e) (hre : e.rw = true) :
  HR P μ F (H.put b e) w' ∧ Stp I P μ F H w μ F (H.put b e) w' := by
 have hnF : ¬ F L.blk := hH.rw_notF ⟨e0, hb, hr⟩ hL
 have hFw : ∀ c, F c → w'.heap[c]? = w.heap[c]? := fun c hc => hoth c fun e => hnF (e ▸ hc)
 refine ⟨⟨?_, ?_, ?_, ?_, fun g cs hg => (hH.gl g cs hg).mono (fun _ _ h => h) (fun _ h => h) hFw⟩, ⟨fun _ _ h => h, fun _ h => h, by omega, ?_, ?_, Nat.le_refl _, fun _ _ _ h => h, fun b L h => .inl ⟨b, L, h, rfl⟩, ?_, ?_, ht, hos, hout⟩⟩
 ·intro b' L' h; rw [hsz]; exact hH.dom b' L' h
 ·intro c hc; rw [hsz]; exact hH.fb c hc
 ·intro b' e' h
  rw [Heap.get_put] at h
  split at h
  ·rename_i eb; subst eb; cases h; exact ⟨L, hL, he hFw⟩
  ·rename_i eb
   obtain ⟨L', hL', hE⟩ := hH.ent b' e' h
   refine ⟨L', hL', hE.mono (fun _ _ h => h) (fun _ h => h) hFw (hoth _ fun e => eb ?_) (fun hr => hE.notF hr)⟩
   exact hH.inj b' b e' e0 L' L h hb hL' hL e
 ·intro b1 b2 e1 e2 L1 L2 h1 h2 hL1 hL2 hblk
  rw [Heap.get_put] at h1 h2
  have g1 : ∃ e, H.get b1 = some e := by split at h1; · rename_i eb; subst eb; exact ⟨_, hb⟩
                                         ·exact ⟨_, h1⟩
  have g2 : ∃ e, H.get b2 = some e := by split at h2; · rename_i eb; subst eb; exact ⟨_, hb⟩
                                         ·exact ⟨_, h2⟩
  obtain ⟨f1, g1⟩ := g1
  obtain ⟨f2, g2⟩ := g2
  exact hH.inj b1 b2 f1 f2 L1 L2 g1 g2 hL1 hL2 hblk
 ·intro c hc hn
  exact hoth c fun e => hn b L ⟨e0, hb, hr⟩ hL e.symm
 ·intro b' L' ⟨e', h, hr'⟩ hL'
  rw [Heap.get_put] at h
  split at h
  ·rename_i eb; subst eb; exact .inr ⟨_, L', ⟨e0, hb, hr⟩, hL', rfl⟩
  ·exact .inr ⟨b', L', ⟨e', h, hr'⟩, hL', rfl⟩
 ·intro x e' h _ _
  rw [Heap.get_put] at h
  split at h
  ·rename_i eb; subst eb; exact ⟨_, hb⟩
  ·exact ⟨_, h⟩
 ·intro x e' L' h hL'
  rw [Heap.get_put] at h
  split at h
  ·rename_i eb; subst eb; exact .inr ⟨_, _, L', hb, hL', rfl⟩
  ·exact .inr ⟨x, e', L', h, hL', rfl⟩
theorem aej (hH : HR P μ F H w) (b : Nat) : HR P μ F (H.kill b) w ∧ Stp I P μ F H w μ F (H.kill b) w := by
 have hg : ∀ x e, (H.kill b).get x = some e → H.get x = some e := by
  intro x e h
  rw [Heap.get_kill] at h
  split at h
  ·cases h
  ·exact h
 refine ⟨⟨hH.dom, hH.fb, fun x e h => hH.ent x e (hg x e h), fun x y e1 e2 L L' h1 h2 => hH.inj x y e1 e2 L L' (hg _ _ h1) (hg _ _ h2), hH.gl⟩, ⟨fun _ _ h => h, fun _ h => h, Nat.le_refl _, fun _ _ _ => rfl, ?_, Nat.le_refl _, fun _ _ _ h => h, fun b L h => .inl ⟨b, L, h, rfl⟩, fun x e h _ _ => ⟨e, hg x e h⟩, fun x e L h hL => .inr ⟨x, e, L, hg x e h, hL, rfl⟩, rfl, rfl, rfl⟩⟩
 intro x L ⟨e, h, hr⟩ hL
 exact .inr ⟨x, L, ⟨e, hg x e h, hr⟩, hL, rfl⟩
theorem ae4 (hH : HR P μ F H w) {b id : Nat} {L : Loc} {e0 : Ent} (hb : H.get b = some e0) (hL : μ b = some L) (hid : μ id = none) (hlt : id < H.next) (hI : I id) :
  HR P (μ.upd id L) F ((H.kill b).put id e0) w ∧ Stp I P μ F H w (μ.upd id L) F ((H.kill b).put id e0) w := by
 have hne : b ≠ id := fun e => by subst e; rw [hL] at hid; cases hid
 obtain ⟨L0, hL0, hE0⟩ := hH.ent b e0 hb
 rw [hL] at hL0; cases hL0
 have hg : ∀ x e, x ≠ id → ((H.kill b).put id e0).get x = some e → H.get x = some e ∧ x ≠ b := by
  intro x e hx h
  rw [Heap.get_put, if_neg hx, Heap.get_kill] at h
  split at h
  ·cases h
  ·rename_i hb'; exact ⟨h, hb'⟩
 refine ⟨⟨?_, hH.fb, ?_, ?_, fun g cs hg => (hH.gl g cs hg).mono (aaq hid) (fun _ h => h) (fun _ _ => rfl)⟩, ⟨aaq hid, fun _ h => h, Nat.le_refl _, fun _ _ _ => rfl, ?_, Nat.le_refl _, ?_, ?_, ?_, ?_, rfl, rfl, rfl⟩⟩
 ·intro x M hx
  by_cases e : x = id
  ·subst e; simp at hx; subst hx; exact ⟨hlt, (hH.dom b L hL).2⟩
  ·rw [aab _ e] at hx; exact hH.dom x M hx
 ·intro x e h
  by_cases ex : x = id
  ·subst ex
   rw [Heap.get_put, if_pos rfl] at h; cases h
   exact ⟨L, upd_same _ _, hE0.mono (aaq hid) (fun _ h => h) (fun _ _ => rfl) rfl (fun hr => hE0.notF hr)⟩
  ·obtain ⟨h', _⟩ := hg x e ex h
   obtain ⟨M, hM, hE⟩ := hH.ent x e h'
   exact ⟨M, aaq hid _ _ hM, hE.mono (aaq hid) (fun _ h => h) (fun _ _ => rfl) rfl (fun hr => hE.notF hr)⟩
 ·intro x y e1 e2 M M' h1 h2 hM hM' hblk
  by_cases ex : x = id
  ·by_cases ey : y = id
   ·rw [ex, ey]
   ·subst ex
    simp at hM; subst hM
    obtain ⟨h2', hyb⟩ := hg y e2 ey h2
    rw [aab _ ey] at hM'
    exact absurd (hH.inj y b e2 e0 M' L h2' hb hM' hL hblk.symm) hyb
  ·obtain ⟨h1', hxb⟩ := hg x e1 ex h1
   rw [aab _ ex] at hM
   by_cases ey : y = id
   ·subst ey
    simp at hM'; subst hM'
    exact absurd (hH.inj x b e1 e0 M L h1' hb hM hL hblk) hxb
   ·obtain ⟨h2', hyb⟩ := hg y e2 ey h2
    rw [aab _ ey] at hM'
    exact hH.inj x y e1 e2 M M' h1' h2' hM hM' hblk
 ·intro x M ⟨e, h, hr⟩ hM
  by_cases ex : x = id
  ·subst ex
   rw [Heap.get_put, if_pos rfl] at h; cases h
   simp at hM; subst hM
   exact .inr ⟨b, L, ⟨e0, hb, hr⟩, hL, rfl⟩
  ·obtain ⟨h', _⟩ := hg x e ex h
   rw [aab _ ex] at hM
   exact .inr ⟨x, M, ⟨e, h', hr⟩, hM, rfl⟩
 ·intro x hx hi hn
  have : x ≠ id := fun e0 => hi (e0 ▸ hI)
  rw [aab _ this]; exact hn
 ·intro x M hM
  by_cases e0 : x = id
  ·subst e0; simp at hM; subst hM; exact .inl ⟨b, _, hL, rfl⟩
  ·rw [aab _ e0] at hM; exact .inl ⟨x, M, hM, rfl⟩
 ·intro x e h _ hi
  exact ⟨e, (hg x e (fun e0 => hi (e0 ▸ hI)) h).1⟩
 ·intro x e M h hM
  by_cases e1 : x = id
  ·subst e1; simp at hM; subst hM; exact .inr ⟨b, e0, _, hb, hL, rfl⟩
  ·rw [aab _ e1] at hM; exact .inr ⟨x, e, M, (hg x e e1 h).1, hM, rfl⟩
end
end Go.Proofs.YtcmbokfnglkfnaaGreatDoor.Ev

namespace Go.Proofs.YtcmbokfnglkfnaaGreatDoor.Ev
open Go
set_option linter.all false
structure Done (I : Nat → Prop) (P : Program) (μ : Mu) (F : Nat → Prop) (H : Heap) (w : World) (v : AV) (H' : Heap) (u : Value) (w' : World) (μ' : Mu) : Prop where
 val : VR μ' F w' v u
 heap : HR P μ' F H' w'
 stp : Stp I P μ F H w μ' F H' w'
section
variable {I : Nat → Prop} {P : Program} {μ : Mu} {F : Nat → Prop} {H : Heap} {w : World} {T : Tm} {a : Act}
theorem adj {blk : Nat} {arr : Array Value} {ty : TypeId} {fr : Nat × Nat} (h : w.heap[blk]? = some (.cells arr ty fr)) (o : Nat) : w.cell? ⟨blk, o, none⟩ = arr[o]? := by
 simp [World.cell?, h]
theorem ala {blk off o : Nat} {arr : Array Value} {ty t : TypeId} {fr : Nat × Nat} {cs : List AV} {k : Option Nat} {v : AV} (h : w.heap[blk]? = some (.cells arr ty fr)) (hl : off + cs.length ≤ arr.size)
  (hv : ∀ (i : Nat) (c : AV) (v : Value), cs[i]? = some c → arr[off + i]? = some v → VR μ F w c v) (hk : loadK P t = some k) (ht : abv cs o k = some v) :
  ∃ u, (loadVar t ⟨blk, off + o, none⟩).run P w = .ok u w ∧ VR μ F w v u := by
 cases k with
 | none =>
  simp only [abv] at ht
  have ho : o < cs.length := (List.getElem?_eq_some_iff.1 ht).1
  have ha : arr[off + o]? = some arr[off + o] := Array.getElem?_eq_getElem (by omega)
  refine ⟨arr[off + o], ?_, hv o v _ ht ha⟩
  simp [loadVar, ahd hk, adj h, ha]
 | some n =>
  simp only [abv] at ht
  split at ht
  ·rename_i hle
   cases ht
   obtain ⟨h1, h2⟩ := ag3 hk w
   have hrun := run_loadCells_list (P := P) w ⟨blk, off + o, none⟩ ((arr.toList.drop (off + o)).take n) (fun j v hj => by
    rw [abk, adj h]
    rw [List.getElem?_take] at hj
    split at hj
    ·rw [List.getElem?_drop] at hj; simpa using hj
    ·cases hj)
   have hlen : ((arr.toList.drop (off + o)).take n).length = n := by simp; omega
   rw [hlen] at hrun
   refine ⟨.agg ((arr.toList.drop (off + o)).take n).toArray, by simp only [loadVar, Sem.run_bind, h1, Result.andThen_ok, if_true, h2, hrun, Sem.run_pure], ?_⟩
   refine .agg _ _ (by simp; omega) fun i c v hc hv' => ?_
   rw [List.getElem?_take] at hc
   split at hc
   ·rename_i hi
    rw [List.getElem?_drop] at hc
    refine hv _ c v hc ?_
    simp only [List.getElem?_toArray] at hv'
    rw [List.getElem?_take, if_pos hi, List.getElem?_drop] at hv'
    rw [← Nat.add_assoc]; simpa using hv'
   ·cases hc
  ·cases ht
theorem aex {b o : Nat} {v : Value} (h : VR μ F w (.ptr b o) v) : ∃ L, μ b = some L ∧ v = .pointer (some ⟨L.blk, o, none⟩) := by
 cases h with
 | ptr _ _ L hL => exact ⟨L, hL, rfl⟩
theorem aaz (hH : HR P μ F H w) {b : Nat} {L : Loc} {cs : List AV} {ty : Nat} {rw : Bool} (hb : H.get b = some (.cells cs ty rw)) (hL : μ b = some L) :
  ∃ arr fr, w.heap[L.blk]? = some (.cells arr ty fr) ∧ arr.size = L.N ∧ (P.info? ty).map (·.size) = some L.sz ∧ cs.length ≤ arr.size ∧
   (∀ (i : Nat) (c : AV) (v : Value), cs[i]? = some c → arr[i]? = some v → VR μ F w c v) ∧ (rw = true → ¬ F L.blk ∧ fr = (0, 0)) ∧ (rw = false → True) := by
 obtain ⟨L', hL', hE⟩ := hH.ent b _ hb
 rw [hL] at hL'; cases hL'
 exact hE
theorem ahf {t : TypeId} {k : Option Nat} {x : AV} {vx : Value} {v : AV} (hH : HR P μ F H w) (hk : loadK P t = some k) (hx : VR μ F w x vx)
  (h : loadA H k x = some v) : ∃ u, (Instr.loadAt t vx).run P w = .ok u w ∧ VR μ F w v u := by
 cases x with
 | ptr b o =>
  obtain ⟨L, hL, rfl⟩ := aex hx
  simp only [loadA] at h
  split at h
  ·rename_i cs ty rw hb
   obtain ⟨arr, fr, h1, h2, h3, h4, h5, h6, h7⟩ := aaz hH hb hL
   obtain ⟨u, hu, hr⟩ := ala (o := o) (off := 0) h1 (by omega) (by simpa using h5) hk h
   refine ⟨u, ?_, hr⟩
   rw [Nat.zero_add] at hu
   simp [Instr.loadAt, Instr.sureAddr, hu]
  ·cases h
 | dp cs o =>
  simp only [loadA] at h
  cases hx with
  | dp _ _ blk off arr ty fr g1 g2 g3 g4 =>
   obtain ⟨u, hu, hr⟩ := ala g2 g3 g4 hk h
   exact ⟨u, by simp [Instr.loadAt, Instr.sureAddr, hu], hr⟩
 | _ => cases h
theorem ab9 (hH : HR P μ F H w) {id : Nat} (hid : μ id = none) (hlt : id < H.next) (hI : I id) {arr : Array Value} {cs : List AV} {ty sz : Nat} (hty : aac P ty = some sz)
  (hle : cs.length ≤ arr.size) (hcs : ∀ (i : Nat) (c : AV) (v : Value), cs[i]? = some c → arr[i]? = some v → VR μ F w c v)
  (w1 : World) (h1 : w1.heap = w.heap) (ht : w1.tape = w.tape) (hos : w1.os = w.os) (hout : w1.output = w.output) :
  HR P (μ.upd id ⟨w.heap.size, arr.size, sz⟩) F (H.put id (.cells cs ty true)) (w1.alloc (.cells arr ty)) ∧ Stp I P μ F H w (μ.upd id ⟨w.heap.size, arr.size, sz⟩) F (H.put id (.cells cs ty true)) (w1.alloc (.cells arr ty)) := by
 refine ac3 hH hid hlt _ _ arr.size sz (fun w' hw hn hnF => ?_) hI w1 h1 ht hos hout
 exact ⟨arr, (0, 0), hn, rfl, hty, hle, fun i c v hc hv => (hcs i c v hc hv).mono (aaq hid) (fun _ h => h) hw, fun _ => ⟨hnF, rfl⟩, fun h => by cases h⟩
theorem ag1 (t : TypeId) (v : Value) (w : World) : (newVar t v).run P w = .ok ⟨w.heap.size, 0, none⟩ (w.alloc (.cells v.cells t)) := by
 simp [newVar, newRow]
theorem aa3 (t : TypeId) (cs : Array Value) (w : World) : (newRow t cs).run P w = .ok ⟨w.heap.size, 0, none⟩ (w.alloc (.cells cs t)) := by
 simp [newRow]
theorem anj {t : TypeId} {z : List AV} (h : aaf P t = some z) : ∃ n, aac P t = some n := by
 simp only [aaf, Option.bind_eq_bind, bes] at h
 obtain ⟨i, hi, _⟩ := h
 exact ⟨i.size, by simp [aac, hi]⟩
theorem ake {e : TypeId} {z : List AV} (hz : aaf P e = some z) (hH : HR P μ F H w) {id : Nat} (hid : μ id = none) (hlt : id < H.next) (hI : I id) :
  ∃ u w' μ', (Instr.alloc e true (.tuple #[])).run P w = .ok u w' ∧ Done I P μ F H w (.ptr id 0) (H.put id (.cells z e true)) u w' μ' := by
 obtain ⟨n, hn⟩ := anj hz
 obtain ⟨zv, hzv, hzl⟩ := adw hz w
 have hl := hzl μ F w
 obtain ⟨h1, h2⟩ := ab9 hH hid hlt hI hn (arr := zv.cells) (cs := z) (by have := hl.1; simp at this; omega) (fun i c v hc hv => hl.2 i c v hc (by simpa using hv)) w rfl rfl rfl rfl
 refine ⟨_, _, _, ?_, ⟨.ptr id 0 _ (upd_same id _), h1, h2⟩⟩
 simp [Instr.alloc, hzv, ag1]
theorem anl {e : TypeId} {n : Nat} {x : AV} {vx : Value} (hn : aac P e = some n) (hx : VR μ F w x vx) (h1 : x.cells.all AV.one = true) (hH : HR P μ F H w) {id : Nat} (hid : μ id = none) (hlt : id < H.next) (hI : I id) :
  ∃ u w' μ', (Instr.box e vx).run P w = .ok u w' ∧ Done I P μ F H w (.ptr id 0) (H.put id (.cells x.cells e true)) u w' μ' := by
 have hl := aid hx h1
 obtain ⟨g1, g2⟩ := ab9 hH hid hlt hI hn (arr := vx.cells) (cs := x.cells) (by have := hl.1; simp at this; omega) (fun i c v hc hv => hl.2 i c v hc (by simpa using hv)) w rfl rfl rfl rfl
 refine ⟨_, _, _, ?_, ⟨.ptr id 0 _ (upd_same id _), g1, g2⟩⟩
 simp [Instr.box, ag1]
theorem anb (cs : List AV) (vs : List Value) (news : List AV) (nv : List Value) (o n : Nat) (hcs : ∀ (i : Nat) (c : AV) (v : Value), cs[i]? = some c → vs[i]? = some v → VR μ F w c v) (hn : LR μ F w news nv) (hlen : news.length = n)
  (hle : cs.length ≤ vs.length) (ho : o ≤ cs.length) :
  ∀ (i : Nat) (c : AV) (v : Value), (cs.take o ++ news ++ cs.drop (o + n))[i]? = some c → (vs.take o ++ nv ++ vs.drop (o + nv.length))[i]? = some v → VR μ F w c v := by
 intro i c v hc hv
 have hnl : nv.length = n := hn.1 ▸ hlen
 rw [List.append_assoc] at hc hv
 by_cases h1 : i < o
 ·rw [List.getElem?_append_left (by simp; omega), List.getElem?_take, if_pos h1] at hc
  rw [List.getElem?_append_left (by simp; omega), List.getElem?_take, if_pos h1] at hv
  exact hcs i c v hc hv
 ·rw [List.getElem?_append_right (by simp; omega)] at hc hv
  simp only [List.length_take] at hc hv
  have e1 : min o cs.length = o := by omega
  have e2 : min o vs.length = o := by omega
  rw [e1] at hc; rw [e2] at hv
  by_cases h2 : i - o < n
  ·rw [List.getElem?_append_left (by omega)] at hc hv
   exact hn.2 _ c v hc hv
  ·rw [List.getElem?_append_right (by omega)] at hc hv
   rw [List.getElem?_drop] at hc hv
   rw [hlen] at hc; rw [hnl] at hv
   exact hcs _ c v hc hv
theorem ad3 (hH : HR P μ F H w) {b : Nat} {L : Loc} {cs : List AV} {ty : Nat} (hb : H.get b = some (.cells cs ty true)) (hL : μ b = some L) {o : Nat} {news : List AV} {nv : List Value} (hn : LR μ F w news nv) (h1 : news.all AV.one = true)
  (hle : o ≤ cs.length) (hN : o + news.length ≤ L.N) :
  ∃ w', (storeCells ⟨L.blk, o, none⟩ nv).run P w = .ok () w' ∧ HR P μ F (H.put b (.cells (cs.take o ++ news ++ cs.drop (o + news.length)) ty true)) w' ∧
   Stp I P μ F H w μ F (H.put b (.cells (cs.take o ++ news ++ cs.drop (o + news.length)) ty true)) w' := by
 obtain ⟨arr, fr, g1, g2, g3, g4, g5, g6, g7⟩ := aaz hH hb hL
 obtain ⟨_, rfl⟩ := g6 rfl
 have hnl := hn.1
 have hrun := run_storeCells_at (P := P) L.blk o ty nv 0 arr w g1 (by omega) (hn.one h1)
 simp only [Nat.add_zero] at hrun
 refine ⟨_, hrun, abq hH hb rfl hL _ (fun c hc => setRow_other w _ _ _ hc) (setRow_size _ _ _) rfl rfl rfl (fun hw => ?_) rfl⟩
 refine ⟨_, (0, 0), setRow_heap w L.blk arr _ ty _ g1, ?_, g3, ?_, ?_, fun _ => ⟨(g6 rfl).1, rfl⟩, fun h => by cases h⟩
 ·simp; omega
 ·simp; omega
 ·intro i c v hc hv
  refine VR.mono (fun _ _ h => h) (fun _ h => h) hw (anb cs arr.toList news nv o news.length (fun i c v hc hv => g5 i c v hc (by simpa using hv)) hn rfl (by simpa using g4) (by omega) i c v hc (by simpa using hv))
theorem afl {t : TypeId} {n : Nat} {x y : AV} {vx vy : Value} {H' : Heap} (hn : aac P t = some n) (hH : HR P μ F H w) (hx : VR μ F w x vx) (hy : VR μ F w y vy)
  (h : abt H n x y = some H') :
  ∃ w', (Instr.storeAt t vx vy).run P w = .ok () w' ∧ Done I P μ F H w .undef H' undef w' μ := by
 cases x with
 | ptr b o =>
  obtain ⟨L, hL, rfl⟩ := aex hx
  simp only [abt] at h
  split at h
  ·rename_i cs ty hb
   split at h
   ·rename_i hc
    obtain ⟨c1, c2, c3⟩ := hc
    cases h
    have hl := aid hy c3
    obtain ⟨arr, fr, g1, g2, g3, g4, _⟩ := aaz hH hb hL
    obtain ⟨w', hrun, q1, q2⟩ := ad3 (I := I) hH hb hL (o := o) hl c3 (by omega) (by omega)
    rw [c1] at q1 q2
    refine ⟨w', ?_, ⟨.undef _, q1, q2⟩⟩
    have hsz : vy.cells.size = n := by have := hl.1; simp at this; omega
    simp [Instr.storeAt, Instr.sureAddr, storeVar, aaj hn, hsz, hrun]
   ·cases h
  ·cases h
 | _ => cases h
end
end Go.Proofs.YtcmbokfnglkfnaaGreatDoor.Ev

namespace Go.Proofs.YtcmbokfnglkfnaaGreatDoor.Ev
open Go
set_option linter.all false
section
variable {I : Nat → Prop} {P : Program} {μ : Mu} {F : Nat → Prop} {H : Heap} {w : World} {T : Tm} {a : Act}
theorem ad2 {y : AV} {vy : Value} {m : Nat} (hy : VR μ F w y vy) (h : lenA y = some m) : (Builtin.lenOf vy).run P w = .ok m w := by
 cases y <;> simp only [lenA] at h <;> first | (cases h; done) | skip
 ·cases h; cases hy; rfl
 ·cases h; cases hy; rfl
 ·cases h; cases hy <;> rfl
 ·cases h; cases hy; rfl
theorem ait {blk off n : Nat} {arr : Array Value} {ty : TypeId} {fr : Nat × Nat} {cs : List AV} (h : w.heap[blk]? = some (.cells arr ty fr)) (hl : off + cs.length ≤ arr.size)
  (hv : ∀ (i : Nat) (c : AV) (v : Value), cs[i]? = some c → arr[off + i]? = some v → VR μ F w c v) (hn : n ≤ cs.length) :
  ∃ nv : List Value, (∀ w', w'.heap = w.heap → (loadCells ⟨blk, off, none⟩ n).run P w' = .ok nv.toArray w') ∧ LR μ F w (cs.take n) nv := by
 have hlen : ((arr.toList.drop off).take n).length = n := by simp; omega
 have hrun : ∀ w', w'.heap = w.heap → (loadCells ⟨blk, off, none⟩ n).run P w' = .ok ((arr.toList.drop off).take n).toArray w' := by
  intro w' hw'
  have hrun := run_loadCells_list (P := P) w' ⟨blk, off, none⟩ ((arr.toList.drop off).take n) (fun j v hj => by
   rw [abk, adj (hw' ▸ h)]
   rw [List.getElem?_take] at hj
   split at hj
   ·rw [List.getElem?_drop] at hj; simpa using hj
   ·cases hj)
  rw [hlen] at hrun
  exact hrun
 refine ⟨_, hrun, by simp; omega, fun i c v hc hv' => ?_⟩
 rw [List.getElem?_take] at hc hv'
 split at hc
 ·rename_i hi
  rw [if_pos hi, List.getElem?_drop] at hv'
  exact hv i c v hc (by simpa using hv')
 ·cases hc
theorem aby {size n : Nat} {y : AV} {vy : Value} {news : List AV} (hH : HR P μ F H w) (hy : VR μ F w y vy) (h : abr H size n y = some news) :
  news.length = n * size ∧ ∃ nv : List Value, (∀ w', w'.heap = w.heap → (Builtin.firstCells size n vy).run P w' = .ok nv.toArray w') ∧ LR μ F w news nv := by
 cases y <;> simp only [abr] at h <;> first | (cases h; done) | skip
 case str s =>
  split at h
  ·rename_i hc
   cases h
   cases hy
   have hsz : (s.extract 0 n).size = n := by
    have := hc.1
    simp; omega
   refine ⟨by simp only [List.length_map, hc.2, Nat.mul_one]; exact hsz, ((s.extract 0 n).data.map fun b => Value.int .u8 b.toNat).toList, fun w' _ => by simp only [Builtin.firstCells, Sem.run_pure, Array.toArray_toList], ?_⟩
   rw [Array.toList_map]
   exact LR.map _ _ _ fun b _ => .int _ _
  ·cases h
 case nilSl =>
  split at h
  ·rename_i hc
   cases h; cases hy
   exact ⟨by simp [hc], [], fun _ _ => rfl, LR.nil⟩
  ·cases h
 case sl cs m =>
  split at h
  ·rename_i hc
   cases h
   refine ⟨by rw [List.length_take]; omega, ?_⟩
   cases hy with
   | sl0 a0 cap =>
    have h0 : n * size = 0 := by have := hc.2; simp at this; simpa using this
    cases a0 with
    | none => exact ⟨[], fun _ _ => rfl, by simp; exact LR.nil⟩
    | some a0 => exact ⟨[], fun _ _ => by simp [Builtin.firstCells, h0, loadCells, loadCellsFrom], by simp; exact LR.nil⟩
   | sl _ _ _ blk off arr ty fr g1 g2 g3 g4 g5 => exact ait g2 g4 g5 hc.2
  ·cases h
 case own b off m c sz ex =>
  cases hy with
  | own _ _ _ _ _ _ L cap h1 h2 h3 h4 h5 h6 =>
  split at h
  ·rename_i cs ty rw hb
   split at h
   ·rename_i hc
    obtain ⟨c1, c2, c3⟩ := hc
    cases h
    obtain ⟨arr, fr, g1, g2, g3, g4, g5, g6, g7⟩ := aaz hH hb h1
    refine ⟨by simp; omega, ?_⟩
    exact ait (cs := cs.drop off) g1 (by simp; omega) (fun i c v hc hv => by rw [List.getElem?_drop] at hc; exact g5 _ c v hc hv) (by simp; omega)
   ·cases h
  ·cases h
theorem ajm (newLen : Nat) (h : 256 ≤ newLen) : ∀ (r c : Nat), c ≤ 2 * newLen → Builtin.growBy newLen r c ≤ 2 * newLen
 | 0, c, hc => hc
 | r + 1, c, hc => by
  unfold Builtin.growBy
  split
  ·exact hc
  ·exact ajm newLen h r _ (by omega)
theorem aha {need cap : Nat} (h : cap < need) : Builtin.nextslicecap need cap ≤ 2 * need := by
 unfold Builtin.nextslicecap
 split
 ·omega
 ·split
  ·omega
  ·exact ajm need (by omega) 4 cap (by omega)
theorem ais (z : Array Value) (n : Nat) : (Builtin.zeroCells z n).size = n * z.size := by simp [Builtin.zeroCells]
def Plain (P : Program) (xt : TypeId) : Prop := (∃ e, P.underlying xt = some (.slice e)) ∨ P.underlying xt = some .string
theorem aon {t xt e ty : TypeId} {size n m cap : Nat} {base : Option Addr} {vx : Value} {nv : Array Value}
  (ht : P.underlying t = some (.slice e)) (hs : aac P e = some size) (hx : Plain P xt) (hl : (Builtin.lenOf vx).run P w = .ok m w) (hf : (Builtin.firstCells size m vx).run P w = .ok nv w)
  (hneed : n + m ≤ cap) :
  (Builtin.append_ #[t, xt] ty #[.slice base n cap, vx]).run P w = ((match base with | some a => storeCells (a.add (n * size)) nv.toList | none => pure () : Sem Unit).run P w).andThen fun _ w' => .ok (.slice base (n + m) cap) w' := by
 unfold Builtin.append_
 rcases hx with ⟨e', hx⟩ | hx <;>
 ·simp only [List.getElem?_toArray, List.getElem?_cons_zero, List.getElem?_cons_succ, Sem.run_bind, run_underlying ht, Result.andThen_ok, aaj hs, run_underlying hx, Sem.run_pure, Bool.false_eq_true, if_false, hl, Bool.not_false, if_true, hneed, hf]
  cases base <;> simp
theorem amo {t xt e ty : TypeId} {size bytes n m cap : Nat} {base : Option Addr} {vx : Value} {nv ov : Array Value} {i : TypeInfo} {zv : Value}
  (ht : P.underlying t = some (.slice e)) (hs : aac P e = some size) (hi : P.info? e = some i) (hib : i.bytes = bytes) (hz : i.zero = some zv) (hx : Plain P xt) (hl : (Builtin.lenOf vx).run P w = .ok m w)
  (hf : ∀ w', w'.heap = w.heap → (Builtin.firstCells size m vx).run P w' = .ok nv w') (ho : ∀ w', w'.heap = w.heap → (Builtin.firstCells size n (.slice base n cap)).run P w' = .ok ov w')
  (hneed : ¬ n + m ≤ cap) (hb : (n + m) * bytes ≤ 2 ^ 46) (hn : n + m < 2 ^ 62) :
  ∃ cap', n + m ≤ cap' ∧ (Builtin.append_ #[t, xt] ty #[.slice base n cap, vx]).run P w =
   .ok (.slice (some ⟨w.heap.size, 0, none⟩) (n + m) cap') (({ w with drawn := w.drawn + 1 } : World).alloc (.cells (ov ++ nv ++ Builtin.zeroCells zv.cells (cap' - (n + m))) e)) := by
 have hnext : ¬ Builtin.nextslicecap (n + m) cap * i.bytes > 2 ^ 48 := by
  have h1 := aha (need := n + m) (cap := cap) (by omega)
  have h2 : Builtin.nextslicecap (n + m) cap * bytes ≤ 2 * (n + m) * bytes := Nat.mul_le_mul_right _ h1
  rw [Nat.mul_assoc] at h2
  rw [hib]; omega
 have hmax : ¬ ((↑(n + m) : Int) > IntKind.i64.max ∧ (False ∨ i.bytes = 0)) := by
  rintro ⟨h1, _⟩
  have : IntKind.i64.max = 9223372036854775807 := by decide
  rw [this] at h1
  omega
 refine ⟨(Question.appendCap (n + m) cap e).cut (w.tape w.drawn (Question.appendCap (n + m) cap e)), by simp [Question.cut], ?_⟩
 have hq : (choose (Question.appendCap (n + m) cap e)).run P w = .ok ((Question.appendCap (n + m) cap e).cut (w.tape w.drawn (Question.appendCap (n + m) cap e))) { w with drawn := w.drawn + 1 } := by
  rw [run_choose, if_neg (by simp [Question.forced])]
 have hf' := hf { w with drawn := w.drawn + 1 } rfl
 have ho' := ho { w with drawn := w.drawn + 1 } rfl
 generalize (Question.appendCap (n + m) cap e).cut (w.tape w.drawn (Question.appendCap (n + m) cap e)) = c at hq
 unfold Builtin.append_
 rcases hx with ⟨e', hx⟩ | hx <;>
 ·simp only [List.getElem?_toArray, List.getElem?_cons_zero, List.getElem?_cons_succ, Sem.run_bind, run_underlying ht, Result.andThen_ok, aaj hs, run_underlying hx, Sem.run_pure, Bool.false_eq_true, if_false, hl, Bool.not_false, if_true, hneed,
   abf hi, hmax, hnext, hq, run_askRoom, ho', hf', zeroValue, hz, aa3]
theorem ai7 (hH : HR P μ F H w) {b : Nat} {cs : List AV} {ty : Nat} {rw : Bool} (hb : H.get b = some (.cells cs ty rw)) (k : Nat) : HR P μ F (H.put b (.cells (cs.take k) ty rw)) w := by
 refine ⟨hH.dom, hH.fb, ?_, ?_, hH.gl⟩
 ·intro x e h
  rw [Heap.get_put] at h
  split at h
  ·rename_i ex; subst ex; cases h
   obtain ⟨L, hL, hE⟩ := hH.ent _ _ hb
   obtain ⟨arr, fr, h1, h2, h3, h4, h5, h6, h7⟩ := hE
   refine ⟨L, hL, arr, fr, h1, h2, h3, by simp; omega, fun i c v hc hv => ?_, h6, h7⟩
   rw [List.getElem?_take] at hc
   split at hc
   ·exact h5 i c v hc hv
   ·cases hc
  ·exact hH.ent x e h
 ·intro x y e1 e2 L1 L2 h1 h2 hL1 hL2 hblk
  rw [Heap.get_put] at h1 h2
  have g : ∀ z e, (if z = b then some (Ent.cells (cs.take k) ty rw) else H.get z) = some e → ∃ e', H.get z = some e' := by
   intro z e h
   split at h
   ·rename_i ez; subst ez; exact ⟨_, hb⟩
   ·exact ⟨_, h⟩
  obtain ⟨f1, g1⟩ := g x e1 h1
  obtain ⟨f2, g2⟩ := g y e2 h2
  exact hH.inj x y f1 f2 L1 L2 g1 g2 hL1 hL2 hblk
theorem HR.congr {H1 H2 : Heap} (h : HR P μ F H1 w) (hn : H1.next = H2.next) (hg : ∀ x, H1.get x = H2.get x) : HR P μ F H2 w :=
 ⟨fun b L hb => hn ▸ h.dom b L hb, h.fb, fun b e hb => h.ent b e (by rw [hg]; exact hb), fun b b' e e' L L' h1 h2 => h.inj b b' e e' L L' (by rw [hg]; exact h1) (by rw [hg]; exact h2), h.gl⟩
theorem Stp.congr {μ' : Mu} {F' : Nat → Prop} {w' : World} {H1 H2 : Heap} (h : Stp I P μ F H w μ' F' H1 w') (hn : H1.next = H2.next) (hg : ∀ x e, H2.get x = some e → ∃ e', H1.get x = some e' ∧ e'.rw = e.rw) : Stp I P μ F H w μ' F' H2 w' :=
 ⟨h.mu, h.fr, h.size, h.keep, fun b L ⟨e, he, hr⟩ hL => h.rw b L (let ⟨e', h1, h2⟩ := hg b e he; ⟨e', h1, h2.trans hr⟩) hL, hn ▸ h.next, h.new, h.rng, fun b e hb hl hi => let ⟨e', h1, _⟩ := hg b e hb; h.old b e' h1 hl hi, fun b e L hb hL => let ⟨e', h1, _⟩ := hg b e hb; h.alv b e' L h1 hL, h.tape, h.os, h.out⟩
theorem ady {e id size bytes m : Nat} {x v : AV} {vx : Value} {news : List AV} {nv : Array Value} {zv : Value} {fr : Option Nat} {H' : Heap} {A : Sem Value}
  (hH : HR P μ F H w) (hid : μ id = none) (hlt : id < H.next) (hI : I id) (hs : aac P e = some size) (hzs : zv.cells.size = size)
  (hx : VR μ F w x vx) (hnew : LR μ F w news nv.toList) (hlen : news.length = m * size) (h : adi H id size bytes e x m news fr = some (v, H'))
  (hin : ∀ base n cap, vx = .slice base n cap → n + m ≤ cap → A.run P w = ((match base with | some a => storeCells (a.add (n * size)) nv.toList | none => pure () : Sem Unit).run P w).andThen fun _ w' => .ok (.slice base (n + m) cap) w')
  (hout : ∀ base n cap ov, vx = .slice base n cap → ¬ n + m ≤ cap → (n + m) * bytes ≤ 2 ^ 46 → n + m < 2 ^ 62 → (∀ w', w'.heap = w.heap → (Builtin.firstCells size n vx).run P w' = .ok ov w') →
   ∃ cap', n + m ≤ cap' ∧ A.run P w = .ok (.slice (some ⟨w.heap.size, 0, none⟩) (n + m) cap') (({ w with drawn := w.drawn + 1 } : World).alloc (.cells (ov ++ nv ++ Builtin.zeroCells zv.cells (cap' - (n + m))) e))) :
  ∃ u w' μ', A.run P w = .ok u w' ∧ Done I P μ F H w v H' u w' μ' := by
 have hnl : nv.size = m * size := by have := hnew.1; simp at this; omega
 -- what a new block comes to
 have grow : ∀ (H0 : Heap) (n : Nat) (ov : Array Value) (oc : List AV) (cap' : Nat), HR P μ F H0 w → id < H0.next → LR μ F w oc ov.toList → oc.length = n * size → n + m ≤ cap' →
   A.run P w = .ok (.slice (some ⟨w.heap.size, 0, none⟩) (n + m) cap') (({ w with drawn := w.drawn + 1 } : World).alloc (.cells (ov ++ nv ++ Builtin.zeroCells zv.cells (cap' - (n + m))) e)) →
   ∃ u w' μ', A.run P w = .ok u w' ∧ Done I P μ F H0 w (.own id 0 (n + m) (n + m) size false) (H0.put id (.cells (oc ++ news) e true)) u w' μ' := by
  intro H0 n ov oc cap' hH0 hlt0 ho hol hc hrun
  have hov : ov.size = n * size := by have := ho.1; simp at this; omega
  have hall := ho.append hnew
  have hasz : (ov ++ nv ++ Builtin.zeroCells zv.cells (cap' - (n + m))).size = cap' * size := by
   simp only [Array.size_append, hov, hnl, ais, hzs]
   rw [← Nat.add_mul, ← Nat.add_mul]; congr 1; omega
  obtain ⟨q1, q2⟩ := ab9 hH0 hid hlt0 hI (sz := size) (arr := ov ++ nv ++ Builtin.zeroCells zv.cells (cap' - (n + m))) (cs := oc ++ news) hs
   (by simp only [Array.size_append, List.length_append, hol, hlen, hov, hnl]; omega)
   (fun i c u hc hu => by
    have hi : i < (oc ++ news).length := (List.getElem?_eq_some_iff.1 hc).1
    simp only [List.length_append, hol, hlen] at hi
    rw [Array.getElem?_append_left (by simp only [Array.size_append, hov, hnl]; omega)] at hu
    exact hall.2 i c u hc (by rw [← Array.toList_append, Array.getElem?_toList]; exact hu)) { w with drawn := w.drawn + 1 } rfl rfl rfl rfl
  refine ⟨_, _, _, hrun, ⟨?_, q1, q2⟩⟩
  exact .own id 0 (n + m) (n + m) size false _ cap' (upd_same id _) rfl (Nat.le_refl _) hc (fun h => by cases h) (by rw [Nat.zero_add]; exact Nat.le_of_eq hasz.symm)
 unfold adi at h
 cases x with
 | nilSl =>
  simp only at h
  cases hx
  split at h
  ·rename_i hm
   subst hm
   cases h
   have := hin none 0 0 rfl (Nat.le_refl _)
   exact ⟨_, w, μ, this, ⟨.nilSl, hH, Stp.refl _ _ _ _ _ _⟩⟩
  ·rename_i hm
   split at h
   ·rename_i hc
    cases h
    obtain ⟨cap', hc', hrun⟩ := hout none 0 0 #[] rfl (by omega) (by simpa using hc.1) (by simpa using hc.2) (fun _ _ => rfl)
    have := grow H 0 #[] [] cap' hH hlt LR.nil (by simp) hc' hrun
    simpa using this
   ·cases h
 | own b off n c sz ex =>
  simp only at h
  cases hx with
  | own _ _ _ _ _ _ L cap h1 h2 h3 h4 h5 h6 =>
  split at h
  ·rename_i cs ty' rw hb
   split at h
   ·rename_i hc
    obtain ⟨c1, c2, c3, c4, c5⟩ := hc
    subst c1; subst c4
    obtain ⟨arr, fr', g1, g2, g3, g4, g5, g6, g7⟩ := aaz hH hb h1
    have hcapN : ∀ k, k ≤ cap → off + k * sz ≤ L.N := fun k hk => Nat.le_trans (Nat.add_le_add_left (Nat.mul_le_mul_right _ hk) _) h6
    -- in place
    have inplace : n + m ≤ cap → rw = true → news.all AV.one = true → ∃ w', A.run P w = .ok (.slice (some ⟨L.blk, off, none⟩) (n + m) cap) w' ∧
      HR P μ F (H.put b (.cells (cs.take (off + n * sz) ++ news ++ cs.drop (off + n * sz + m * sz)) ty' rw)) w' ∧ Stp I P μ F H w μ F (H.put b (.cells (cs.take (off + n * sz) ++ news ++ cs.drop (off + n * sz + m * sz)) ty' rw)) w' := by
     intro hle hrw h1'
     subst hrw
     have hN := hcapN (n + m) hle
     rw [Nat.add_mul] at hN
     obtain ⟨w', hrun, q1, q2⟩ := ad3 (I := I) hH hb h1 (o := off + n * sz) hnew h1' c5 (by omega)
     rw [hlen] at q1 q2
     refine ⟨w', ?_, q1, q2⟩
     rw [hin _ n cap rfl hle]
     simp only [abk, hrun, Result.andThen_ok]
    obtain ⟨ov, ho1, ho2⟩ := ait (P := P) (off := off) (cs := cs.drop off) (n := n * sz) g1 (by rw [List.length_drop]; omega) (fun i c v hc hv => by rw [List.getElem?_drop] at hc; exact g5 _ c v hc hv) (by rw [List.length_drop]; omega)
    have hol : ((cs.drop off).take (n * sz)).length = n * sz := by rw [List.length_take, List.length_drop]; omega
    split at h
    ·rename_i hnc
     split at h
     ·rename_i hm
      cases h
      subst hm
      have := hin _ n cap rfl (by omega)
      have hnv : nv.toList = [] := by have : nv.size = 0 := by omega
                                      simpa using this
      simp only [hnv, storeCells, Sem.run_pure, Result.andThen_ok] at this
      exact ⟨_, w, μ, this, ⟨.own b off n c sz ex L cap h1 h2 h3 h4 h5 h6, hH, Stp.refl _ _ _ _ _ _⟩⟩
     ·split at h
      ·rename_i hc2
       cases h
       obtain ⟨w', hrun, q1, q2⟩ := inplace (by omega) hc2.1 hc2.2
       exact ⟨_, w', μ, hrun, ⟨.own b off (n + m) c sz ex L cap h1 h2 (by omega) h4 h5 h6, q1, q2⟩⟩
      ·cases h
    ·rename_i hnc
     split at h
     ·rename_i hex
      cases h
      have hcap := h5 hex
      obtain ⟨cap', hc', hrun⟩ := hout _ n cap ov.toArray rfl (by omega) c2 c3 ho1
      exact grow H n ov.toArray _ cap' hH hlt (by simpa using ho2) hol hc' hrun
     ·split at h
      ·rename_i hc2
       obtain ⟨e1, e2, e3, e4⟩ := hc2
       cases h
       subst e1
       by_cases hle : n + m ≤ cap
       ·obtain ⟨w', hrun, q1, q2⟩ := inplace hle e2 e4
        subst e2
        have q3 := ai7 q1 (by rw [Heap.get_put, if_pos rfl]) (n * sz + m * sz)
        have ht : ((cs.take (0 + n * sz) ++ news ++ cs.drop (0 + n * sz + m * sz)).take (n * sz + m * sz)) = cs.take (n * sz) ++ news := by
         rw [Nat.zero_add, List.take_append_of_le_length (by simp; omega), List.take_of_length_le (by simp; omega)]
        rw [ht] at q3
        obtain ⟨q4, q5⟩ := ae4 (I := I) q3 (b := b) (id := id) (L := L) (by rw [Heap.get_put, if_pos rfl]) h1 hid hlt hI
        refine ⟨_, w', μ.upd id L, hrun, ⟨?_, ?_, ?_⟩⟩
        ·exact .own id 0 (n + m) (n + m) sz false L cap (upd_same id _) h2 (Nat.le_refl _) hle (fun h => by cases h) (by rw [Nat.zero_add] at h6 ⊢; exact h6)
        ·refine q4.congr rfl fun x => ?_
         simp only [Heap.get_put, Heap.get_kill]
         split
         ·rfl
         ·split
          ·rfl
          ·rfl
        ·have q6 : Stp I P μ F H w μ F ((H.put b (.cells (cs.take (0 + n * sz) ++ news ++ cs.drop (0 + n * sz + m * sz)) ty' true)).put b (.cells (cs.take (n * sz) ++ news) ty' true)) w' :=
          q2.congr rfl (fun x e he => by
           rw [Heap.get_put] at he
           split at he
           ·rename_i ex; subst ex; cases he; exact ⟨.cells (cs.take (0 + n * sz) ++ news ++ cs.drop (0 + n * sz + m * sz)) ty' true, by rw [Heap.get_put, if_pos rfl], rfl⟩
           ·exact ⟨e, he, rfl⟩)
         refine (q6.trans q5).congr rfl fun x e he => ⟨e, ?_, rfl⟩
         simp only [Heap.get_put, Heap.get_kill] at he ⊢
         split at he
         ·rename_i hx; rw [if_pos hx]; exact he
         ·rename_i hx
          rw [if_neg hx]
          split at he
          ·cases he
          ·rename_i hx2; rw [if_neg hx2, if_neg hx2, if_neg hx2]; exact he
       ·obtain ⟨cap', hc', hrun⟩ := hout _ n cap ov.toArray rfl hle c2 c3 ho1
        obtain ⟨q1, q2⟩ := aej (I := I) hH b
        rw [List.drop_zero] at ho2 hol
        obtain ⟨u, w', μ', r1, r2⟩ := grow (H.kill b) n ov.toArray (cs.take (n * sz)) cap' q1 hlt (by simpa using ho2) hol hc' hrun
        exact ⟨u, w', μ', r1, ⟨r2.val, r2.heap, q2.trans r2.stp⟩⟩
      ·cases h
   ·cases h
  ·cases h
 | _ => cases h
end
end Go.Proofs.YtcmbokfnglkfnaaGreatDoor.Ev

namespace Go.Proofs.YtcmbokfnglkfnaaGreatDoor.Ev
open Go
set_option linter.all false
section
variable {I : Nat → Prop} {P : Program} {μ : Mu} {F : Nat → Prop} {H : Heap} {w : World} {T : Tm} {a : Act}
theorem anq {α : Type} [Inhabited α] (z : Array α) (n : Nat) : ((List.range (n * z.size)).map fun i => z[i % z.size]!) = (List.replicate n z.toList).flatten := by
 induction n with
 | zero => simp
 | succ n ih =>
  rw [Nat.add_mul, Nat.one_mul, Nat.add_comm, List.range_add, List.map_append, List.replicate_succ, List.flatten_cons, ← ih]
  congr 1
  ·apply List.ext_getElem
   ·simp
   ·intro i h1 h2
    simp at h1
    simp [Nat.mod_eq_of_lt h1, h1]
  ·rw [List.map_map]
   apply List.map_congr_left
   intro i _
   simp [Nat.add_mod_left]
theorem LR.rep {z : List AV} {zs : List Value} (h : LR μ F w z zs) : ∀ n, LR μ F w ((List.replicate n z).flatten) ((List.replicate n zs).flatten)
 | 0 => LR.nil
 | n + 1 => by
  rw [List.replicate_succ, List.replicate_succ, List.flatten_cons, List.flatten_cons]
  exact h.append (h.rep n)
theorem aa0 {z : Array Value} (N n : Nat) (h : N = n * z.size) : ((Array.range N).map fun i => z[i % z.size]!).toList = (List.replicate n z.toList).flatten := by
 subst h
 rw [Array.toList_map, Array.toList_range]
 exact anq z n
theorem afc {t e : TypeId} {n len : Nat} {z cs : List AV} {parts : List (Nat × Operand)} {ps : List ((Nat × Nat) × Src)} (hT : LR μ F w T a.tmps.toList)
  (ht : P.underlying t = some (.slice e)) (hs : aac P e = some n) (hz : aaf P e = some z) (hzl : z.length = n) (hle : len * n ≤ 2 ^ 24)
  (hps : (parts.mapM fun (p : Nat × Operand) => (do some ((p.1 * n, n), (← cSrc p.2)) : Option ((Nat × Nat) × Src))) = some ps) (hf : fillA ((List.replicate len z).flatten) (ps.map fun p => (p.1, p.2.ev T)) = some cs)
  (hH : HR P μ F H w) {id : Nat} (hid : μ id = none) (hlt : id < H.next) (hI : I id) :
  ∃ u w' μ', (Instr.buildSlice t len (parts.toArray.map fun p => (p.1, a.eval p.2))).run P w = .ok u w' ∧ Done I P μ F H w (.own id 0 len len n true) (H.put id (.cells cs e true)) u w' μ' := by
 obtain ⟨zv, hzv, hzr⟩ := adw hz w
 have hzs : zv.cells.size = n := by have := (hzr μ F w).1; simp at this; omega
 have hrep := (hzr μ F w).rep len
 have hcells : ∃ zc : Array Value, ((len * n = 0 ∧ zc = #[]) ∨ (len * n ≠ 0 ∧ zc = zv.cells)) ∧ ((Array.range (len * n)).map fun i => zc[i % zc.size]!).toList = (List.replicate len zv.cells.toList).flatten := by
  by_cases h0 : len * n = 0
  ·refine ⟨#[], .inl ⟨h0, rfl⟩, ?_⟩
   rw [h0]
   have : (List.replicate len zv.cells.toList).flatten.length = 0 := by simp [hzs, h0]
   simp only [List.length_eq_zero_iff] at this
   rw [this]; simp
  ·refine ⟨zv.cells, .inr ⟨h0, rfl⟩, ?_⟩
   exact aa0 _ _ (by rw [hzs])
 obtain ⟨zc, hzc1, hzc2⟩ := hcells
 obtain ⟨vs, hvs, hr⟩ := aj5 hT (fun i => some (i * n, n)) parts ps _ ((Array.range (len * n)).map fun i => zc[i % zc.size]!) cs hps (by rw [hzc2]; exact hrep) hf
 have hlen := hr.1
 simp at hlen
 have hvsz : vs.size = len * n := by
  have key : ∀ (l : List ((Nat × Nat) × AV)) (z cs : List AV), fillA z l = some cs → cs.length = z.length := by
   intro l
   induction l with
   | nil => intro z cs h; cases h; rfl
   | cons p l ih =>
    intro z cs h
    obtain ⟨⟨off, size⟩, v⟩ := p
    simp only [fillA] at h
    split at h
    ·rename_i hc
     rw [ih _ _ h]
     simp; omega
    ·cases h
  have := key _ _ _ hf
  simp [hzl] at this
  omega
 obtain ⟨q1, q2⟩ := ab9 hH hid hlt hI (arr := vs) (cs := cs) hs (by omega) (fun i c v hc hv => hr.2 i c v hc (by simpa using hv)) w rfl rfl rfl rfl
 refine ⟨_, _, _, ?_, ⟨.own id 0 len len n true _ len (upd_same id _) rfl (Nat.le_refl _) (Nat.le_refl _) (fun _ => rfl) (by simp; omega), q1, q2⟩⟩
 have hnle : ¬ len * n > 2 ^ 24 := by omega
 unfold Instr.buildSlice
 have hparts : (parts.toArray.map fun p => (p.1, a.eval p.2)).toList = parts.map fun p => (p.1, a.eval p.2) := by simp
 simp only [Sem.run_bind, run_underlying ht, Result.andThen_ok, aaj hs, hnle, if_false, hparts]
 rcases hzc1 with ⟨h0, rfl⟩ | ⟨h0, rfl⟩
 ·rw [if_pos h0]
  simp only [Sem.run_bind, Sem.run_pure, Result.andThen_ok, hvs, aa3]
 ·rw [if_neg h0]
  simp only [Sem.run_bind, Sem.run_pure, Result.andThen_ok, hzv, hvs, aa3]
theorem ah8 {c : Nat} (h : c < 2 ^ 63) : IntKind.i64.wrap (c : Int) = c := by
 have e : IntKind.i64.wrap (c : Int) = (if IntKind.i64.signed && decide ((c : Int) % (2 ^ IntKind.i64.bits : Int) ≥ (2 ^ (IntKind.i64.bits - 1) : Int)) then (c : Int) % (2 ^ IntKind.i64.bits : Int) - (2 ^ IntKind.i64.bits : Int) else (c : Int) % (2 ^ IntKind.i64.bits : Int)) := rfl
 have h1 : (c : Int) % (2 ^ IntKind.i64.bits : Int) = c := by
  have : (2 ^ IntKind.i64.bits : Int) = 18446744073709551616 := by decide
  rw [this]; omega
 rw [e, h1]
 have h2 : ¬ (c : Int) ≥ (2 ^ (IntKind.i64.bits - 1) : Int) := by
  have : (2 ^ (IntKind.i64.bits - 1) : Int) = 9223372036854775808 := by decide
  rw [this]; omega
 simp [h2]
theorem am7 {t e : TypeId} {size bytes l c : Nat} {z : List AV} {vl vc : Value} {kl kc : IntKind}
  (ht : P.underlying t = some (.slice e)) (hs : aac P e = some size) (hb : aa1 P e = some bytes) (hz : aaf P e = some z) (hzl : z.length = size)
  (hl : vl = .int kl (l : Int)) (hc : vc = .int kc (c : Int)) (hlc : l ≤ c) (hcb : bytes * c ≤ 2 ^ 47) (hc63 : c < 2 ^ 63)
  (hH : HR P μ F H w) {id : Nat} (hid : μ id = none) (hlt : id < H.next) (hI : I id) :
  ∃ u w' μ', (Instr.makeSlice t vl vc).run P w = .ok u w' ∧ Done I P μ F H w (.own id 0 l c size true) (H.put id (.cells ((List.replicate c z).flatten) e true)) u w' μ' := by
 obtain ⟨zv, hzv, hzr⟩ := adw hz w
 have hzs : zv.cells.size = size := by have := (hzr μ F w).1; simp at this; omega
 have hrep := (hzr μ F w).rep c
 have hcells : ∃ zc : Array Value, ((c * size = 0 ∧ zc = #[]) ∨ (c * size ≠ 0 ∧ zc = zv.cells)) ∧ ((Array.range (c * size)).map fun i => zc[i % zc.size]!).toList = (List.replicate c zv.cells.toList).flatten := by
  by_cases h0 : c * size = 0
  ·refine ⟨#[], .inl ⟨h0, rfl⟩, ?_⟩
   rw [h0]
   have : (List.replicate c zv.cells.toList).flatten.length = 0 := by simp [hzs, h0]
   simp only [List.length_eq_zero_iff] at this
   rw [this]; simp
  ·refine ⟨zv.cells, .inr ⟨h0, rfl⟩, ?_⟩
   exact aa0 _ _ (by rw [hzs])
 obtain ⟨zc, hzc1, hzc2⟩ := hcells
 obtain ⟨i, hi, hib⟩ := aot hb w
 have harr : ((Array.range (c * size)).map fun i => zc[i % zc.size]!).size = c * size := by simp
 obtain ⟨q1, q2⟩ := ab9 hH hid hlt hI (arr := (Array.range (c * size)).map fun i => zc[i % zc.size]!) (cs := (List.replicate c z).flatten) hs (by rw [harr]; simp [hzl])
  (fun i c v hc hv => hrep.2 i c v hc (by rw [← hzc2, Array.getElem?_toList]; exact hv)) w rfl rfl rfl rfl
 refine ⟨_, _, _, ?_, ⟨.own id 0 l c size true _ c (upd_same id _) rfl hlc (Nat.le_refl _) (fun _ => rfl) (by show 0 + c * size ≤ _; rw [Nat.zero_add]; exact Nat.le_of_eq harr.symm), q1, q2⟩⟩
 subst hl; subst hc
 unfold Instr.makeSlice
 have e1 := ah8 (c := c) hc63
 have e2 := ah8 (c := l) (by omega)
 have hB : ¬ ((c : Int) < 0 ∨ (bytes : Int) * (c : Int) > 2 ^ 48) := by
  have : ((bytes * c : Nat) : Int) = (bytes : Int) * (c : Int) := by simp
  rw [← this]; omega
 simp only [Sem.run_bind, run_underlying ht, Result.andThen_ok, asInt, asIntOf, Sem.run_pure, hi, hib, e1, e2]
 have hcond : ¬ (((decide ((c : Int) < 0) || decide ((bytes : Int) * (c : Int) > 2 ^ 48)) || decide ((l : Int) < 0) || decide ((l : Int) > (c : Int))) = true) := by
  simp; omega
 rw [if_neg hcond]
 simp only [Sem.run_bind, run_askRoom, Result.andThen_ok, aaj hs, Int.toNat_natCast]
 rcases hzc1 with ⟨h0, rfl⟩ | ⟨h0, rfl⟩
 ·rw [if_pos h0]
  simp only [Sem.run_bind, Sem.run_pure, Result.andThen_ok, aa3]
 ·rw [if_neg h0]
  simp only [Sem.run_bind, Sem.run_pure, Result.andThen_ok, hzv, aa3]
end
end Go.Proofs.YtcmbokfnglkfnaaGreatDoor.Ev
