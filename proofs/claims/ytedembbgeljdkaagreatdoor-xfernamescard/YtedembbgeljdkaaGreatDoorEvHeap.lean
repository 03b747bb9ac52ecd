/-
  THE EVALUATOR's HEAP: what a new block, a block written, a block given up do to it.
-/
import Derived.Test.YtedembbgeljdkaaGreatDoorEvPure3
import Derived.RangeFuncRecord
namespace Go.Proofs.YtedembbgeljdkaaGreatDoor.Ev
open Go
set_option linter.all false

def Mu.upd (μ : Mu) (b : Nat) (L : Loc) : Mu := fun x => if x = b then some L else μ x

section
variable {I : Nat → Prop} {P : Program} {μ : Mu} {F : Nat → Prop} {H : Heap} {w : World}

theorem upd_ext {b : Nat} {L : Loc} (hb : μ b = none) : ∀ x M, μ x = some M → (μ.upd b L) x = some M := by
  intro x M h
  unfold Mu.upd
  split
  · rename_i e; subst e; rw [hb] at h; cases h
  · exact h
@[simp] theorem upd_same (b : Nat) (L : Loc) : (μ.upd b L) b = some L := by simp [Mu.upd]
theorem upd_other {b x : Nat} (L : Loc) (h : x ≠ b) : (μ.upd b L) x = μ x := by simp [Mu.upd, h]

theorem ER.mono {μ μ' : Mu} {F F' : Nat → Prop} {w w' : World} {L : Loc} {e : Ent} (hμ : ∀ b L, μ b = some L → μ' b = some L) (hF : ∀ c, F c → F' c)
    (hw : ∀ c, F c → w'.heap[c]? = w.heap[c]?) (hs : w'.heap[L.blk]? = w.heap[L.blk]?) (hn : e.rw = true → ¬ F' L.blk) (h : ER P μ F w L e) : ER P μ' F' w' L e := by
  cases e with
  | cells cs ty rw =>
    obtain ⟨arr, fr, h1, h2, h3, h4, h5, h6, h7⟩ := h
    exact ⟨arr, fr, hs.trans h1, h2, h3, h4, fun i c v hc hv => (h5 i c v hc hv).mono hμ hF hw, fun hr => ⟨hn hr, (h6 hr).2⟩, fun _ => trivial⟩
  | map es =>
    obtain ⟨h0, entries, clock, h1, h2, h3, h4⟩ := h
    exact ⟨hn rfl, entries, clock, hs.trans h1, h2.mono hμ hF hw, h3.mono hμ hF hw, h4⟩
  | mapR es =>
    obtain ⟨entries, clock, h1, h2, h3, h4⟩ := h
    exact ⟨entries, clock, hs.trans h1, h2.mono hμ hF hw, h3.mono hμ hF hw, h4⟩
  | loop T ps asg body st pe =>
    obtain ⟨h0, r, h1, h2, h3, h4⟩ := h
    exact ⟨hn rfl, r, hs.trans h1, h2, h3.mono hμ hF hw, h4⟩
  | siter s pos => exact ⟨hn rfl, hs.trans h.2⟩

theorem heap_push_lt (w : World) (o : Obj) {c : Nat} (h : c < w.heap.size) : (w.alloc o).heap[c]? = w.heap[c]? := by
  simp only [World.alloc, Array.getElem?_push]
  rw [if_neg (by omega)]

theorem new_block (hH : HR P μ F H w) {id : Nat} (hid : μ id = none) (hlt : id < H.next) (o : Obj) (e : Ent) (N sz : Nat)
    (he : ∀ w', (∀ c, F c → w'.heap[c]? = w.heap[c]?) → w'.heap[w.heap.size]? = some o → ¬ F w.heap.size → ER P (μ.upd id ⟨w.heap.size, N, sz⟩) F w' ⟨w.heap.size, N, sz⟩ e) (hI : I id)
    (w1 : World) (h1 : w1.heap = w.heap) (ht : w1.tape = w.tape) (hos : w1.os = w.os) (hout : w1.output = w.output) :
    HR P (μ.upd id ⟨w.heap.size, N, sz⟩) F (H.put id e) (w1.alloc o) ∧ Stp I P μ F H w (μ.upd id ⟨w.heap.size, N, sz⟩) F (H.put id e) (w1.alloc o) := by
  have hw : ∀ c, c < w.heap.size → (w1.alloc o).heap[c]? = w.heap[c]? := fun c hc => by rw [heap_push_lt _ _ (by rw [h1]; exact hc), h1]
  have hnew : (w1.alloc o).heap[w.heap.size]? = some o := by rw [← h1]; exact World.alloc_heap_new w1 o
  have hsz : (w1.alloc o).heap.size = w.heap.size + 1 := by simp [World.alloc, h1]
  have hnF : ¬ F w.heap.size := fun h => by have := hH.fb _ h; omega
  have hFw : ∀ c, F c → (w1.alloc o).heap[c]? = w.heap[c]? := fun c hc => hw c (hH.fb c hc)
  have hnone : ∀ e', H.get id ≠ some e' := fun e' h => by obtain ⟨L, hL, _⟩ := hH.ent id e' h; rw [hid] at hL; cases hL
  refine ⟨⟨?_, ?_, ?_, ?_, fun g cs hg => (hH.gl g cs hg).mono (upd_ext hid) (fun _ h => h) hFw⟩, ⟨upd_ext hid, fun _ h => h, by rw [hsz]; omega, fun c hc _ => hw c hc, ?_, Nat.le_refl _, ?_, ?_, ?_, ?_, ht, hos, hout⟩⟩
  · intro b L hb
    rw [hsz]
    by_cases e0 : b = id
    · subst e0; simp at hb; subst hb; exact ⟨hlt, by simp⟩
    · rw [upd_other _ e0] at hb
      have := hH.dom b L hb
      exact ⟨this.1, by omega⟩
  · intro c hc; rw [hsz]; have := hH.fb c hc; omega
  · intro b e' hb
    rw [Heap.get_put] at hb
    split at hb
    · rename_i e0; subst e0; cases hb
      exact ⟨_, upd_same _ _, he _ hFw hnew hnF⟩
    · rename_i e0
      obtain ⟨L, hL, hE⟩ := hH.ent b e' hb
      exact ⟨L, upd_ext hid _ _ hL, hE.mono (upd_ext hid) (fun _ h => h) hFw (hw _ (hH.dom b L hL).2) (fun hr => hE.notF hr)⟩
  · intro b b' e1 e2 L L' hb hb' hL hL' hblk
    rw [Heap.get_put] at hb hb'
    by_cases e0 : b = id
    · by_cases e0' : b' = id
      · rw [e0, e0']
      · subst e0
        simp at hL; subst hL
        rw [upd_other _ e0'] at hL'
        have := (hH.dom b' L' hL').2
        simp only at hblk; omega
    · by_cases e0' : b' = id
      · subst e0'
        simp at hL'; subst hL'
        rw [upd_other _ e0] at hL
        have := (hH.dom b L hL).2
        simp only at hblk; omega
      · rw [if_neg e0] at hb; rw [if_neg e0'] at hb'
        rw [upd_other _ e0] at hL; rw [upd_other _ e0'] at hL'
        exact hH.inj b b' e1 e2 L L' hb hb' hL hL' hblk
  · intro b L ⟨e', hb, hr⟩ hL
    rw [Heap.get_put] at hb
    split at hb
    · rename_i e0; subst e0; simp at hL; subst hL; exact .inl (Nat.le_refl _)
    · rename_i e0; rw [upd_other _ e0] at hL; exact .inr ⟨b, L, ⟨e', hb, hr⟩, hL, rfl⟩
  · intro b hb hi hn
    have : b ≠ id := fun e0 => hi (e0 ▸ hI)
    rw [upd_other _ this]; exact hn
  · intro b L hb
    by_cases e0 : b = id
    · subst e0; simp at hb; subst hb; exact .inr (Nat.le_refl _)
    · rw [upd_other _ e0] at hb; exact .inl ⟨b, L, hb, rfl⟩
  · intro b e' hb _ hi
    rw [Heap.get_put, if_neg (fun e0 : b = id => hi (e0 ▸ hI))] at hb
    exact ⟨e', hb⟩
  · intro b e' L hb hL
    by_cases e0 : b = id
    · subst e0; simp at hL; subst hL; exact .inl (Nat.le_refl _)
    · rw [upd_other _ e0] at hL; rw [Heap.get_put, if_neg e0] at hb; exact .inr ⟨b, e', L, hb, hL, rfl⟩

theorem put_block (hH : HR P μ F H w) {b : Nat} {L : Loc} {e0 e : Ent} (hb : H.get b = some e0) (hr : e0.rw = true) (hL : μ b = some L) (w' : World)
    (hoth : ∀ c, c ≠ L.blk → w'.heap[c]? = w.heap[c]?) (hsz : w'.heap.size = w.heap.size) (ht : w'.tape = w.tape) (hos : w'.os = w.os) (hout : w'.output = w.output)
    (he : (∀ c, F c → w'.heap[c]? = w.heap[c]?) → ER P μ F w' L e) (hre : e.rw = true) :
    HR P μ F (H.put b e) w' ∧ Stp I P μ F H w μ F (H.put b e) w' := by
  have hnF : ¬ F L.blk := hH.rw_notF ⟨e0, hb, hr⟩ hL
  have hFw : ∀ c, F c → w'.heap[c]? = w.heap[c]? := fun c hc => hoth c fun e => hnF (e ▸ hc)
  refine ⟨⟨?_, ?_, ?_, ?_, fun g cs hg => (hH.gl g cs hg).mono (fun _ _ h => h) (fun _ h => h) hFw⟩, ⟨fun _ _ h => h, fun _ h => h, by omega, ?_, ?_, Nat.le_refl _, fun _ _ _ h => h, fun b L h => .inl ⟨b, L, h, rfl⟩, ?_, ?_, ht, hos, hout⟩⟩
  · intro b' L' h; rw [hsz]; exact hH.dom b' L' h
  · intro c hc; rw [hsz]; exact hH.fb c hc
  · intro b' e' h
    rw [Heap.get_put] at h
    split at h
    · rename_i eb; subst eb; cases h; exact ⟨L, hL, he hFw⟩
    · rename_i eb
      obtain ⟨L', hL', hE⟩ := hH.ent b' e' h
      refine ⟨L', hL', hE.mono (fun _ _ h => h) (fun _ h => h) hFw (hoth _ fun e => eb ?_) (fun hr => hE.notF hr)⟩
      exact hH.inj b' b e' e0 L' L h hb hL' hL e
  · intro b1 b2 e1 e2 L1 L2 h1 h2 hL1 hL2 hblk
    rw [Heap.get_put] at h1 h2
    have g1 : ∃ e, H.get b1 = some e := by split at h1; · rename_i eb; subst eb; exact ⟨_, hb⟩
                                           · exact ⟨_, h1⟩
    have g2 : ∃ e, H.get b2 = some e := by split at h2; · rename_i eb; subst eb; exact ⟨_, hb⟩
                                           · exact ⟨_, h2⟩
    obtain ⟨f1, g1⟩ := g1
    obtain ⟨f2, g2⟩ := g2
    exact hH.inj b1 b2 f1 f2 L1 L2 g1 g2 hL1 hL2 hblk
  · intro c hc hn
    exact hoth c fun e => hn b L ⟨e0, hb, hr⟩ hL e.symm
  · intro b' L' ⟨e', h, hr'⟩ hL'
    rw [Heap.get_put] at h
    split at h
    · rename_i eb; subst eb; exact .inr ⟨_, L', ⟨e0, hb, hr⟩, hL', rfl⟩
    · exact .inr ⟨b', L', ⟨e', h, hr'⟩, hL', rfl⟩
  · intro x e' h _ _
    rw [Heap.get_put] at h
    split at h
    · rename_i eb; subst eb; exact ⟨_, hb⟩
    · exact ⟨_, h⟩
  · intro x e' L' h hL'
    rw [Heap.get_put] at h
    split at h
    · rename_i eb; subst eb; exact .inr ⟨_, _, L', hb, hL', rfl⟩
    · exact .inr ⟨x, e', L', h, hL', rfl⟩

theorem kill_block (hH : HR P μ F H w) (b : Nat) : HR P μ F (H.kill b) w ∧ Stp I P μ F H w μ F (H.kill b) w := by
  have hg : ∀ x e, (H.kill b).get x = some e → H.get x = some e := by
    intro x e h
    rw [Heap.get_kill] at h
    split at h
    · cases h
    · exact h
  refine ⟨⟨hH.dom, hH.fb, fun x e h => hH.ent x e (hg x e h), fun x y e1 e2 L L' h1 h2 => hH.inj x y e1 e2 L L' (hg _ _ h1) (hg _ _ h2), hH.gl⟩, ⟨fun _ _ h => h, fun _ h => h, Nat.le_refl _, fun _ _ _ => rfl, ?_, Nat.le_refl _, fun _ _ _ h => h, fun b L h => .inl ⟨b, L, h, rfl⟩, fun x e h _ _ => ⟨e, hg x e h⟩, fun x e L h hL => .inr ⟨x, e, L, hg x e h, hL, rfl⟩, rfl, rfl, rfl⟩⟩
  intro x L ⟨e, h, hr⟩ hL
  exact .inr ⟨x, L, ⟨e, hg x e h, hr⟩, hL, rfl⟩

theorem rename_block (hH : HR P μ F H w) {b id : Nat} {L : Loc} {e0 : Ent} (hb : H.get b = some e0) (hL : μ b = some L) (hid : μ id = none) (hlt : id < H.next) (hI : I id) :
    HR P (μ.upd id L) F ((H.kill b).put id e0) w ∧ Stp I P μ F H w (μ.upd id L) F ((H.kill b).put id e0) w := by
  have hne : b ≠ id := fun e => by subst e; rw [hL] at hid; cases hid
  obtain ⟨L0, hL0, hE0⟩ := hH.ent b e0 hb
  rw [hL] at hL0; cases hL0
  have hg : ∀ x e, x ≠ id → ((H.kill b).put id e0).get x = some e → H.get x = some e ∧ x ≠ b := by
    intro x e hx h
    rw [Heap.get_put, if_neg hx, Heap.get_kill] at h
    split at h
    · cases h
    · rename_i hb'; exact ⟨h, hb'⟩
  refine ⟨⟨?_, hH.fb, ?_, ?_, fun g cs hg => (hH.gl g cs hg).mono (upd_ext hid) (fun _ h => h) (fun _ _ => rfl)⟩, ⟨upd_ext hid, fun _ h => h, Nat.le_refl _, fun _ _ _ => rfl, ?_, Nat.le_refl _, ?_, ?_, ?_, ?_, rfl, rfl, rfl⟩⟩
  · intro x M hx
    by_cases e : x = id
    · subst e; simp at hx; subst hx; exact ⟨hlt, (hH.dom b L hL).2⟩
    · rw [upd_other _ e] at hx; exact hH.dom x M hx
  · intro x e h
    by_cases ex : x = id
    · subst ex
      rw [Heap.get_put, if_pos rfl] at h; cases h
      exact ⟨L, upd_same _ _, hE0.mono (upd_ext hid) (fun _ h => h) (fun _ _ => rfl) rfl (fun hr => hE0.notF hr)⟩
    · obtain ⟨h', _⟩ := hg x e ex h
      obtain ⟨M, hM, hE⟩ := hH.ent x e h'
      exact ⟨M, upd_ext hid _ _ hM, hE.mono (upd_ext hid) (fun _ h => h) (fun _ _ => rfl) rfl (fun hr => hE.notF hr)⟩
  · intro x y e1 e2 M M' h1 h2 hM hM' hblk
    by_cases ex : x = id
    · by_cases ey : y = id
      · rw [ex, ey]
      · subst ex
        simp at hM; subst hM
        obtain ⟨h2', hyb⟩ := hg y e2 ey h2
        rw [upd_other _ ey] at hM'
        exact absurd (hH.inj y b e2 e0 M' L h2' hb hM' hL hblk.symm) hyb
    · obtain ⟨h1', hxb⟩ := hg x e1 ex h1
      rw [upd_other _ ex] at hM
      by_cases ey : y = id
      · subst ey
        simp at hM'; subst hM'
        exact absurd (hH.inj x b e1 e0 M L h1' hb hM hL hblk) hxb
      · obtain ⟨h2', hyb⟩ := hg y e2 ey h2
        rw [upd_other _ ey] at hM'
        exact hH.inj x y e1 e2 M M' h1' h2' hM hM' hblk
  · intro x M ⟨e, h, hr⟩ hM
    by_cases ex : x = id
    · subst ex
      rw [Heap.get_put, if_pos rfl] at h; cases h
      simp at hM; subst hM
      exact .inr ⟨b, L, ⟨e0, hb, hr⟩, hL, rfl⟩
    · obtain ⟨h', _⟩ := hg x e ex h
      rw [upd_other _ ex] at hM
      exact .inr ⟨x, M, ⟨e, h', hr⟩, hM, rfl⟩
  · intro x hx hi hn
    have : x ≠ id := fun e0 => hi (e0 ▸ hI)
    rw [upd_other _ this]; exact hn
  · intro x M hM
    by_cases e0 : x = id
    · subst e0; simp at hM; subst hM; exact .inl ⟨b, _, hL, rfl⟩
    · rw [upd_other _ e0] at hM; exact .inl ⟨x, M, hM, rfl⟩
  · intro x e h _ hi
    exact ⟨e, (hg x e (fun e0 => hi (e0 ▸ hI)) h).1⟩
  · intro x e M h hM
    by_cases e1 : x = id
    · subst e1; simp at hM; subst hM; exact .inr ⟨b, e0, _, hb, hL, rfl⟩
    · rw [upd_other _ e1] at hM; exact .inr ⟨x, e, M, (hg x e e1 h).1, hM, rfl⟩

end
end Go.Proofs.YtedembbgeljdkaaGreatDoor.Ev
