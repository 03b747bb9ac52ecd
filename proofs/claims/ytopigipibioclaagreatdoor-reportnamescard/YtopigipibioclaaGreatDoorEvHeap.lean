/- The evaluator, a part. -/
import Derived.Test.YtopigipibioclaaGreatDoorEvPure
import Derived.RangeFuncRecord
namespace Go.Proofs.YtopigipibioclaaGreatDoor.Ev
open Go
set_option linter.all false
def Mu.upd (μ : Mu) (b : Nat) (L : Loc) : Mu := fun x => if x = b then some L else μ x
section
variable {I : Nat → Prop} {P : Program} {μ : Mu} {F : Nat → Prop} {H : Heap} {w : World}
theorem l8 {b : Nat} {L : Loc} (hb : μ b = none) : ∀ x M, μ x = some M → (μ.upd b L) x = some M := by
 intro x M h
 unfold Mu.upd
 split
 ·rename_i e; subst e; rw [hb] at h; cases h
 ·exact h
@[simp] theorem upd_same (b : Nat) (L : Loc) : (μ.upd b L) b = some L := by simp [Mu.upd]
theorem i4 {b x : Nat} (L : Loc) (h : x ≠ b) : (μ.upd b L) x = μ x := by simp [Mu.upd, h]
theorem ER.mono {μ μ' : Mu} {F F' : Nat → Prop} {w w' : World} {L : Loc} {e : Ent} (d : ∀ b L, μ b = some L → μ' b = some L) (hF : ∀ c, F c → F' c)
  (a : ∀ c, F c → w'.heap[c]? = w.heap[c]?) (hs : w'.heap[L.blk]? = w.heap[L.blk]?) (hn : e.rw = true → ¬ F' L.blk) (h : ER P μ F w L e) : ER P μ' F' w' L e := by
 cases e with
 | cells cs ty rw =>
  obtain ⟨arr, fr, h1, h2, h3, h4, h5, g, k⟩ := h
  exact ⟨arr, fr, hs.trans h1, h2, h3, h4, fun i c v hc hv => (h5 i c v hc hv).mono d hF a, fun hr => ⟨hn hr, (g hr).2⟩, fun _ => trivial⟩
 | map es =>
  obtain ⟨h0, f, clock, h1, h2, h3, h4⟩ := h
  exact ⟨hn rfl, f, clock, hs.trans h1, h2.mono d hF a, h3.mono d hF a, h4⟩
 | mapR es =>
  obtain ⟨f, clock, h1, h2, h3, h4⟩ := h
  exact ⟨f, clock, hs.trans h1, h2.mono d hF a, h3.mono d hF a, h4⟩
 | loop T ps j body st l =>
  obtain ⟨h0, r, h1, h2, h3, h4⟩ := h
  exact ⟨hn rfl, r, hs.trans h1, h2, h3.mono d hF a, h4⟩
 | siter s pos => exact ⟨hn rfl, hs.trans h.2⟩
theorem Y9 (w : World) (o : Obj) {c : Nat} (h : c < w.heap.size) : (w.alloc o).heap[c]? = w.heap[c]? := by
 simp only [World.alloc, Array.getElem?_push]
 rw [if_neg (by omega)]
theorem XS (hH : HR P μ F H w) {id : Nat} (d : μ id = none) (m : id < H.next) (o : Obj) (e : Ent) (N sz : Nat)
  (he : ∀ w', (∀ c, F c → w'.heap[c]? = w.heap[c]?) → w'.heap[w.heap.size]? = some o → ¬ F w.heap.size → ER P (μ.upd id ⟨w.heap.size, N, sz⟩) F w' ⟨w.heap.size, N, sz⟩ e) (l : I id)
  (w1 : World) (h1 : w1.heap = w.heap) (ht : w1.tape = w.tape) (q : w1.os = w.os) (r : w1.output = w.output) :
  HR P (μ.upd id ⟨w.heap.size, N, sz⟩) F (H.put id e) (w1.alloc o) ∧ Stp I P μ F H w (μ.upd id ⟨w.heap.size, N, sz⟩) F (H.put id e) (w1.alloc o) := by
 have j : ∀ c, c < w.heap.size → (w1.alloc o).heap[c]? = w.heap[c]? := fun c hc => by rw [Y9 _ _ (by rw [h1]; exact hc), h1]
 have p : (w1.alloc o).heap[w.heap.size]? = some o := by rw [← h1]; exact World.alloc_heap_new w1 o
 have hsz : (w1.alloc o).heap.size = w.heap.size + 1 := by simp [World.alloc, h1]
 have n : ¬ F w.heap.size := fun h => by have := hH.fb _ h; omega
 have f : ∀ c, F c → (w1.alloc o).heap[c]? = w.heap[c]? := fun c hc => j c (hH.fb c hc)
 have s : ∀ e', H.get id ≠ some e' := fun e' h => by obtain ⟨L, hL, _⟩ := hH.ent id e' h; rw [d] at hL; cases hL
 refine ⟨⟨?_, ?_, ?_, ?_, fun g cs hg => (hH.gl g cs hg).mono (l8 d) (fun _ h => h) f⟩, ⟨l8 d, fun _ h => h, by rw [hsz]; omega, fun c hc _ => j c hc, ?_, Nat.le_refl _, ?_, ?_, ?_, ?_, ht, q, r⟩⟩
 ·intro b L hb
  rw [hsz]
  by_cases e0 : b = id
  ·subst e0; simp at hb; subst hb; exact ⟨m, by simp⟩
  ·rw [i4 _ e0] at hb
   have := hH.dom b L hb
   exact ⟨this.1, by omega⟩
 ·intro c hc; rw [hsz]; have := hH.fb c hc; omega
 ·intro b e' hb
  rw [Heap.get_put] at hb
  split at hb
  ·rename_i e0; subst e0; cases hb
   exact ⟨_, upd_same _ _, he _ f p n⟩
  ·rename_i e0
   obtain ⟨L, hL, k⟩ := hH.ent b e' hb
   exact ⟨L, l8 d _ _ hL, k.mono (l8 d) (fun _ h => h) f (j _ (hH.dom b L hL).2) (fun hr => k.notF hr)⟩
 ·intro b b' e1 e2 L L' hb i hL hL' hblk
  rw [Heap.get_put] at hb i
  by_cases e0 : b = id
  ·by_cases a : b' = id
   ·rw [e0, a]
   ·subst e0
    simp at hL; subst hL
    rw [i4 _ a] at hL'
    have := (hH.dom b' L' hL').2
    simp only at hblk; omega
  ·by_cases a : b' = id
   ·subst a
    simp at hL'; subst hL'
    rw [i4 _ e0] at hL
    have := (hH.dom b L hL).2
    simp only at hblk; omega
   ·rw [if_neg e0] at hb; rw [if_neg a] at i
    rw [i4 _ e0] at hL; rw [i4 _ a] at hL'
    exact hH.inj b b' e1 e2 L L' hb i hL hL' hblk
 ·intro b L ⟨e', hb, hr⟩ hL
  rw [Heap.get_put] at hb
  split at hb
  ·rename_i e0; subst e0; simp at hL; subst hL; exact .inl (Nat.le_refl _)
  ·rename_i e0; rw [i4 _ e0] at hL; exact .inr ⟨b, L, ⟨e', hb, hr⟩, hL, rfl⟩
 ·intro b hb hi hn
  have : b ≠ id := fun e0 => hi (e0 ▸ l)
  rw [i4 _ this]; exact hn
 ·intro b L hb
  by_cases e0 : b = id
  ·subst e0; simp at hb; subst hb; exact .inr (Nat.le_refl _)
  ·rw [i4 _ e0] at hb; exact .inl ⟨b, L, hb, rfl⟩
 ·intro b e' hb _ hi
  rw [Heap.get_put, if_neg (fun e0 : b = id => hi (e0 ▸ l))] at hb
  exact ⟨e', hb⟩
 ·intro b e' L hb hL
  by_cases e0 : b = id
  ·subst e0; simp at hL; subst hL; exact .inl (Nat.le_refl _)
  ·rw [i4 _ e0] at hL; rw [Heap.get_put, if_neg e0] at hb; exact .inr ⟨b, e', L, hb, hL, rfl⟩
theorem Ci (hH : HR P μ F H w) {b : Nat} {L : Loc} {e0 e : Ent} (hb : H.get b = some e0) (hr : e0.rw = true) (hL : μ b = some L) (w' : World)
  (j : ∀ c, c ≠ L.blk → w'.heap[c]? = w.heap[c]?) (hsz : w'.heap.size = w.heap.size) (ht : w'.tape = w.tape) (s : w'.os = w.os) (t : w'.output = w.output)
  (he : (∀ c, F c → w'.heap[c]? = w.heap[c]?) → ER P μ F w' L e) (v : e.rw = true) :
  HR P μ F (H.put b e) w' ∧ Stp I P μ F H w μ F (H.put b e) w' := by
 have r : ¬ F L.blk := hH.rw_notF ⟨e0, hb, hr⟩ hL
 have i : ∀ c, F c → w'.heap[c]? = w.heap[c]? := fun c hc => j c fun e => r (e ▸ hc)
 refine ⟨⟨?_, ?_, ?_, ?_, fun g cs hg => (hH.gl g cs hg).mono (fun _ _ h => h) (fun _ h => h) i⟩, ⟨fun _ _ h => h, fun _ h => h, by omega, ?_, ?_, Nat.le_refl _, fun _ _ _ h => h, fun b L h => .inl ⟨b, L, h, rfl⟩, ?_, ?_, ht, s, t⟩⟩
 ·intro b' L' h; rw [hsz]; exact hH.dom b' L' h
 ·intro c hc; rw [hsz]; exact hH.fb c hc
 ·intro b' e' h
  rw [Heap.get_put] at h
  split at h
  ·rename_i a; subst a; cases h; exact ⟨L, hL, he i⟩
  ·rename_i a
   obtain ⟨L', hL', k⟩ := hH.ent b' e' h
   refine ⟨L', hL', k.mono (fun _ _ h => h) (fun _ h => h) i (j _ fun e => a ?_) (fun hr => k.notF hr)⟩
   exact hH.inj b' b e' e0 L' L h hb hL' hL e
 ·intro b1 b2 e1 e2 l m h1 h2 p q hblk
  rw [Heap.get_put] at h1 h2
  have d : ∃ e, H.get b1 = some e := by
    split at h1
    ·rename_i a; subst a; exact ⟨_, hb⟩
    ·exact ⟨_, h1⟩
  have f : ∃ e, H.get b2 = some e := by
    split at h2
    ·rename_i a; subst a; exact ⟨_, hb⟩
    ·exact ⟨_, h2⟩
  obtain ⟨n, d⟩ := d
  obtain ⟨o, f⟩ := f
  exact hH.inj b1 b2 n o l m d f p q hblk
 ·intro c hc hn
  exact j c fun e => hn b L ⟨e0, hb, hr⟩ hL e.symm
 ·intro b' L' ⟨e', h, u⟩ hL'
  rw [Heap.get_put] at h
  split at h
  ·rename_i a; subst a; exact .inr ⟨_, L', ⟨e0, hb, hr⟩, hL', rfl⟩
  ·exact .inr ⟨b', L', ⟨e', h, u⟩, hL', rfl⟩
 ·intro x e' h _ _
  rw [Heap.get_put] at h
  split at h
  ·rename_i a; subst a; exact ⟨_, hb⟩
  ·exact ⟨_, h⟩
 ·intro x e' L' h hL'
  rw [Heap.get_put] at h
  split at h
  ·rename_i a; subst a; exact .inr ⟨_, _, L', hb, hL', rfl⟩
  ·exact .inr ⟨x, e', L', h, hL', rfl⟩
theorem aev (hH : HR P μ F H w) (b : Nat) : HR P μ F (H.kill b) w ∧ Stp I P μ F H w μ F (H.kill b) w := by
 have hg : ∀ x e, (H.kill b).get x = some e → H.get x = some e := by
  intro x e h
  rw [Heap.get_kill] at h
  split at h
  ·cases h
  ·exact h
 refine ⟨⟨hH.dom, hH.fb, fun x e h => hH.ent x e (hg x e h), fun x y e1 e2 L L' h1 h2 => hH.inj x y e1 e2 L L' (hg _ _ h1) (hg _ _ h2), hH.gl⟩, ⟨fun _ _ h => h, fun _ h => h, Nat.le_refl _, fun _ _ _ => rfl, ?_, Nat.le_refl _, fun _ _ _ h => h, fun b L h => .inl ⟨b, L, h, rfl⟩, fun x e h _ _ => ⟨e, hg x e h⟩, fun x e L h hL => .inr ⟨x, e, L, hg x e h, hL, rfl⟩, rfl, rfl, rfl⟩⟩
 intro x L ⟨e, h, hr⟩ hL
 exact .inr ⟨x, L, ⟨e, hg x e h, hr⟩, hL, rfl⟩
theorem ae4 (hH : HR P μ F H w) {b id : Nat} {L : Loc} {e0 : Ent} (hb : H.get b = some e0) (hL : μ b = some L) (d : μ id = none) (r : id < H.next) (n : I id) :
  HR P (μ.upd id L) F ((H.kill b).put id e0) w ∧ Stp I P μ F H w (μ.upd id L) F ((H.kill b).put id e0) w := by
 have t : b ≠ id := fun e => by subst e; rw [hL] at d; cases d
 obtain ⟨L0, o, m⟩ := hH.ent b e0 hb
 rw [hL] at o; cases o
 have hg : ∀ x e, x ≠ id → ((H.kill b).put id e0).get x = some e → H.get x = some e ∧ x ≠ b := by
  intro x e hx h
  rw [Heap.get_put, if_neg hx, Heap.get_kill] at h
  split at h
  ·cases h
  ·rename_i q; exact ⟨h, q⟩
 refine ⟨⟨?_, hH.fb, ?_, ?_, fun g cs hg => (hH.gl g cs hg).mono (l8 d) (fun _ h => h) (fun _ _ => rfl)⟩, ⟨l8 d, fun _ h => h, Nat.le_refl _, fun _ _ _ => rfl, ?_, Nat.le_refl _, ?_, ?_, ?_, ?_, rfl, rfl, rfl⟩⟩
 ·intro x M hx
  by_cases e : x = id
  ·subst e; simp at hx; subst hx; exact ⟨r, (hH.dom b L hL).2⟩
  ·rw [i4 _ e] at hx; exact hH.dom x M hx
 ·intro x e h
  by_cases ex : x = id
  ·subst ex
   rw [Heap.get_put, if_pos rfl] at h; cases h
   exact ⟨L, upd_same _ _, m.mono (l8 d) (fun _ h => h) (fun _ _ => rfl) rfl (fun hr => m.notF hr)⟩
  ·obtain ⟨h', _⟩ := hg x e ex h
   obtain ⟨M, a, l⟩ := hH.ent x e h'
   exact ⟨M, l8 d _ _ a, l.mono (l8 d) (fun _ h => h) (fun _ _ => rfl) rfl (fun hr => l.notF hr)⟩
 ·intro x y e1 e2 M j h1 h2 a f hblk
  by_cases ex : x = id
  ·by_cases c : y = id
   ·rw [ex, c]
   ·subst ex
    simp at a; subst a
    obtain ⟨i, p⟩ := hg y e2 c h2
    rw [i4 _ c] at f
    exact absurd (hH.inj y b e2 e0 j L i hb f hL hblk.symm) p
  ·obtain ⟨k, s⟩ := hg x e1 ex h1
   rw [i4 _ ex] at a
   by_cases c : y = id
   ·subst c
    simp at f; subst f
    exact absurd (hH.inj x b e1 e0 M L k hb a hL hblk) s
   ·obtain ⟨i, p⟩ := hg y e2 c h2
    rw [i4 _ c] at f
    exact hH.inj x y e1 e2 M j k i a f hblk
 ·intro x M ⟨e, h, hr⟩ a
  by_cases ex : x = id
  ·subst ex
   rw [Heap.get_put, if_pos rfl] at h; cases h
   simp at a; subst a
   exact .inr ⟨b, L, ⟨e0, hb, hr⟩, hL, rfl⟩
  ·obtain ⟨h', _⟩ := hg x e ex h
   rw [i4 _ ex] at a
   exact .inr ⟨x, M, ⟨e, h', hr⟩, a, rfl⟩
 ·intro x hx hi hn
  have : x ≠ id := fun e0 => hi (e0 ▸ n)
  rw [i4 _ this]; exact hn
 ·intro x M a
  by_cases e0 : x = id
  ·subst e0; simp at a; subst a; exact .inl ⟨b, _, hL, rfl⟩
  ·rw [i4 _ e0] at a; exact .inl ⟨x, M, a, rfl⟩
 ·intro x e h _ hi
  exact ⟨e, (hg x e (fun e0 => hi (e0 ▸ n)) h).1⟩
 ·intro x e M h a
  by_cases e1 : x = id
  ·subst e1; simp at a; subst a; exact .inr ⟨b, e0, _, hb, hL, rfl⟩
  ·rw [i4 _ e1] at a; exact .inr ⟨x, e, M, (hg x e e1 h).1, a, rfl⟩
end
end Go.Proofs.YtopigipibioclaaGreatDoor.Ev

namespace Go.Proofs.YtopigipibioclaaGreatDoor.Ev
open Go
set_option linter.all false
structure Done (I : Nat → Prop) (P : Program) (μ : Mu) (F : Nat → Prop) (H : Heap) (w : World) (v : AV) (H' : Heap) (u : Value) (w' : World) (μ' : Mu) : Prop where
 val : VR μ' F w' v u
 heap : HR P μ' F H' w'
 stp : Stp I P μ F H w μ' F H' w'
section
variable {I : Nat → Prop} {P : Program} {μ : Mu} {F : Nat → Prop} {H : Heap} {w : World} {T : Tm} {a : Act}
theorem Cd {blk : Nat} {arr : Array Value} {ty : TypeId} {fr : Nat × Nat} (h : w.heap[blk]? = some (.cells arr ty fr)) (o : Nat) : w.cell? ⟨blk, o, none⟩ = arr[o]? := by
 simp [World.cell?, h]
theorem aj9 {blk off o : Nat} {arr : Array Value} {ty t : TypeId} {fr : Nat × Nat} {cs : List AV} {k : Option Nat} {v : AV} (h : w.heap[blk]? = some (.cells arr ty fr)) (hl : off + cs.length ≤ arr.size)
  (hv : ∀ (i : Nat) (c : AV) (v : Value), cs[i]? = some c → arr[off + i]? = some v → VR μ F w c v) (hk : iy P t = some k) (ht : pA cs o k = some v) :
  ∃ u, (loadVar t ⟨blk, off + o, none⟩).run P w = .ok u w ∧ VR μ F w v u := by
 cases k with
 | none =>
  simp only [pA] at ht
  have e : o < cs.length := (List.getElem?_eq_some_iff.1 ht).1
  have ha : arr[off + o]? = some arr[off + o] := Array.getElem?_eq_getElem (by omega)
  refine ⟨arr[off + o], ?_, hv o v _ ht ha⟩
  simp [loadVar, ag2 hk, Cd h, ha]
 | some n =>
  simp only [pA] at ht
  split at ht
  ·rename_i d
   cases ht
   obtain ⟨h1, h2⟩ := ag7 hk w
   have b := run_loadCells_list (P := P) w ⟨blk, off + o, none⟩ ((arr.toList.drop (off + o)).take n) (fun j v hj => by
    rw [uj, Cd h]
    rw [List.getElem?_take] at hj
    split at hj
    ·rw [List.getElem?_drop] at hj; simpa using hj
    ·cases hj)
   have hlen : ((arr.toList.drop (off + o)).take n).length = n := by simp; omega
   rw [hlen] at b
   refine ⟨.agg ((arr.toList.drop (off + o)).take n).toArray, by simp only [loadVar, Sem.run_bind, h1, Result.andThen_ok, if_true, h2, b, Sem.run_pure], ?_⟩
   refine .agg _ _ (by simp; omega) fun i c v hc a => ?_
   rw [List.getElem?_take] at hc
   split at hc
   ·rename_i hi
    rw [List.getElem?_drop] at hc
    refine hv _ c v hc ?_
    simp only [List.getElem?_toArray] at a
    rw [List.getElem?_take, if_pos hi, List.getElem?_drop] at a
    rw [← Nat.add_assoc]; simpa using a
   ·cases hc
  ·cases ht
theorem CH {b o : Nat} {v : Value} (h : VR μ F w (.ptr b o) v) : ∃ L, μ b = some L ∧ v = .pointer (some ⟨L.blk, o, none⟩) := by
 cases h with
 | ptr _ _ L hL => exact ⟨L, hL, rfl⟩
theorem uE (hH : HR P μ F H w) {b : Nat} {L : Loc} {cs : List AV} {ty : Nat} {rw : Bool} (hb : H.get b = some (.cells cs ty rw)) (hL : μ b = some L) :
  ∃ arr fr, w.heap[L.blk]? = some (.cells arr ty fr) ∧ arr.size = L.N ∧ (P.info? ty).map (·.size) = some L.sz ∧ cs.length ≤ arr.size ∧
   (∀ (i : Nat) (c : AV) (v : Value), cs[i]? = some c → arr[i]? = some v → VR μ F w c v) ∧ (rw = true → ¬ F L.blk ∧ fr = (0, 0)) ∧ (rw = false → True) := by
 obtain ⟨L', hL', a⟩ := hH.ent b _ hb
 rw [hL] at hL'; cases hL'
 exact a
theorem ahl {t : TypeId} {k : Option Nat} {x : AV} {c : Value} {v : AV} (hH : HR P μ F H w) (hk : iy P t = some k) (hx : VR μ F w x c)
  (h : jJ H k x = some v) : ∃ u, (Instr.loadAt t c).run P w = .ok u w ∧ VR μ F w v u := by
 cases x with
 | ptr b o =>
  obtain ⟨L, hL, rfl⟩ := CH hx
  simp only [jJ] at h
  split at h
  ·rename_i cs ty rw hb
   obtain ⟨arr, fr, h1, h2, h3, h4, h5, i, j⟩ := uE hH hb hL
   obtain ⟨u, a, hr⟩ := aj9 (o := o) (off := 0) h1 (by omega) (by simpa using h5) hk h
   refine ⟨u, ?_, hr⟩
   rw [Nat.zero_add] at a
   simp [Instr.loadAt, Instr.sureAddr, a]
  ·cases h
 | dp cs o =>
  simp only [jJ] at h
  cases hx with
  | dp _ _ blk off arr ty fr g d e f =>
   obtain ⟨u, a, hr⟩ := aj9 d e f hk h
   exact ⟨u, by simp [Instr.loadAt, Instr.sureAddr, a], hr⟩
 | _ => cases h
theorem CN (hH : HR P μ F H w) {id : Nat} (a : μ id = none) (e : id < H.next) (b : I id) {arr : Array Value} {cs : List AV} {ty sz : Nat} (hty : gz P ty = some sz)
  (d : cs.length ≤ arr.size) (hcs : ∀ (i : Nat) (c : AV) (v : Value), cs[i]? = some c → arr[i]? = some v → VR μ F w c v)
  (w1 : World) (h1 : w1.heap = w.heap) (ht : w1.tape = w.tape) (g : w1.os = w.os) (j : w1.output = w.output) :
  HR P (μ.upd id ⟨w.heap.size, arr.size, sz⟩) F (H.put id (.cells cs ty true)) (w1.alloc (.cells arr ty)) ∧ Stp I P μ F H w (μ.upd id ⟨w.heap.size, arr.size, sz⟩) F (H.put id (.cells cs ty true)) (w1.alloc (.cells arr ty)) := by
 refine XS hH a e _ _ arr.size sz (fun w' k hn f => ?_) b w1 h1 ht g j
 exact ⟨arr, (0, 0), hn, rfl, hty, d, fun i c v hc hv => (hcs i c v hc hv).mono (l8 a) (fun _ h => h) k, fun _ => ⟨f, rfl⟩, fun h => by cases h⟩
theorem ahs (t : TypeId) (v : Value) (w : World) : (newVar t v).run P w = .ok ⟨w.heap.size, 0, none⟩ (w.alloc (.cells v.cells t)) := by
 simp [newVar, newRow]
theorem yv (t : TypeId) (cs : Array Value) (w : World) : (newRow t cs).run P w = .ok ⟨w.heap.size, 0, none⟩ (w.alloc (.cells cs t)) := by
 simp [newRow]
theorem aof {t : TypeId} {z : List AV} (h : l9 P t = some z) : ∃ n, gz P t = some n := by
 simp only [l9, Option.bind_eq_bind, bN] at h
 obtain ⟨i, hi, _⟩ := h
 exact ⟨i.size, by simp [gz, hi]⟩
theorem ak1 {e : TypeId} {z : List AV} (hz : l9 P e = some z) (hH : HR P μ F H w) {id : Nat} (b : μ id = none) (d : id < H.next) (a : I id) :
  ∃ u w' μ', (Instr.alloc e true (.tuple #[])).run P w = .ok u w' ∧ Done I P μ F H w (.ptr id 0) (H.put id (.cells z e true)) u w' μ' := by
 obtain ⟨n, hn⟩ := aof hz
 obtain ⟨zv, g, f⟩ := XL hz w
 have hl := f μ F w
 obtain ⟨h1, h2⟩ := CN hH b d a hn (arr := zv.cells) (cs := z) (by have := hl.1; simp at this; omega) (fun i c v hc hv => hl.2 i c v hc (by simpa using hv)) w rfl rfl rfl rfl
 refine ⟨_, _, _, ?_, ⟨.ptr id 0 _ (upd_same id _), h1, h2⟩⟩
 simp [Instr.alloc, g, ahs]
theorem an9 {e : TypeId} {n : Nat} {x : AV} {a : Value} (hn : gz P e = some n) (hx : VR μ F w x a) (h1 : x.cells.all AV.one = true) (hH : HR P μ F H w) {id : Nat} (g : μ id = none) (h : id < H.next) (f : I id) :
  ∃ u w' μ', (Instr.box e a).run P w = .ok u w' ∧ Done I P μ F H w (.ptr id 0) (H.put id (.cells x.cells e true)) u w' μ' := by
 have hl := ais hx h1
 obtain ⟨b, d⟩ := CN hH g h f hn (arr := a.cells) (cs := x.cells) (by have := hl.1; simp at this; omega) (fun i c v hc hv => hl.2 i c v hc (by simpa using hv)) w rfl rfl rfl rfl
 refine ⟨_, _, _, ?_, ⟨.ptr id 0 _ (upd_same id _), b, d⟩⟩
 simp [Instr.box, ahs]
theorem anc (cs : List AV) (vs : List Value) (a : List AV) (nv : List Value) (o n : Nat) (hcs : ∀ (i : Nat) (c : AV) (v : Value), cs[i]? = some c → vs[i]? = some v → VR μ F w c v) (hn : LR μ F w a nv) (hlen : a.length = n)
  (d : cs.length ≤ vs.length) (e : o ≤ cs.length) :
  ∀ (i : Nat) (c : AV) (v : Value), (cs.take o ++ a ++ cs.drop (o + n))[i]? = some c → (vs.take o ++ nv ++ vs.drop (o + nv.length))[i]? = some v → VR μ F w c v := by
 intro i c v hc hv
 have b : nv.length = n := hn.1 ▸ hlen
 rw [List.append_assoc] at hc hv
 by_cases h1 : i < o
 ·rw [List.getElem?_append_left (by simp; omega), List.getElem?_take, if_pos h1] at hc
  rw [List.getElem?_append_left (by simp; omega), List.getElem?_take, if_pos h1] at hv
  exact hcs i c v hc hv
 ·rw [List.getElem?_append_right (by simp; omega)] at hc hv
  simp only [List.length_take] at hc hv
  have e1 : min o cs.length = o := by omega
  have e2 : min o vs.length = o := by omega
  rw [e1] at hc; rw [e2] at hv
  by_cases h2 : i - o < n
  ·rw [List.getElem?_append_left (by omega)] at hc hv
   exact hn.2 _ c v hc hv
  ·rw [List.getElem?_append_right (by omega)] at hc hv
   rw [List.getElem?_drop] at hc hv
   rw [hlen] at hc; rw [b] at hv
   exact hcs _ c v hc hv
theorem YJ (hH : HR P μ F H w) {b : Nat} {L : Loc} {cs : List AV} {ty : Nat} (hb : H.get b = some (.cells cs ty true)) (hL : μ b = some L) {o : Nat} {a : List AV} {nv : List Value} (hn : LR μ F w a nv) (h1 : a.all AV.one = true)
  (q : o ≤ cs.length) (p : o + a.length ≤ L.N) :
  ∃ w', (storeCells ⟨L.blk, o, none⟩ nv).run P w = .ok () w' ∧ HR P μ F (H.put b (.cells (cs.take o ++ a ++ cs.drop (o + a.length)) ty true)) w' ∧
   Stp I P μ F H w μ F (H.put b (.cells (cs.take o ++ a ++ cs.drop (o + a.length)) ty true)) w' := by
 obtain ⟨arr, fr, d, m, g, j, k, e, n⟩ := uE hH hb hL
 obtain ⟨_, rfl⟩ := e rfl
 have r := hn.1
 have f := run_storeCells_at (P := P) L.blk o ty nv 0 arr w d (by omega) (hn.one h1)
 simp only [Nat.add_zero] at f
 refine ⟨_, f, Ci hH hb rfl hL _ (fun c hc => setRow_other w _ _ _ hc) (setRow_size _ _ _) rfl rfl rfl (fun l => ?_) rfl⟩
 refine ⟨_, (0, 0), setRow_heap w L.blk arr _ ty _ d, ?_, g, ?_, ?_, fun _ => ⟨(e rfl).1, rfl⟩, fun h => by cases h⟩
 ·simp; omega
 ·simp; omega
 ·intro i c v hc hv
  refine VR.mono (fun _ _ h => h) (fun _ h => h) l (anc cs arr.toList a nv o a.length (fun i c v hc hv => k i c v hc (by simpa using hv)) hn rfl (by simpa using j) (by omega) i c v hc (by simpa using hv))
theorem af5 {t : TypeId} {n : Nat} {x y : AV} {e a : Value} {H' : Heap} (hn : gz P t = some n) (hH : HR P μ F H w) (hx : VR μ F w x e) (hy : VR μ F w y a)
  (h : pz H n x y = some H') :
  ∃ w', (Instr.storeAt t e a).run P w = .ok () w' ∧ Done I P μ F H w .undef H' undef w' μ := by
 cases x with
 | ptr b o =>
  obtain ⟨L, hL, rfl⟩ := CH hx
  simp only [pz] at h
  split at h
  ·rename_i cs ty hb
   split at h
   ·rename_i hc
    obtain ⟨c1, c2, c3⟩ := hc
    cases h
    have hl := ais hy c3
    obtain ⟨arr, fr, g, i, j, k, _⟩ := uE hH hb hL
    obtain ⟨w', f, c, d⟩ := YJ (I := I) hH hb hL (o := o) hl c3 (by omega) (by omega)
    rw [c1] at c d
    refine ⟨w', ?_, ⟨.undef _, c, d⟩⟩
    have hsz : a.cells.size = n := by have := hl.1; simp at this; omega
    simp [Instr.storeAt, Instr.sureAddr, storeVar, lH hn, hsz, f]
   ·cases h
  ·cases h
 | _ => cases h
end
end Go.Proofs.YtopigipibioclaaGreatDoor.Ev

namespace Go.Proofs.YtopigipibioclaaGreatDoor.Ev
open Go
set_option linter.all false
section
variable {I : Nat → Prop} {P : Program} {μ : Mu} {F : Nat → Prop} {H : Heap} {w : World} {T : Tm} {a : Act}
theorem YW {y : AV} {a : Value} {m : Nat} (hy : VR μ F w y a) (h : mV y = some m) : (Builtin.lenOf a).run P w = .ok m w := by
 cases y <;> simp only [mV] at h <;> first | (cases h; done) | skip
 ·cases h; cases hy; rfl
 ·cases h; cases hy; rfl
 ·cases h; cases hy <;> rfl
 ·cases h; cases hy; rfl
theorem aii {blk off n : Nat} {arr : Array Value} {ty : TypeId} {fr : Nat × Nat} {cs : List AV} (h : w.heap[blk]? = some (.cells arr ty fr)) (hl : off + cs.length ≤ arr.size)
  (hv : ∀ (i : Nat) (c : AV) (v : Value), cs[i]? = some c → arr[off + i]? = some v → VR μ F w c v) (hn : n ≤ cs.length) :
  ∃ nv : List Value, (∀ w', w'.heap = w.heap → (loadCells ⟨blk, off, none⟩ n).run P w' = .ok nv.toArray w') ∧ LR μ F w (cs.take n) nv := by
 have hlen : ((arr.toList.drop off).take n).length = n := by simp; omega
 have a : ∀ w', w'.heap = w.heap → (loadCells ⟨blk, off, none⟩ n).run P w' = .ok ((arr.toList.drop off).take n).toArray w' := by
  intro w' d
  have a := run_loadCells_list (P := P) w' ⟨blk, off, none⟩ ((arr.toList.drop off).take n) (fun j v hj => by
   rw [uj, Cd (d ▸ h)]
   rw [List.getElem?_take] at hj
   split at hj
   ·rw [List.getElem?_drop] at hj; simpa using hj
   ·cases hj)
  rw [hlen] at a
  exact a
 refine ⟨_, a, by simp; omega, fun i c v hc b => ?_⟩
 rw [List.getElem?_take] at hc b
 split at hc
 ·rename_i hi
  rw [if_pos hi, List.getElem?_drop] at b
  exact hv i c v hc (by simpa using b)
 ·cases hc
theorem Y8 {size n : Nat} {y : AV} {j : Value} {d : List AV} (hH : HR P μ F H w) (hy : VR μ F w y j) (h : py H size n y = some d) :
  d.length = n * size ∧ ∃ nv : List Value, (∀ w', w'.heap = w.heap → (Builtin.firstCells size n j).run P w' = .ok nv.toArray w') ∧ LR μ F w d nv := by
 cases y <;> simp only [py] at h <;> first | (cases h; done) | skip
 case str s =>
  split at h
  ·rename_i hc
   cases h
   cases hy
   have hsz : (s.extract 0 n).size = n := by
    have := hc.1
    simp; omega
   refine ⟨by simp only [List.length_map, hc.2, Nat.mul_one]; exact hsz, ((s.extract 0 n).data.map fun b => Value.int .u8 b.toNat).toList, fun w' _ => by simp only [Builtin.firstCells, Sem.run_pure, Array.toArray_toList], ?_⟩
   rw [Array.toList_map]
   exact LR.map _ _ _ fun b _ => .int _ _
  ·cases h
 case nilSl =>
  split at h
  ·rename_i hc
   cases h; cases hy
   exact ⟨by simp [hc], [], fun _ _ => rfl, LR.nil⟩
  ·cases h
 case sl cs m =>
  split at h
  ·rename_i hc
   cases h
   refine ⟨by rw [List.length_take]; omega, ?_⟩
   cases hy with
   | sl0 a0 cap =>
    have h0 : n * size = 0 := by have := hc.2; simp at this; simpa using this
    exact ⟨[], fun _ _ => by simp [Builtin.firstCells, h0, loadCells, loadCellsFrom], by simp; exact LR.nil⟩
   | sl _ _ _ blk off arr ty fr e f k g a => exact aii f g a hc.2
  ·cases h
 case own b off m c sz ex =>
  cases hy with
  | own _ _ _ _ _ _ L cap h1 h2 h3 h4 h5 p =>
  split at h
  ·rename_i cs ty rw hb
   split at h
   ·rename_i hc
    obtain ⟨c1, c2, c3⟩ := hc
    cases h
    obtain ⟨arr, fr, e, f, k, g, a, l, o⟩ := uE hH hb h1
    refine ⟨by simp; omega, ?_⟩
    exact aii (cs := cs.drop off) e (by simp; omega) (fun i c v hc hv => by rw [List.getElem?_drop] at hc; exact a _ c v hc hv) (by simp; omega)
   ·cases h
  ·cases h
theorem aja (a : Nat) (h : 256 ≤ a) : ∀ (r c : Nat), c ≤ 2 * a → Builtin.growBy a r c ≤ 2 * a
 | 0, c, hc => hc
 | r + 1, c, hc => by
  unfold Builtin.growBy
  split
  ·exact hc
  ·exact aja a h r _ (by omega)
theorem ag3 {need cap : Nat} (h : cap < need) : Builtin.nextslicecap need cap ≤ 2 * need := by
 unfold Builtin.nextslicecap
 split
 ·omega
 ·split
  ·omega
  ·exact aja need (by omega) 4 cap (by omega)
theorem Yp (z : Array Value) (n : Nat) : (Builtin.zeroCells z n).size = n * z.size := by simp [Builtin.zeroCells]
def Plain (P : Program) (a : TypeId) : Prop := (∃ e, P.underlying a = some (.slice e)) ∨ P.underlying a = some .string
theorem aou {t c e ty : TypeId} {size n m cap : Nat} {base : Option Addr} {b : Value} {nv : Array Value}
  (ht : P.underlying t = some (.slice e)) (hs : gz P e = some size) (hx : Plain P c) (hl : (Builtin.lenOf b).run P w = .ok m w) (hf : (Builtin.firstCells size m b).run P w = .ok nv w)
  (d : n + m ≤ cap) :
  (Builtin.append_ #[t, c] ty #[.slice base n cap, b]).run P w = ((match base with | some a => storeCells (a.add (n * size)) nv.toList | none => pure () : Sem Unit).run P w).andThen fun _ w' => .ok (.slice base (n + m) cap) w' := by
 unfold Builtin.append_
 rcases hx with ⟨e', hx⟩ | hx <;>
 ·simp only [List.getElem?_toArray, List.getElem?_cons_zero, List.getElem?_cons_succ, Sem.run_bind, run_underlying ht, Result.andThen_ok, lH hs, run_underlying hx, Sem.run_pure, Bool.false_eq_true, if_false, hl, Bool.not_false, if_true, d, hf]
  cases base <;> simp
theorem amk {t d e ty : TypeId} {size bytes n m cap : Nat} {base : Option Addr} {a : Value} {nv b : Array Value} {i : TypeInfo} {zv : Value}
  (ht : P.underlying t = some (.slice e)) (hs : gz P e = some size) (hi : P.info? e = some i) (g : i.bytes = bytes) (hz : i.zero = some zv) (hx : Plain P d) (hl : (Builtin.lenOf a).run P w = .ok m w)
  (hf : ∀ w', w'.heap = w.heap → (Builtin.firstCells size m a).run P w' = .ok nv w') (k : ∀ w', w'.heap = w.heap → (Builtin.firstCells size n (.slice base n cap)).run P w' = .ok b w')
  (h : ¬ n + m ≤ cap) (hb : (n + m) * bytes ≤ 2 ^ 46) (hn : n + m < 2 ^ 62) :
  ∃ cap', n + m ≤ cap' ∧ (Builtin.append_ #[t, d] ty #[.slice base n cap, a]).run P w =
   .ok (.slice (some ⟨w.heap.size, 0, none⟩) (n + m) cap') (({ w with drawn := w.drawn + 1 } : World).alloc (.cells (b ++ nv ++ Builtin.zeroCells zv.cells (cap' - (n + m))) e)) := by
 have j : ¬ Builtin.nextslicecap (n + m) cap * i.bytes > 2 ^ 48 := by
  have h1 := ag3 (need := n + m) (cap := cap) (by omega)
  have h2 : Builtin.nextslicecap (n + m) cap * bytes ≤ 2 * (n + m) * bytes := Nat.mul_le_mul_right _ h1
  rw [Nat.mul_assoc] at h2
  rw [g]; omega
 have hmax : ¬ ((↑(n + m) : Int) > IntKind.i64.max ∧ (False ∨ i.bytes = 0)) := by
  rintro ⟨h1, _⟩
  have : IntKind.i64.max = 9223372036854775807 := by decide
  rw [this] at h1
  omega
 refine ⟨(Question.appendCap (n + m) cap e).cut (w.tape w.drawn (Question.appendCap (n + m) cap e)), by simp [Question.cut], ?_⟩
 have hq : (choose (Question.appendCap (n + m) cap e)).run P w = .ok ((Question.appendCap (n + m) cap e).cut (w.tape w.drawn (Question.appendCap (n + m) cap e))) { w with drawn := w.drawn + 1 } := by
  rw [run_choose, if_neg (by simp [Question.forced])]
 have f := hf { w with drawn := w.drawn + 1 } rfl
 have l := k { w with drawn := w.drawn + 1 } rfl
 generalize (Question.appendCap (n + m) cap e).cut (w.tape w.drawn (Question.appendCap (n + m) cap e)) = c at hq
 unfold Builtin.append_
 rcases hx with ⟨e', hx⟩ | hx <;>
 ·simp only [List.getElem?_toArray, List.getElem?_cons_zero, List.getElem?_cons_succ, Sem.run_bind, run_underlying ht, Result.andThen_ok, lH hs, run_underlying hx, Sem.run_pure, Bool.false_eq_true, if_false, hl, Bool.not_false, if_true, h,
   xJ hi, hmax, j, hq, run_askRoom, l, f, zeroValue, hz, yv]
theorem ajd (hH : HR P μ F H w) {b : Nat} {cs : List AV} {ty : Nat} {rw : Bool} (hb : H.get b = some (.cells cs ty rw)) (k : Nat) : HR P μ F (H.put b (.cells (cs.take k) ty rw)) w := by
 refine ⟨hH.dom, hH.fb, ?_, ?_, hH.gl⟩
 ·intro x e h
  rw [Heap.get_put] at h
  split at h
  ·rename_i ex; subst ex; cases h
   obtain ⟨L, hL, q⟩ := hH.ent _ _ hb
   obtain ⟨arr, fr, h1, h2, h3, h4, h5, o, p⟩ := q
   refine ⟨L, hL, arr, fr, h1, h2, h3, by simp; omega, fun i c v hc hv => ?_, o, p⟩
   rw [List.getElem?_take] at hc
   split at hc
   ·exact h5 i c v hc hv
   ·cases hc
  ·exact hH.ent x e h
 ·intro x y e1 e2 a d h1 h2 r s hblk
  rw [Heap.get_put] at h1 h2
  have g : ∀ z e, (if z = b then some (Ent.cells (cs.take k) ty rw) else H.get z) = some e → ∃ e', H.get z = some e' := by
   intro z e h
   split at h
   ·rename_i f; subst f; exact ⟨_, hb⟩
   ·exact ⟨_, h⟩
  obtain ⟨j, m⟩ := g x e1 h1
  obtain ⟨l, n⟩ := g y e2 h2
  exact hH.inj x y j l a d m n r s hblk
theorem HR.congr {H1 H2 : Heap} (h : HR P μ F H1 w) (hn : H1.next = H2.next) (hg : ∀ x, H1.get x = H2.get x) : HR P μ F H2 w :=
 ⟨fun b L hb => hn ▸ h.dom b L hb, h.fb, fun b e hb => h.ent b e (by rw [hg]; exact hb), fun b b' e e' L L' h1 h2 => h.inj b b' e e' L L' (by rw [hg]; exact h1) (by rw [hg]; exact h2), h.gl⟩
theorem Stp.congr {μ' : Mu} {F' : Nat → Prop} {w' : World} {H1 H2 : Heap} (h : Stp I P μ F H w μ' F' H1 w') (hn : H1.next = H2.next) (hg : ∀ x e, H2.get x = some e → ∃ e', H1.get x = some e' ∧ e'.rw = e.rw) : Stp I P μ F H w μ' F' H2 w' :=
 ⟨h.mu, h.fr, h.size, h.keep, fun b L ⟨e, he, hr⟩ hL => h.rw b L (let ⟨e', h1, h2⟩ := hg b e he; ⟨e', h1, h2.trans hr⟩) hL, hn ▸ h.next, h.new, h.rng, fun b e hb hl hi => let ⟨e', h1, _⟩ := hg b e hb; h.old b e' h1 hl hi, fun b e L hb hL => let ⟨e', h1, _⟩ := hg b e hb; h.alv b e' L h1 hL, h.tape, h.os, h.out⟩
theorem aeg {e id size bytes m : Nat} {x v : AV} {C : Value} {d : List AV} {nv : Array Value} {zv : Value} {fr : Option Nat} {H' : Heap} {A : Sem Value}
  (hH : HR P μ F H w) (R : μ id = none) (B : id < H.next) (Q : I id) (hs : gz P e = some size) (al : zv.cells.size = size)
  (hx : VR μ F w x C) (E : LR μ F w d nv.toList) (hlen : d.length = m * size) (h : Ce H id size bytes e x m d fr = some (v, H'))
  (D : ∀ base n cap, C = .slice base n cap → n + m ≤ cap → A.run P w = ((match base with | some a => storeCells (a.add (n * size)) nv.toList | none => pure () : Sem Unit).run P w).andThen fun _ w' => .ok (.slice base (n + m) cap) w')
  (K : ∀ base n cap f, C = .slice base n cap → ¬ n + m ≤ cap → (n + m) * bytes ≤ 2 ^ 46 → n + m < 2 ^ 62 → (∀ w', w'.heap = w.heap → (Builtin.firstCells size n C).run P w' = .ok f w') →
   ∃ cap', n + m ≤ cap' ∧ A.run P w = .ok (.slice (some ⟨w.heap.size, 0, none⟩) (n + m) cap') (({ w with drawn := w.drawn + 1 } : World).alloc (.cells (f ++ nv ++ Builtin.zeroCells zv.cells (cap' - (n + m))) e))) :
  ∃ u w' μ', A.run P w = .ok u w' ∧ Done I P μ F H w v H' u w' μ' := by
 have G : nv.size = m * size := by have := E.1; simp at this; omega
 -- what a new block comes to
 have grow : ∀ (H0 : Heap) (n : Nat) (f : Array Value) (r : List AV) (cap' : Nat), HR P μ F H0 w → id < H0.next → LR μ F w r f.toList → r.length = n * size → n + m ≤ cap' →
   A.run P w = .ok (.slice (some ⟨w.heap.size, 0, none⟩) (n + m) cap') (({ w with drawn := w.drawn + 1 } : World).alloc (.cells (f ++ nv ++ Builtin.zeroCells zv.cells (cap' - (n + m))) e)) →
   ∃ u w' μ', A.run P w = .ok u w' ∧ Done I P μ F H0 w (.own id 0 (n + m) (n + m) size false) (H0.put id (.cells (r ++ d) e true)) u w' μ' := by
  intro H0 n f r cap' ab ah S q hc g
  have M : f.size = n * size := by have := S.1; simp at this; omega
  have ad := S.append E
  have ae : (f ++ nv ++ Builtin.zeroCells zv.cells (cap' - (n + m))).size = cap' * size := by
   simp only [Array.size_append, M, G, Yp, al]
   rw [← Nat.add_mul, ← Nat.add_mul]; congr 1; omega
  obtain ⟨j, l⟩ := CN ab R ah Q (sz := size) (arr := f ++ nv ++ Builtin.zeroCells zv.cells (cap' - (n + m))) (cs := r ++ d) hs
   (by simp only [Array.size_append, List.length_append, q, hlen, M, G]; omega)
   (fun i c u hc U => by
    have hi : i < (r ++ d).length := (List.getElem?_eq_some_iff.1 hc).1
    simp only [List.length_append, q, hlen] at hi
    rw [Array.getElem?_append_left (by simp only [Array.size_append, M, G]; omega)] at U
    exact ad.2 i c u hc (by rw [← Array.toList_append, Array.getElem?_toList]; exact U)) { w with drawn := w.drawn + 1 } rfl rfl rfl rfl
  refine ⟨_, _, _, g, ⟨?_, j, l⟩⟩
  exact .own id 0 (n + m) (n + m) size false _ cap' (upd_same id _) rfl (Nat.le_refl _) hc (fun h => by cases h) (by rw [Nat.zero_add]; exact Nat.le_of_eq ae.symm)
 unfold Ce at h
 cases x with
 | nilSl =>
  simp only at h
  cases hx
  split at h
  ·rename_i hm
   subst hm
   cases h
   have := D none 0 0 rfl (Nat.le_refl _)
   exact ⟨_, w, μ, this, ⟨.nilSl, hH, Stp.refl _ _ _ _ _ _⟩⟩
  ·rename_i hm
   split at h
   ·rename_i hc
    cases h
    obtain ⟨cap', t, g⟩ := K none 0 0 #[] rfl (by omega) (by simpa using hc.1) (by simpa using hc.2) (fun _ _ => rfl)
    have := grow H 0 #[] [] cap' hH B LR.nil (by simp) t g
    simpa using this
   ·cases h
 | own b off n c sz ex =>
  simp only at h
  cases hx with
  | own _ _ _ _ _ _ L cap h1 h2 h3 h4 h5 s =>
  split at h
  ·rename_i cs y rw hb
   split at h
   ·rename_i hc
    obtain ⟨c1, c2, c3, c4, c5⟩ := hc
    subst c1; subst c4
    obtain ⟨arr, am, Y, g2, g3, g4, Z, g6, g7⟩ := uE hH hb h1
    have af : ∀ k, k ≤ cap → off + k * sz ≤ L.N := fun k hk => Nat.le_trans (Nat.add_le_add_left (Nat.mul_le_mul_right _ hk) _) s
    -- in place
    have V : n + m ≤ cap → rw = true → d.all AV.one = true → ∃ w', A.run P w = .ok (.slice (some ⟨L.blk, off, none⟩) (n + m) cap) w' ∧
      HR P μ F (H.put b (.cells (cs.take (off + n * sz) ++ d ++ cs.drop (off + n * sz + m * sz)) y rw)) w' ∧ Stp I P μ F H w μ F (H.put b (.cells (cs.take (off + n * sz) ++ d ++ cs.drop (off + n * sz + m * sz)) y rw)) w' := by
     intro p ak aa
     subst ak
     have hN := af (n + m) p
     rw [Nat.add_mul] at hN
     obtain ⟨w', g, j, l⟩ := YJ (I := I) hH hb h1 (o := off + n * sz) E aa c5 (by omega)
     rw [hlen] at j l
     refine ⟨w', ?_, j, l⟩
     rw [D _ n cap rfl p]
     simp only [uj, g, Result.andThen_ok]
    obtain ⟨f, T, J⟩ := aii (P := P) (off := off) (cs := cs.drop off) (n := n * sz) Y (by rw [List.length_drop]; omega) (fun i c v hc hv => by rw [List.getElem?_drop] at hc; exact Z _ c v hc hv) (by rw [List.length_drop]; omega)
    have q : ((cs.drop off).take (n * sz)).length = n * sz := by rw [List.length_take, List.length_drop]; omega
    split at h
    ·rename_i ai
     split at h
     ·rename_i hm
      cases h
      subst hm
      have := D _ n cap rfl (by omega)
      have aj : nv.toList = [] := by
        have : nv.size = 0 := by omega
        simpa using this
      simp only [aj, storeCells, Sem.run_pure, Result.andThen_ok] at this
      exact ⟨_, w, μ, this, ⟨.own b off n c sz ex L cap h1 h2 h3 h4 h5 s, hH, Stp.refl _ _ _ _ _ _⟩⟩
     ·split at h
      ·rename_i z
       cases h
       obtain ⟨w', g, j, l⟩ := V (by omega) z.1 z.2
       exact ⟨_, w', μ, g, ⟨.own b off (n + m) c sz ex L cap h1 h2 (by omega) h4 h5 s, j, l⟩⟩
      ·cases h
    ·rename_i ai
     split at h
     ·rename_i ag
      cases h
      have ao := h5 ag
      obtain ⟨cap', t, g⟩ := K _ n cap f.toArray rfl (by omega) c2 c3 T
      exact grow H n f.toArray _ cap' hH B (by simpa using J) q t g
     ·split at h
      ·rename_i z
       obtain ⟨e1, e2, e3, X⟩ := z
       cases h
       subst e1
       by_cases p : n + m ≤ cap
       ·obtain ⟨w', g, j, l⟩ := V p e2 X
        subst e2
        have W := ajd j (by rw [Heap.get_put, if_pos rfl]) (n * sz + m * sz)
        have ht : ((cs.take (0 + n * sz) ++ d ++ cs.drop (0 + n * sz + m * sz)).take (n * sz + m * sz)) = cs.take (n * sz) ++ d := by
         rw [Nat.zero_add, List.take_append_of_le_length (by simp; omega), List.take_of_length_le (by simp; omega)]
        rw [ht] at W
        obtain ⟨q4, q5⟩ := ae4 (I := I) W (b := b) (id := id) (L := L) (by rw [Heap.get_put, if_pos rfl]) h1 R B Q
        refine ⟨_, w', μ.upd id L, g, ⟨?_, ?_, ?_⟩⟩
        ·exact .own id 0 (n + m) (n + m) sz false L cap (upd_same id _) h2 (Nat.le_refl _) p (fun h => by cases h) (by rw [Nat.zero_add] at s ⊢; exact s)
        ·refine q4.congr rfl fun x => ?_
         simp only [Heap.get_put, Heap.get_kill]
         split
         ·rfl
         ·split
          ·rfl
          ·rfl
        ·have q6 : Stp I P μ F H w μ F ((H.put b (.cells (cs.take (0 + n * sz) ++ d ++ cs.drop (0 + n * sz + m * sz)) y true)).put b (.cells (cs.take (n * sz) ++ d) y true)) w' :=
          l.congr rfl (fun x e he => by
           rw [Heap.get_put] at he
           split at he
           ·rename_i ex; subst ex; cases he; exact ⟨.cells (cs.take (0 + n * sz) ++ d ++ cs.drop (0 + n * sz + m * sz)) y true, by rw [Heap.get_put, if_pos rfl], rfl⟩
           ·exact ⟨e, he, rfl⟩)
         refine (q6.trans q5).congr rfl fun x e he => ⟨e, ?_, rfl⟩
         simp only [Heap.get_put, Heap.get_kill] at he ⊢
         split at he
         ·rename_i hx; rw [if_pos hx]; exact he
         ·rename_i hx
          rw [if_neg hx]
          split at he
          ·cases he
          ·rename_i N; rw [if_neg N, if_neg N, if_neg N]; exact he
       ·obtain ⟨cap', t, g⟩ := K _ n cap f.toArray rfl p c2 c3 T
        obtain ⟨j, l⟩ := aev (I := I) hH b
        rw [List.drop_zero] at J q
        obtain ⟨u, w', μ', r1, O⟩ := grow (H.kill b) n f.toArray (cs.take (n * sz)) cap' j B (by simpa using J) q t g
        exact ⟨u, w', μ', r1, ⟨O.val, O.heap, l.trans O.stp⟩⟩
      ·cases h
   ·cases h
  ·cases h
 | _ => cases h
end
end Go.Proofs.YtopigipibioclaaGreatDoor.Ev

namespace Go.Proofs.YtopigipibioclaaGreatDoor.Ev
open Go
set_option linter.all false
section
variable {I : Nat → Prop} {P : Program} {μ : Mu} {F : Nat → Prop} {H : Heap} {w : World} {T : Tm} {a : Act}
theorem anu {α : Type} [Inhabited α] (z : Array α) (n : Nat) : ((List.range (n * z.size)).map fun i => z[i % z.size]!) = (List.replicate n z.toList).flatten := by
 induction n with
 | zero => simp
 | succ n ih =>
  rw [Nat.add_mul, Nat.one_mul, Nat.add_comm, List.range_add, List.map_append, List.replicate_succ, List.flatten_cons, ← ih]
  congr 1
  ·apply List.ext_getElem
   ·simp
   ·intro i h1 h2
    simp at h1
    simp [Nat.mod_eq_of_lt h1, h1]
  ·rw [List.map_map]
   apply List.map_congr_left
   intro i _
   simp [Nat.add_mod_left]
theorem LR.rep {z : List AV} {zs : List Value} (h : LR μ F w z zs) : ∀ n, LR μ F w ((List.replicate n z).flatten) ((List.replicate n zs).flatten)
 | 0 => LR.nil
 | n + 1 => by
  rw [List.replicate_succ, List.replicate_succ, List.flatten_cons, List.flatten_cons]
  exact h.append (h.rep n)
theorem Zd {z : Array Value} (N n : Nat) (h : N = n * z.size) : ((Array.range N).map fun i => z[i % z.size]!).toList = (List.replicate n z.toList).flatten := by
 subst h
 rw [Array.toList_map, Array.toList_range]
 exact anu z n
theorem afe {t e : TypeId} {n len : Nat} {z cs : List AV} {parts : List (Nat × Operand)} {ps : List ((Nat × Nat) × Src)} (hT : LR μ F w T a.tmps.toList)
  (ht : P.underlying t = some (.slice e)) (hs : gz P e = some n) (hz : l9 P e = some z) (B : z.length = n) (G : len * n ≤ 2 ^ 24)
  (s : (parts.mapM fun (p : Nat × Operand) => (do some ((p.1 * n, n), (← cH p.2)) : Option ((Nat × Nat) × Src))) = some ps) (hf : iV ((List.replicate len z).flatten) (ps.map fun p => (p.1, p.2.ev T)) = some cs)
  (hH : HR P μ F H w) {id : Nat} (m : μ id = none) (o : id < H.next) (j : I id) :
  ∃ u w' μ', (Instr.buildSlice t len (parts.toArray.map fun p => (p.1, a.eval p.2))).run P w = .ok u w' ∧ Done I P μ F H w (.own id 0 len len n true) (H.put id (.cells cs e true)) u w' μ' := by
 obtain ⟨zv, C, f⟩ := XL hz w
 have g : zv.cells.size = n := by have := (f μ F w).1; simp at this; omega
 have x := (f μ F w).rep len
 have k : ∃ b : Array Value, ((len * n = 0 ∧ b = #[]) ∨ (len * n ≠ 0 ∧ b = zv.cells)) ∧ ((Array.range (len * n)).map fun i => b[i % b.size]!).toList = (List.replicate len zv.cells.toList).flatten := by
  by_cases h0 : len * n = 0
  ·refine ⟨#[], .inl ⟨h0, rfl⟩, ?_⟩
   rw [h0]
   have : (List.replicate len zv.cells.toList).flatten.length = 0 := by simp [g, h0]
   simp only [List.length_eq_zero_iff] at this
   rw [this]; simp
  ·refine ⟨zv.cells, .inr ⟨h0, rfl⟩, ?_⟩
   exact Zd _ _ (by rw [g])
 obtain ⟨b, y, A⟩ := k
 obtain ⟨vs, d, hr⟩ := aj8 hT (fun i => some (i * n, n)) parts ps _ ((Array.range (len * n)).map fun i => b[i % b.size]!) cs s (by rw [A]; exact x) hf
 have hlen := hr.1
 simp at hlen
 have J : vs.size = len * n := by
  have key : ∀ (l : List ((Nat × Nat) × AV)) (z cs : List AV), iV z l = some cs → cs.length = z.length := by
   intro l
   induction l with
   | nil => intro z cs h; cases h; rfl
   | cons p l ih =>
    intro z cs h
    obtain ⟨⟨off, size⟩, v⟩ := p
    simp only [iV] at h
    split at h
    ·rename_i hc
     rw [ih _ _ h]
     simp; omega
    ·cases h
  have := key _ _ _ hf
  simp [B] at this
  omega
 obtain ⟨D, E⟩ := CN hH m o j (arr := vs) (cs := cs) hs (by omega) (fun i c v hc hv => hr.2 i c v hc (by simpa using hv)) w rfl rfl rfl rfl
 refine ⟨_, _, _, ?_, ⟨.own id 0 len len n true _ len (upd_same id _) rfl (Nat.le_refl _) (Nat.le_refl _) (fun _ => rfl) (by simp; omega), D, E⟩⟩
 have q : ¬ len * n > 2 ^ 24 := by omega
 unfold Instr.buildSlice
 have r : (parts.toArray.map fun p => (p.1, a.eval p.2)).toList = parts.map fun p => (p.1, a.eval p.2) := by simp
 simp only [Sem.run_bind, run_underlying ht, Result.andThen_ok, lH hs, q, if_false, r]
 rcases y with ⟨h0, rfl⟩ | ⟨h0, rfl⟩
 ·rw [if_pos h0]
  simp only [Sem.run_bind, Sem.run_pure, Result.andThen_ok, d, yv]
 ·rw [if_neg h0]
  simp only [Sem.run_bind, Sem.run_pure, Result.andThen_ok, C, d, yv]
theorem Yr {c : Nat} (h : c < 2 ^ 63) : IntKind.i64.wrap (c : Int) = c := by
 have e : IntKind.i64.wrap (c : Int) = (if IntKind.i64.signed && decide ((c : Int) % (2 ^ IntKind.i64.bits : Int) ≥ (2 ^ (IntKind.i64.bits - 1) : Int)) then (c : Int) % (2 ^ IntKind.i64.bits : Int) - (2 ^ IntKind.i64.bits : Int) else (c : Int) % (2 ^ IntKind.i64.bits : Int)) := rfl
 have h1 : (c : Int) % (2 ^ IntKind.i64.bits : Int) = c := by
  have : (2 ^ IntKind.i64.bits : Int) = 18446744073709551616 := by decide
  rw [this]; omega
 rw [e, h1]
 have h2 : ¬ (c : Int) ≥ (2 ^ (IntKind.i64.bits - 1) : Int) := by
  have : (2 ^ (IntKind.i64.bits - 1) : Int) = 9223372036854775808 := by decide
  rw [this]; omega
 simp [h2]
theorem am6 {t e : TypeId} {size bytes l c : Nat} {z : List AV} {h g : Value} {C kc : IntKind}
  (ht : P.underlying t = some (.slice e)) (hs : gz P e = some size) (hb : qP P e = some bytes) (hz : l9 P e = some z) (A : z.length = size)
  (hl : h = .int C (l : Int)) (hc : g = .int kc (c : Int)) (q : l ≤ c) (J : bytes * c ≤ 2 ^ 47) (k : c < 2 ^ 63)
  (hH : HR P μ F H w) {id : Nat} (p : μ id = none) (r : id < H.next) (j : I id) :
  ∃ u w' μ', (Instr.makeSlice t h g).run P w = .ok u w' ∧ Done I P μ F H w (.own id 0 l c size true) (H.put id (.cells ((List.replicate c z).flatten) e true)) u w' μ' := by
 obtain ⟨zv, B, d⟩ := XL hz w
 have f : zv.cells.size = size := by have := (d μ F w).1; simp at this; omega
 have s := (d μ F w).rep c
 have m : ∃ a : Array Value, ((c * size = 0 ∧ a = #[]) ∨ (c * size ≠ 0 ∧ a = zv.cells)) ∧ ((Array.range (c * size)).map fun i => a[i % a.size]!).toList = (List.replicate c zv.cells.toList).flatten := by
  by_cases h0 : c * size = 0
  ·refine ⟨#[], .inl ⟨h0, rfl⟩, ?_⟩
   rw [h0]
   have : (List.replicate c zv.cells.toList).flatten.length = 0 := by simp [f, h0]
   simp only [List.length_eq_zero_iff] at this
   rw [this]; simp
  ·refine ⟨zv.cells, .inr ⟨h0, rfl⟩, ?_⟩
   exact Zd _ _ (by rw [f])
 obtain ⟨a, x, y⟩ := m
 obtain ⟨i, hi, o⟩ := ao4 hb w
 have b : ((Array.range (c * size)).map fun i => a[i % a.size]!).size = c * size := by simp
 obtain ⟨D, E⟩ := CN hH p r j (arr := (Array.range (c * size)).map fun i => a[i % a.size]!) (cs := (List.replicate c z).flatten) hs (by rw [b]; simp [A])
  (fun i c v hc hv => s.2 i c v hc (by rw [← y, Array.getElem?_toList]; exact hv)) w rfl rfl rfl rfl
 refine ⟨_, _, _, ?_, ⟨.own id 0 l c size true _ c (upd_same id _) rfl q (Nat.le_refl _) (fun _ => rfl) (by show 0 + c * size ≤ _; rw [Nat.zero_add]; exact Nat.le_of_eq b.symm), D, E⟩⟩
 subst hl; subst hc
 unfold Instr.makeSlice
 have e1 := Yr (c := c) k
 have e2 := Yr (c := l) (by omega)
 have G : ¬ ((c : Int) < 0 ∨ (bytes : Int) * (c : Int) > 2 ^ 48) := by
  have : ((bytes * c : Nat) : Int) = (bytes : Int) * (c : Int) := by simp
  rw [← this]; omega
 simp only [Sem.run_bind, run_underlying ht, Result.andThen_ok, asInt, asIntOf, Sem.run_pure, hi, o, e1, e2]
 have n : ¬ (((decide ((c : Int) < 0) || decide ((bytes : Int) * (c : Int) > 2 ^ 48)) || decide ((l : Int) < 0) || decide ((l : Int) > (c : Int))) = true) := by
  simp; omega
 rw [if_neg n]
 simp only [Sem.run_bind, run_askRoom, Result.andThen_ok, lH hs, Int.toNat_natCast]
 rcases x with ⟨h0, rfl⟩ | ⟨h0, rfl⟩
 ·rw [if_pos h0]
  simp only [Sem.run_bind, Sem.run_pure, Result.andThen_ok, yv]
 ·rw [if_neg h0]
  simp only [Sem.run_bind, Sem.run_pure, Result.andThen_ok, B, yv]
end
end Go.Proofs.YtopigipibioclaaGreatDoor.Ev
