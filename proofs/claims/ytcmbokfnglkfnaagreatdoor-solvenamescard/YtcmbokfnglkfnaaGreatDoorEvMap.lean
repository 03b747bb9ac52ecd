/- The evaluator, a part. -/
import Derived.Test.YtcmbokfnglkfnaaGreatDoorEvHeap
import Derived.Laws.BytesString
namespace Go.Proofs.YtcmbokfnglkfnaaGreatDoor.Ev
open Go
set_option linter.all false
section
variable {I : Nat → Prop} {P : Program} {μ : Mu} {F : Nat → Prop} {H : Heap} {w : World} {T : Tm} {a : Act}
theorem ba_eq (a b : ByteArray) (h : (a == b) = true) : a = b := by
 obtain ⟨x⟩ := a; obtain ⟨y⟩ := b
 have : (x == y) = true := h
 have := eq_of_beq this
 rw [this]
theorem ba_refl (a : ByteArray) : (a == a) = true := by
 obtain ⟨x⟩ := a
 show (x == x) = true
 exact beq_self_eq_true x
def KD (d : TypeDesc) (kd : BK) : Prop := (∃ j, d = .int j ∧ kd = .int) ∨ (d = .string ∧ kd = .str)
theorem key_kd {t : TypeId} {kd : BK} (h1 : keyOk P t = true) (h2 : abo P t = some kd) : ∃ d, P.underlying t = some d ∧ KD d kd := by
 unfold keyOk at h1
 unfold abo at h2
 split at h1
 ·rename_i j hj; rw [hj] at h2; cases h2; exact ⟨_, hj, .inl ⟨j, rfl, rfl⟩⟩
 ·rename_i hj; rw [hj] at h2; cases h2; exact ⟨_, hj, .inr ⟨rfl, rfl⟩⟩
 ·cases h1
theorem afo {t : TypeId} {d : TypeDesc} {kd : BK} {k : AV} {vk : Value} (hd : P.underlying t = some d) (hk : KD d kd) (hv : VR μ F w k vk) (hf : abm kd k = true) (b : Bool) : (Instr.checkKey b 10000 t vk).run P w = .ok () w := by
 show (Instr.checkKey b (9999 + 1) t vk).run P w = .ok () w
 unfold Instr.checkKey
 rcases hk with ⟨j, rfl, rfl⟩ | ⟨rfl, rfl⟩
 ·simp only [Sem.run_bind, run_underlying hd, Result.andThen_ok]
  cases k <;> simp [abm] at hf
  cases hv; rfl
 ·simp only [Sem.run_bind, run_underlying hd, Result.andThen_ok]
  cases k <;> simp [abm] at hf
  cases hv; rfl
theorem amn {d : TypeDesc} {kd : BK} {k k' : AV} {vk vk' : Value} {b : Bool} (hk : KD d kd) (hv : VR μ F w k vk) (hv' : VR μ F w k' vk') (hf : abm kd k = true) (h : aek k k' = some b) :
  Instr.sameNow d vk vk' = some b ∧ (b = true → Instr.sameBits 10000 vk' vk = true) := by
 rcases hk with ⟨j, rfl, rfl⟩ | ⟨rfl, rfl⟩
 ·cases k <;> simp [abm] at hf
  cases k' <;> simp [aek] at h
  obtain ⟨e, h⟩ := h
  cases hv; cases hv'
  subst e
  refine ⟨by simp [Instr.sameNow, h], fun hb => ?_⟩
  subst hb
  have h := eq_of_beq h
  subst h
  simp [Instr.sameBits]
 ·cases k <;> simp [abm] at hf
  cases k' <;> simp [aek] at h
  cases hv; cases hv'
  refine ⟨by simp [Instr.sameNow, h], fun hb => ?_⟩
  subst hb
  have h := ba_eq _ _ h
  subst h
  simp [Instr.sameBits, ba_refl]
theorem ak8 {d : TypeDesc} {kd : BK} {k : AV} {vk : Value} (hk : KD d kd) (hv : VR μ F w k vk) (hf : abm kd k = true) : ∀ (es : List (AV × AV)) (xs : List MapEntry) (i : Nat), LR μ F w (es.map (·.1)) (xs.map (·.key)) → LR μ F w (es.map (·.2)) (xs.map (·.val)) →
  (findE k es = some none → Instr.findNow d vk xs i = some none ∧ ∀ v, updE k v es = es ++ [(k, v)]) ∧
  (∀ x, findE k es = some (some x) → ∃ j e, xs[j]? = some e ∧ Instr.findNow d vk xs i = some (some (i + j, e.val)) ∧ VR μ F w x e.val ∧ Instr.sameBits 10000 e.key vk = true ∧ ∀ v, updE k v es = es.set j (k, v))
 | [], [], i, _, _ => ⟨fun _ => ⟨rfl, fun _ => rfl⟩, fun x h => by simp [findE] at h⟩
 | [], _ :: _, _, h, _ => by have := h.1; simp at this
 | _ :: _, [], _, h, _ => by have := h.1; simp at this
 | (k', v') :: es, e :: xs, i, h1, h2 => by
  have hk1 := h1.head
  have hv1 := h2.head
  obtain ⟨ih1, ih2⟩ := ak8 hk hv hf es xs (i + 1) h1.tail h2.tail
  simp only [findE, updE, Instr.findNow]
  cases hs : aek k k' with
  | none => exact ⟨fun h => by simp at h, fun x h => by simp at h⟩
  | some b =>
   obtain ⟨hn, hb⟩ := amn hk hv hk1 hf hs
   rw [hn]
   cases b with
   | true =>
    refine ⟨fun h => by simp at h, fun x h => ?_⟩
    simp at h; subst h
    exact ⟨0, e, rfl, by simp, hv1, hb rfl, fun v => rfl⟩
   | false =>
    simp only
    refine ⟨fun h => ⟨(ih1 h).1, fun v => by rw [(ih1 h).2 v]; rfl⟩, fun x h => ?_⟩
    obtain ⟨j, e', g1, g2, g3, g4, g5⟩ := ih2 x h
    exact ⟨j + 1, e', by simpa using g1, by rw [g2]; congr 3; omega, g3, g4, fun v => by rw [g5 v]; rfl⟩
theorem ab2 {L : Loc} {xs : Array MapEntry} {c : Nat} (h : w.heap[L.blk]? = some (.map xs c)) : (getObj L.blk).run P w = .ok (.map xs c) w := by
 simp [getObj, Sem.run, h]
theorem ag7 {L : Loc} {xs : Array MapEntry} {c : Nat} (h : w.heap[L.blk]? = some (.map xs c)) (o : Obj) : (setObj L.blk o).run P w = .ok () (w.putObj L.blk o) := by
 simp [setObj, Sem.run, h, World.putObj]
theorem mapEs_ok {x : AV} {vx : Value} {es : List (AV × AV)} (hH : HR P μ F H w) (hx : VR μ F w x vx) (h : mapEs H x = some es) :
  ∃ xs : Array MapEntry, LR μ F w (es.map (·.1)) (xs.toList.map (·.key)) ∧ LR μ F w (es.map (·.2)) (xs.toList.map (·.val)) ∧ ((vx = .map none ∧ xs = #[]) ∨ ∃ (L : Loc) (c : Nat), vx = .map (some L.blk) ∧ w.heap[L.blk]? = some (.map xs c)) := by
 cases x <;> simp only [mapEs] at h <;> first | (cases h; done) | skip
 ·cases h; cases hx; exact ⟨#[], LR.nil, LR.nil, .inl ⟨rfl, rfl⟩⟩
 ·rename_i b
  split at h
  ·rename_i es' hb
   cases h
   cases hx with
   | map _ L hL =>
   obtain ⟨L', hL', hE⟩ := hH.ent b _ hb
   rw [hL] at hL'; cases hL'
   obtain ⟨_, xs, c, g1, g2, g3, _⟩ := hE
   exact ⟨xs, g2, g3, .inr ⟨L, c, rfl, g1⟩⟩
  ·rename_i es' hb
   cases h
   cases hx with
   | map _ L hL =>
   obtain ⟨L', hL', hE⟩ := hH.ent b _ hb
   rw [hL] at hL'; cases hL'
   obtain ⟨xs, c, g1, g2, g3, _⟩ := hE
   exact ⟨xs, g2, g3, .inr ⟨L, c, rfl, g1⟩⟩
  ·cases h
theorem ahp {t kt e : TypeId} {vx vi zv : Value} {ok : Bool} {xs : Array MapEntry} {d : TypeDesc} {res : Option (Nat × Value)} (ht : P.underlying t = some (.map kt e)) (hd : P.underlying kt = some d)
  (hck : ∀ b, (Instr.checkKey b 10000 kt vi).run P w = .ok () w) (hz : (zeroValue e).run P w = .ok zv w)
  (hm : (vx = .map none ∧ xs = #[]) ∨ ∃ (L : Loc) (c : Nat), vx = .map (some L.blk) ∧ w.heap[L.blk]? = some (.map xs c)) (hf : Instr.findNow d vi xs.toList 0 = some res) :
  (Instr.lookup t vx vi ok).run P w = .ok (match res with | some (_, v) => if ok then .tuple #[v, .bool true] else v | none => if ok then .tuple #[zv, .bool false] else zv) w := by
 unfold Instr.lookup
 rcases hm with ⟨rfl, rfl⟩ | ⟨L, c, rfl, hL⟩
 ·simp only [Sem.run_bind, run_underlying ht, Result.andThen_ok, Sem.run_pure, hck, Instr.findKey, run_underlying hd, hf]
  cases res with
  | none => cases ok <;> simp [hz]
  | some p => cases ok <;> simp
 ·simp only [Sem.run_bind, run_underlying ht, Result.andThen_ok, Sem.run_pure, hck, Instr.findKey, run_underlying hd, ab2 hL, hf]
  cases res with
  | none => cases ok <;> simp [hz]
  | some p => cases ok <;> simp
theorem ajw {t kt e : TypeId} {kd : BK} {x i z v : AV} {vx vi zv : Value} {ok : Bool} (hH : HR P μ F H w) (ht : P.underlying t = some (.map kt e)) (hk1 : keyOk P kt = true) (hk2 : abo P kt = some kd)
  (hz : ((P.info? e).bind (·.zero)) = some zv) (hza : aer zv = some z) (hx : VR μ F w x vx) (hi : VR μ F w i vi)
  (h : lookA H kd z x i ok = some v) : ∃ u, (Instr.lookup t vx vi ok).run P w = .ok u w ∧ VR μ F w v u := by
 obtain ⟨d, hd, hkd⟩ := key_kd hk1 hk2
 unfold lookA at h
 split at h
 ·cases h
 rename_i hf
 have hf : abm kd i = true := by simpa using hf
 have hzero : (zeroValue e).run P w = .ok zv w := by
  obtain ⟨inf, hinf, hz'⟩ := Option.bind_eq_some_iff.1 hz
  simp [zeroValue, abf hinf, hz']
 have hzr := ac8 (μ := μ) (F := F) (w := w) hza
 split at h
 ·cases h
 rename_i es hes
 obtain ⟨xs, g1, g2, g3⟩ := mapEs_ok hH hx hes
 obtain ⟨f1, f2⟩ := ak8 hkd hi hf es xs.toList 0 g1 g2
 have two : ∀ (x : AV) (v : Value) (b : Bool), VR μ F w x v → VR μ F w (.tup [x, .bool b]) (.tuple #[v, .bool b]) := fun x v b h => by
  have := LR.cons h (LR.cons (.bool b) (LR.nil (μ := μ) (F := F) (w := w)))
  exact .tup _ _ rfl fun i c u h1 h2 => this.2 i c u h1 (by simpa using h2)
 have hck : ∀ b, (Instr.checkKey b 10000 kt vi).run P w = .ok () w := fun b => afo hd hkd hi hf b
 split at h
 ·cases h
 ·rename_i hr
  cases h
  refine ⟨_, ahp ht hd hck hzero g3 (f1 hr).1, ?_⟩
  cases ok
  ·exact hzr
  ·exact two _ _ _ hzr
 ·rename_i y hr
  cases h
  obtain ⟨j, e', q1, q2, q3, _⟩ := f2 y hr
  refine ⟨_, ahp ht hd hck hzero g3 q2, ?_⟩
  cases ok
  ·exact q3
  ·exact two _ _ _ q3
theorem afb {t kt e : TypeId} {kd : BK} {m k v : AV} {vm vk vv : Value} {H' : Heap} (hH : HR P μ F H w) (ht : P.underlying t = some (.map kt e)) (hk1 : keyOk P kt = true) (hk2 : abo P kt = some kd)
  (hm : VR μ F w m vm) (hk : VR μ F w k vk) (hv : VR μ F w v vv) (h : alc H kd m k v = some H') : ∃ w', (Instr.mapUpdate t vm vk vv).run P w = .ok () w' ∧ Done I P μ F H w .undef H' undef w' μ := by
 obtain ⟨d, hd, hkd⟩ := key_kd hk1 hk2
 unfold alc at h
 split at h
 ·cases h
 rename_i hf
 have hf : abm kd k = true := by simpa using hf
 have hck : ∀ b, (Instr.checkKey b 10000 kt vk).run P w = .ok () w := fun b => afo hd hkd hk hf b
 cases m with
 | map b =>
  simp only at h
  split at h
  ·rename_i es hb
   cases hm with
   | map _ L hL =>
   obtain ⟨L', hL', hE⟩ := hH.ent b _ hb
   rw [hL] at hL'; cases hL'
   obtain ⟨hnF, xs, c, g1, g2, g3, g4⟩ := hE
   obtain ⟨f1, f2⟩ := ak8 hkd hk hf es xs.toList 0 g2 g3
   have hlt := (Array.getElem?_eq_some_iff.1 g1).1
   have fin : ∀ (xs' : Array MapEntry) (c' : Nat), LR μ F w ((updE k v es).map (·.1)) (xs'.toList.map (·.key)) → LR μ F w ((updE k v es).map (·.2)) (xs'.toList.map (·.val)) → alg xs'.toList c' →
     HR P μ F (H.put b (.map (updE k v es))) (w.putObj L.blk (.map xs' c')) ∧ Stp I P μ F H w μ F (H.put b (.map (updE k v es))) (w.putObj L.blk (.map xs' c')) := by
    intro xs' c' q1 q2 q3
    refine abq hH hb rfl hL _ (fun c hc => World.putObj_heap_other hc) (by simp [World.putObj]) rfl rfl rfl (fun hw => ?_) rfl
    exact ⟨hnF, xs', c', World.putObj_heap_same hlt, q1.mono (fun _ _ h => h) (fun _ h => h) hw, q2.mono (fun _ _ h => h) (fun _ h => h) hw, q3⟩
   split at h
   ·cases h
   ·rename_i r hr
    cases h
    cases r with
    | none =>
     obtain ⟨q1, q2⟩ := f1 hr
     have hup := q2 v
     obtain ⟨r1, r2⟩ := fin (xs.push { key := vk, val := vv, born := c }) (c + 1) (by rw [hup]; simp only [List.map_append, Array.toList_push, List.map_cons, List.map_nil]; exact g2.append (LR.cons hk LR.nil))
      (by rw [hup]; simp only [List.map_append, Array.toList_push, List.map_cons, List.map_nil]; exact g3.append (LR.cons hv LR.nil)) ⟨fun e he => by
       simp only [Array.toList_push, List.mem_append, List.mem_singleton] at he
       rcases he with he | rfl
       ·have := g4.1 e he; omega
       ·exact Nat.lt_succ_self _, by
       simp only [Array.toList_push, List.map_append, List.map_cons, List.map_nil]
       refine List.nodup_append.2 ⟨g4.2, by simp, fun a ha b hb => ?_⟩
       simp only [List.mem_singleton] at hb
       subst hb
       obtain ⟨e, he, rfl⟩ := List.mem_map.1 ha
       have := g4.1 e he
       omega⟩
     refine ⟨_, ?_, ⟨.undef _, r1, r2⟩⟩
     unfold Instr.mapUpdate
     simp only [Sem.run_bind, run_underlying ht, Result.andThen_ok, ab2 g1, hck, Instr.findKey, run_underlying hd, q1, Sem.run_pure, ag7 g1]
    | some y =>
     obtain ⟨j, e', q1, q2, q3, q4, q5⟩ := f2 y hr
     have hup := q5 v
     have hj : xs[j]? = some e' := by simpa using q1
     have hjl : j < xs.size := (Array.getElem?_eq_some_iff.1 hj).1
     have hl : (xs.modify j fun e => { e with key := vk, val := vv }).toList = xs.toList.set j { e' with key := vk, val := vv } := by
      rw [Array.toList_modify]
      rw [List.modify_eq_set]
      rw [q1]; rfl
     obtain ⟨r1, r2⟩ := fin (xs.modify j fun e => { e with key := vk, val := vv }) c (by rw [hup, hl, List.map_set, List.map_set]; exact g2.set j hk) (by rw [hup, hl, List.map_set, List.map_set]; exact g3.set j hv) ⟨fun e he => by
       rw [hl] at he
       rcases List.mem_or_eq_of_mem_set he with he | rfl
       ·exact g4.1 e he
       ·exact g4.1 e' (List.mem_of_getElem? q1), by
       have e0 : (xs.toList.map (·.born)).set j e'.born = xs.toList.map (·.born) := by
        apply List.ext_getElem?
        intro i
        by_cases hi : j = i
        ·subst hi
         rw [List.getElem?_set_self', List.getElem?_map, q1]; rfl
        ·rw [List.getElem?_set_ne hi]
       rw [hl, List.map_set]
       show ((xs.toList.map (·.born)).set j e'.born).Nodup
       rw [e0]; exact g4.2⟩
     refine ⟨_, ?_, ⟨.undef _, r1, r2⟩⟩
     unfold Instr.mapUpdate
     simp only [Sem.run_bind, run_underlying ht, Result.andThen_ok, ab2 g1, hck, Instr.findKey, run_underlying hd, q2, Sem.run_pure, Nat.zero_add, hj, Option.map_some, Option.getD_some, Instr.keyThatStays, q4, if_true, ag7 g1]
  ·cases h
 | _ => cases h
theorem akx {t : TypeId} (hH : HR P μ F H w) {id : Nat} (hid : μ id = none) (hlt : id < H.next) (hI : I id) :
  ∃ u w' μ', (Instr.makeMap t none).run P w = .ok u w' ∧ Done I P μ F H w (.map id) (H.put id (.map [])) u w' μ' := by
 obtain ⟨q1, q2⟩ := ac3 hH hid hlt (.map #[] 0) (.map []) 0 0 (fun w' hw hn hnF => ⟨hnF, #[], 0, hn, LR.nil, LR.nil, fun e he => by simp at he, List.nodup_nil⟩) hI w rfl rfl rfl rfl
 exact ⟨_, _, _, by simp [Instr.makeMap], ⟨.map id _ (upd_same id _), q1, q2⟩⟩
/-! ### A text, letter by letter -/
theorem ai8 {t : TypeId} {s : ByteArray} {vx : Value} (ht : P.underlying t = some .string) (hH : HR P μ F H w) {id : Nat} (hid : μ id = none) (hlt : id < H.next) (hI : I id) (hx : VR μ F w (.str s) vx) :
  ∃ u w' μ', (Instr.range t vx).run P w = .ok u w' ∧ Done I P μ F H w (.ptr id 0) (H.put id (.siter s 0)) u w' μ' := by
 cases hx
 obtain ⟨q1, q2⟩ := ac3 hH hid hlt (.stringIter s 0) (.siter s 0) 0 0 (fun w' hw hn hnF => ⟨hnF, hn⟩) hI w rfl rfl rfl rfl
 exact ⟨_, _, _, by simp [Instr.range, run_underlying ht], ⟨.ptr id 0 _ (upd_same id _), q1, q2⟩⟩
theorem ak5 {x v : AV} {vx : Value} {ty : TypeId} {H' : Heap} (hH : HR P μ F H w) (hx : VR μ F w x vx) (h : aoo H x = some (v, H')) :
  ∃ u w', (Instr.next vx true ty).run P w = .ok u w' ∧ Done I P μ F H w v H' u w' μ := by
 unfold aoo at h
 split at h
 ·rename_i b
  cases hx with
  | ptr _ _ L hL =>
  split at h
  ·rename_i s pos hb
   obtain ⟨L', hL', hE⟩ := hH.ent b _ hb
   rw [hL] at hL'; cases hL'
   obtain ⟨hnF, hh⟩ := hE
   have hg : (getObj L.blk).run P w = .ok (.stringIter s pos) w := by simp [getObj, Sem.run, hh]
   split at h
   ·rename_i hlt
    cases h
    have hlt' := (Array.getElem?_eq_some_iff.1 hh).1
    have hs : ∀ o, (setObj L.blk o).run P w = .ok () (w.putObj L.blk o) := fun o => by simp [setObj, Sem.run, hh, World.putObj]
    obtain ⟨q1, q2⟩ := abq (I := I) (e := .siter s (pos + (Utf8.decode s pos).2)) hH hb rfl hL (w.putObj L.blk (.stringIter s (pos + (Utf8.decode s pos).2))) (fun c hc => World.putObj_heap_other hc) (by simp [World.putObj]) rfl rfl rfl
     (fun hw => ⟨hnF, World.putObj_heap_same hlt'⟩) rfl
    refine ⟨.tuple #[.bool true, goInt pos, .int .i32 (Utf8.decode s pos).1], _, ?_, ⟨?_, q1, q2⟩⟩
    ·simp only [Instr.next, Sem.run_bind, hg, Result.andThen_ok, hlt, if_true, hs, Sem.run_pure]
    ·refine .tup _ _ rfl fun i c u hi hu => ?_
     have : i = 0 ∨ i = 1 ∨ i = 2 ∨ 3 ≤ i := by omega
     rcases this with rfl | rfl | rfl | h3
     ·simp at hi hu; subst hi; subst hu; exact .bool _
     ·simp at hi hu; subst hi; subst hu; exact .int _ _
     ·simp at hi hu; subst hi; subst hu; exact .int _ _
     ·rw [List.getElem?_eq_none (by simpa using h3)] at hi; cases hi
   ·rename_i hlt
    cases h
    refine ⟨.tuple #[.bool false], w, ?_, ⟨?_, hH, Stp.refl _ _ _ _ _ _⟩⟩
    ·simp only [Instr.next, Sem.run_bind, hg, Result.andThen_ok, hlt, if_false, Sem.run_pure]
    ·refine .tup _ _ rfl fun i c u hi hu => ?_
     have : i = 0 ∨ 1 ≤ i := by omega
     rcases this with rfl | h3
     ·simp at hi hu; subst hi; subst hu; exact .bool _
     ·rw [List.getElem?_eq_none (by simpa using h3)] at hi; cases hi
  ·cases h
 ·cases h
end
end Go.Proofs.YtcmbokfnglkfnaaGreatDoor.Ev

namespace Go.Proofs.YtcmbokfnglkfnaaGreatDoor.Ev
open Go
set_option linter.all false
section
variable {I : Nat → Prop} {P : Program} {μ : Mu} {F : Nat → Prop} {H : Heap} {w : World} {T : Tm} {a : Act}
theorem run_u {s : Sem Unit} {w' : World} (h : s.run P w = .ok () w') : ((do s; pure Next.skip) : Sem Next).run P w = .ok .skip w' := by
 simp [h]
theorem ak7 {t e ty : TypeId} {size : Nat} {z : List AV} {x : AV} {vx : Value} {H' : Heap} (ht : P.underlying t = some (.slice e)) (hs : aac P e = some size) (hz : aaf P e = some z) (hH : HR P μ F H w) (hx : VR μ F w x vx)
  (h : an2 H size z x = some H') :
  ∃ u w', (Builtin.clear_ #[t] ty #[vx]).run P w = .ok u w' ∧ Done I P μ F H w (.tup []) H' u w' μ := by
 have hnil : VR μ F w (.tup []) (.tuple #[]) := .tup _ _ rfl fun i c v h => by simp at h
 have hnil' : ∀ w, VR μ F w (.tup []) (.tuple #[]) := fun w => .tup _ _ rfl fun i c v h => by simp at h
 cases x with
 | nilSl =>
  cases h; cases hx
  exact ⟨_, w, by simp [Builtin.clear_, run_underlying ht], ⟨hnil, hH, Stp.refl _ _ _ _ _ _⟩⟩
 | own b off n c sz ex =>
  cases hx with
  | own _ _ _ _ _ _ L cap h1 h2 h3 h4 h5 h6 =>
  simp only [an2] at h
  split at h
  ·rename_i cs ty' hb
   split at h
   ·rename_i hn
    cases h
    subst hn
    exact ⟨_, w, by simp [Builtin.clear_, run_underlying ht], ⟨hnil, hH, Stp.refl _ _ _ _ _ _⟩⟩
   ·rename_i hn
    split at h
    ·rename_i hc
     obtain ⟨c1, c2, c3, c4⟩ := hc
     cases h
     subst c1
     obtain ⟨zv, hzv, hzr⟩ := adw hz w
     have hzs : zv.cells.size = sz := by have := (hzr μ F w).1; simp at this; omega
     have hrep := (hzr μ F w).rep n
     have hlen : ((List.replicate n z).flatten).length = n * sz := by simp [c3]
     have hall : ((List.replicate n z).flatten).all AV.one = true := by
      rw [List.all_eq_true] at c4 ⊢
      intro y hy
      simp only [List.mem_flatten, List.mem_replicate] at hy
      obtain ⟨l, ⟨_, rfl⟩, hy⟩ := hy
      exact c4 y hy
     obtain ⟨arr, fr, g1, g2, g3, g4, g5, g6, g7⟩ := aaz hH hb h1
     obtain ⟨w', hrun, q1, q2⟩ := ad3 (I := I) hH hb h1 (o := off) hrep hall (by omega) (by omega)
     rw [hlen] at q1 q2
     refine ⟨_, w', ?_, ⟨hnil' _, q1, q2⟩⟩
     have hzc : (Builtin.zeroCells zv.cells n).toList = (List.replicate n zv.cells.toList).flatten := by
      unfold Builtin.zeroCells
      exact aa0 _ _ rfl
     unfold Builtin.clear_
     simp only [List.getElem?_toArray, List.getElem?_cons_zero, Sem.run_bind, run_underlying ht, Result.andThen_ok]
     obtain ⟨k, rfl⟩ : ∃ k, n = k + 1 := ⟨n - 1, by omega⟩
     simp only [Sem.run_bind, hzv, Result.andThen_ok, hzc, hrun, Sem.run_pure]
    ·cases h
  ·cases h
 | _ => cases h
theorem amh {t xt e ty : TypeId} {size : Nat} {x y v : AV} {vx vy : Value} {H' : Heap} (ht : P.underlying t = some (.slice e)) (hs : aac P e = some size) (hH : HR P μ F H w) (hx : VR μ F w x vx) (hy : VR μ F w y vy)
  (h : copyA H size x y = some (v, H')) :
  ∃ u w', (Builtin.copy_ #[t, xt] ty #[vx, vy]).run P w = .ok u w' ∧ Done I P μ F H w v H' u w' μ := by
 unfold copyA at h
 split at h
 ·cases h
 rename_i m hm
 have hlen := ad2 (P := P) hy hm
 cases x with
 | nilSl =>
  cases hx
  simp only at h
  split at h
  ·rename_i news hnews
   cases h
   obtain ⟨hl, nv, hnv, hnl⟩ := aby (P := P) hH hy hnews
   refine ⟨goInt ((0 : Nat) : Int), w, ?_, .int _ _, hH, Stp.refl _ _ _ _ _ _⟩
   have hmin : Nat.min m 0 = 0 := Nat.min_eq_right (Nat.zero_le _)
   unfold Builtin.copy_
   simp only [List.getElem?_toArray, List.getElem?_cons_zero, List.getElem?_cons_succ, Sem.run_bind, run_underlying ht, Result.andThen_ok, aaj hs, Sem.run_pure, hlen, hmin, hnv w rfl]
  ·cases h
 | own b off n c sz ex =>
  cases hx with
  | own _ _ _ _ _ _ L cap h1 h2 h3 h4 h5 h6 =>
  simp only at h
  split at h
  ·rename_i news cs ty' hnews hb
   split at h
   ·rename_i hc
    obtain ⟨c1, c2, c3⟩ := hc
    cases h
    subst c1
    obtain ⟨hl, nv, hnv, hnl⟩ := aby (P := P) hH hy hnews
    have hle : Nat.min m n * sz ≤ cap * sz := Nat.mul_le_mul_right _ (Nat.le_trans (Nat.min_le_right _ _) (Nat.le_trans h3 h4))
    obtain ⟨w', hrun, q1, q2⟩ := ad3 (I := I) hH hb h1 (o := off) hnl c3 c2 (by omega)
    refine ⟨goInt ((Nat.min m n : Nat) : Int), w', ?_, .int _ _, q1, q2⟩
    unfold Builtin.copy_
    simp only [List.getElem?_toArray, List.getElem?_cons_zero, List.getElem?_cons_succ, Sem.run_bind, run_underlying ht, Result.andThen_ok, aaj hs, Sem.run_pure, hlen, hnv w rfl, hrun]
   ·cases h
  ·cases h
 | _ => cases h
def Ends (P : Program) (a : Act) (w : World) (o : Oper) (u : Value) (w' : World) : Prop :=
 (execOp a.eval o).run P w = .ok (.value u) w' ∨ ((execOp a.eval o).run P w = .ok .skip w' ∧ u = undef)
theorem aly {cargs : Array Operand} {x y : Src} (hT : LR μ F w T a.tmps.toList) (h : cargs.toList.mapM cSrc = some [x, y]) : ∃ vx vy, cargs.map a.eval = #[vx, vy] ∧ VR μ F w (x.ev T) vx ∧ VR μ F w (y.ev T) vy := by
 have hl := acv hT h
 have h1 := hl.1
 simp only [List.map_cons, List.map_nil, List.length_cons, List.length_nil, List.length_map, Array.length_toList] at h1
 obtain ⟨l⟩ := cargs
 match l, h1 with
 | [p, q], _ => exact ⟨a.eval p, a.eval q, by simp, hl.2 0 _ _ rfl rfl, hl.2 1 _ _ rfl rfl⟩
theorem an0 {cargs : Array Operand} {x : Src} (hT : LR μ F w T a.tmps.toList) (h : cargs.toList.mapM cSrc = some [x]) : ∃ vx, cargs.map a.eval = #[vx] ∧ VR μ F w (x.ev T) vx := by
 have hl := acv hT h
 have h1 := hl.1
 simp only [List.map_cons, List.map_nil, List.length_cons, List.length_nil, List.length_map, Array.length_toList] at h1
 obtain ⟨l⟩ := cargs
 match l, h1 with
 | [p], _ => exact ⟨a.eval p, by simp, hl.2 0 _ _ rfl rfl⟩
theorem aax {dst : Option Tmp} {ty : TypeId} {pos : String} {after : Array Edge} {guard : Option (Nat × Bool)} {b : Builtin} {cargs : Array Operand} {argTypes : Array TypeId} {s : Sem Value} {u : Value} {w' : World}
  (h1 : s.run P w = .ok u w') (h2 : ∀ consts, builtin b argTypes ty consts (cargs.map a.eval) = (do pure (.value (← s)))) :
  (execOp a.eval ⟨dst, .call ⟨.builtin b, cargs, argTypes⟩, ty, pos, after, guard⟩).run P w = .ok (.value u) w' := by
 simp only [execOp, resolve, Sem.run_bind, Sem.run_pure, Result.andThen_ok, invoke]
 exact (congrArg (fun s => s.run P w) (h2 _)).trans (run_v h1)
theorem ai2 {x v : AV} {vx : Value} {id size bytes ty m : Nat} {news : List AV} {fr : Option Nat} {H' : Heap} (h : adi H id size bytes ty x m news fr = some (v, H')) (hx : VR μ F w x vx) : ∃ base n cap, vx = .slice base n cap := by
 cases x with
 | nilSl => cases hx; exact ⟨_, _, _, rfl⟩
 | own b off n c sz ex => cases hx; exact ⟨_, _, _, rfl⟩
 | _ => cases h
theorem ai1 {t : TypeId} {z : List AV} (h : aaf P t = some z) : ∃ i zv, P.info? t = some i ∧ i.zero = some zv ∧ an3 zv = some z := by
 simp only [aaf, Option.bind_eq_bind, bes] at h
 obtain ⟨i, hi, zv, hz, h⟩ := h
 exact ⟨i, zv, hi, hz, h⟩
theorem ae5 {t xt e ty n bytes id m : Nat} {z news : List AV} {x v y : AV} {vx vy : Value} {fr : Option Nat} {H' : Heap} (ht : P.underlying t = some (.slice e)) (hn : aac P e = some n) (hb : aa1 P e = some bytes) (hz : aaf P e = some z) (hzl : z.length = n)
  (hpl : Plain P xt) (hH : HR P μ F H w) (hid : μ id = none) (hlt : id < H.next) (hI : I id) (hx : VR μ F w x vx) (hy : VR μ F w y vy) (hm : lenA y = some m) (hnews : abr H n m y = some news)
  (h : adi H id n bytes e x m news fr = some (v, H')) :
  ∃ u w' μ', (Builtin.append_ #[t, xt] ty #[vx, vy]).run P w = .ok u w' ∧ Done I P μ F H w v H' u w' μ' := by
 obtain ⟨i, zv, hi, hzv, hzc⟩ := ai1 hz
 have hzs : zv.cells.size = n := by
  have := (afu (μ := μ) (F := F) (w := w) hzc).1
  simp at this; omega
 have hib : i.bytes = bytes := by
  simp only [aa1, hi, Option.map_some, Option.some.injEq] at hb; exact hb
 obtain ⟨base, k, cap, rfl⟩ := ai2 h hx
 obtain ⟨hlen, nv, hnv, hnl⟩ := aby hH hy hnews
 refine ady (nv := nv.toArray) (zv := zv) hH hid hlt hI hn hzs hx (by simpa using hnl) hlen h ?_ ?_
 ·intro base' n' cap' e1 hle
  cases e1
  exact aon ht hn hpl (ad2 hy hm) (hnv w rfl) hle
 ·intro base' n' cap' ov e1 hnle hB hN hov
  cases e1
  exact amo ht hn hi hib hzv hpl (ad2 hy hm) hnv hov hnle hB hN
/-! ### append(s, make([]T, m)...) -/
theorem ald {t xt e ty : TypeId} {size bytes n m cap : Nat} {base : Option Addr} {i : TypeInfo} {zv : Value} {kq kx : IntKind}
  (ht : P.underlying t = some (.slice e)) (hs : aac P e = some size) (hi : P.info? e = some i) (hib : i.bytes = bytes) (hz : i.zero = some zv) (hzs : zv.cells.size = size) (hx : P.underlying xt = some (.int kq))
  (hm : m < 2 ^ 62) (hmb : m * bytes ≤ 2 ^ 46) (hneed : n + m ≤ cap) :
  (Builtin.append_ #[t, xt] ty #[.slice base n cap, .int kx (m : Int)]).run P w = ((match base with | some a => storeCells (a.add (n * size)) (Builtin.zeroCells zv.cells m).toList | none => pure () : Sem Unit).run P w).andThen fun _ w' => .ok (.slice base (n + m) cap) w' := by
 have e1 := ah8 (c := m) (by omega)
 have hneg : ¬ ((m : Int) < 0) := by omega
 have hbig : ¬ ((m : Int) * (i.bytes : Int) > 2 ^ 48) := by
  have : ((m * i.bytes : Nat) : Int) = (m : Int) * (i.bytes : Int) := by simp
  rw [← this, hib]; omega
 unfold Builtin.append_
 by_cases h0 : m * size = 0
 ·have hz0 : Builtin.zeroCells zv.cells m = #[] := by
   have : (Builtin.zeroCells zv.cells m).size = 0 := by rw [ais, hzs, h0]
   exact Array.eq_empty_of_size_eq_zero this
  simp only [List.getElem?_toArray, List.getElem?_cons_zero, List.getElem?_cons_succ, Sem.run_bind, run_underlying ht, Result.andThen_ok, aaj hs, run_underlying hx, Sem.run_pure, if_true, asInt, asIntOf, e1, hneg, if_false, abf hi, hbig, Int.toNat_natCast, Bool.not_true, Bool.false_eq_true, h0, hneed, hz0]
  cases base <;> simp
 ·simp only [List.getElem?_toArray, List.getElem?_cons_zero, List.getElem?_cons_succ, Sem.run_bind, run_underlying ht, Result.andThen_ok, aaj hs, run_underlying hx, Sem.run_pure, if_true, asInt, asIntOf, e1, hneg, if_false, abf hi, hbig, Int.toNat_natCast, Bool.not_true, Bool.false_eq_true, h0, hneed, zeroValue, hz]
  cases base <;> simp
theorem ajz {t xt e ty : TypeId} {size bytes n m cap : Nat} {base : Option Addr} {ov : Array Value} {i : TypeInfo} {zv : Value} {kq kx : IntKind}
  (ht : P.underlying t = some (.slice e)) (hs : aac P e = some size) (hi : P.info? e = some i) (hib : i.bytes = bytes) (hz : i.zero = some zv) (hzs : zv.cells.size = size) (hx : P.underlying xt = some (.int kq))
  (hm : m < 2 ^ 62) (hmb : m * bytes ≤ 2 ^ 46) (ho : ∀ w', w'.heap = w.heap → (Builtin.firstCells size n (.slice base n cap)).run P w' = .ok ov w')
  (hneed : ¬ n + m ≤ cap) (hb : (n + m) * bytes ≤ 2 ^ 46) (hn : n + m < 2 ^ 62) :
  ∃ cap', n + m ≤ cap' ∧ (Builtin.append_ #[t, xt] ty #[.slice base n cap, .int kx (m : Int)]).run P w =
   .ok (.slice (some ⟨w.heap.size, 0, none⟩) (n + m) cap') (({ w with drawn := w.drawn + 1 } : World).alloc (.cells (ov ++ Builtin.zeroCells zv.cells m ++ Builtin.zeroCells zv.cells (cap' - (n + m))) e)) := by
 have e1 := ah8 (c := m) (by omega)
 have hneg : ¬ ((m : Int) < 0) := by omega
 have hbig : ¬ ((m : Int) * (i.bytes : Int) > 2 ^ 48) := by
  have : ((m * i.bytes : Nat) : Int) = (m : Int) * (i.bytes : Int) := by simp
  rw [← this, hib]; omega
 have hnext : ¬ Builtin.nextslicecap (n + m) cap * i.bytes > 2 ^ 48 := by
  have h1 := aha (need := n + m) (cap := cap) (by omega)
  have h2 : Builtin.nextslicecap (n + m) cap * bytes ≤ 2 * (n + m) * bytes := Nat.mul_le_mul_right _ h1
  rw [Nat.mul_assoc] at h2
  rw [hib]; omega
 have hmax : ¬ ((↑(n + m) : Int) > IntKind.i64.max ∧ (True ∨ i.bytes = 0)) := by
  rintro ⟨h1, _⟩
  have : IntKind.i64.max = 9223372036854775807 := by decide
  rw [this] at h1
  omega
 refine ⟨(Question.appendCap (n + m) cap e).cut (w.tape w.drawn (Question.appendCap (n + m) cap e)), by simp [Question.cut], ?_⟩
 have hq : (choose (Question.appendCap (n + m) cap e)).run P w = .ok ((Question.appendCap (n + m) cap e).cut (w.tape w.drawn (Question.appendCap (n + m) cap e))) { w with drawn := w.drawn + 1 } := by
  rw [run_choose, if_neg (by simp [Question.forced])]
 have ho' := ho { w with drawn := w.drawn + 1 } rfl
 generalize (Question.appendCap (n + m) cap e).cut (w.tape w.drawn (Question.appendCap (n + m) cap e)) = c at hq
 unfold Builtin.append_
 by_cases h0 : m * size = 0
 ·have hz0 : Builtin.zeroCells zv.cells m = #[] := by
   have : (Builtin.zeroCells zv.cells m).size = 0 := by rw [ais, hzs, h0]
   exact Array.eq_empty_of_size_eq_zero this
  simp only [List.getElem?_toArray, List.getElem?_cons_zero, List.getElem?_cons_succ, Sem.run_bind, run_underlying ht, Result.andThen_ok, aaj hs, run_underlying hx, Sem.run_pure, if_true, asInt, asIntOf, e1, hneg, if_false, abf hi, hbig, Int.toNat_natCast, Bool.not_true, Bool.false_eq_true, h0, hneed, hz0,
   hmax, hnext, hq, run_askRoom, ho', zeroValue, hz, aa3]
 ·simp only [List.getElem?_toArray, List.getElem?_cons_zero, List.getElem?_cons_succ, Sem.run_bind, run_underlying ht, Result.andThen_ok, aaj hs, run_underlying hx, Sem.run_pure, if_true, asInt, asIntOf, e1, hneg, if_false, abf hi, hbig, Int.toNat_natCast, Bool.not_true, Bool.false_eq_true, h0, hneed,
   hmax, hnext, hq, run_askRoom, ho', zeroValue, hz, aa3]
theorem ail {t xt e ty n bytes id m : Nat} {z : List AV} {x v y : AV} {vx vy : Value} {fr : Option Nat} {H' : Heap} {kq : IntKind} (ht : P.underlying t = some (.slice e)) (hn : aac P e = some n) (hb : aa1 P e = some bytes) (hz : aaf P e = some z) (hzl : z.length = n)
  (hxt : P.underlying xt = some (.int kq)) (hH : HR P μ F H w) (hid : μ id = none) (hlt : id < H.next) (hI : I id) (hx : VR μ F w x vx) (hy : VR μ F w y vy) (hm : asN y = some m) (hm1 : m * bytes ≤ 2 ^ 46) (hm2 : m < 2 ^ 62)
  (h : adi H id n bytes e x m ((List.replicate m z).flatten) fr = some (v, H')) :
  ∃ u w' μ', (Builtin.append_ #[t, xt] ty #[vx, vy]).run P w = .ok u w' ∧ Done I P μ F H w v H' u w' μ' := by
 obtain ⟨i, zv, hi, hzv, hzc⟩ := ai1 hz
 have hzr := afu (μ := μ) (F := F) (w := w) hzc
 have hzs : zv.cells.size = n := by
  have := hzr.1
  simp at this; omega
 have hib : i.bytes = bytes := by
  simp only [aa1, hi, Option.map_some, Option.some.injEq] at hb; exact hb
 obtain ⟨base, k, cap, rfl⟩ := ai2 h hx
 obtain ⟨kx, rfl⟩ : ∃ kx, vy = .int kx (m : Int) := by
  cases y with
  | int kx q =>
   cases q with
   | ofNat q => simp only [asN, Option.some.injEq] at hm; subst hm; cases hy; exact ⟨kx, rfl⟩
   | negSucc q => simp [asN] at hm
  | _ => simp [asN] at hm
 have hzl2 : (Builtin.zeroCells zv.cells m).toList = (List.replicate m zv.cells.toList).flatten := by
  unfold Builtin.zeroCells
  exact aa0 _ _ rfl
 have hnl : LR μ F w ((List.replicate m z).flatten) (Builtin.zeroCells zv.cells m).toList := by rw [hzl2]; exact hzr.rep m
 refine ady (nv := Builtin.zeroCells zv.cells m) (zv := zv) hH hid hlt hI hn hzs hx hnl (by simp [hzl]) h ?_ ?_
 ·intro base' n' cap' e1 hle
  cases e1
  exact ald ht hn hi hib hzv hzs hxt hm2 hm1 hle
 ·intro base' n' cap' ov e1 hnle hB hN hov
  cases e1
  exact ajz ht hn hi hib hzv hzs hxt hm2 hm1 hov hnle hB hN
/-! ### string(bytes) -/
theorem af8 : ∀ (cs : List AV) (s r : ByteArray) (nv : List Value), ahi cs s = some r → LR μ F w cs nv → ∃ ns : List Int, nv = ns.map (Value.int .u8) ∧ r = ns.foldl (fun r n => r.push (UInt8.ofNat n.toNat)) s
 | [], s, r, nv, h, hl => by
  have := hl.1
  cases nv with
  | nil => cases h; exact ⟨[], rfl, rfl⟩
  | cons x nv => simp at this
 | c :: cs, s, r, nv, h, hl => by
  cases nv with
  | nil => have := hl.1; simp at this
  | cons x nv =>
   have hx := hl.head
   obtain ⟨q, rfl⟩ : ∃ q, c = .int .u8 q := by
    unfold ahi at h
    split at h
    ·rename_i e; cases e
    ·rename_i e; cases e; exact ⟨_, rfl⟩
    ·cases h
   simp only [ahi] at h
   cases hx
   obtain ⟨ns, h1, h2⟩ := af8 cs _ r nv h hl.tail
   exact ⟨q :: ns, by rw [h1]; rfl, by rw [h2]; rfl⟩
theorem akm {src dst e : TypeId} {x : AV} {vx : Value} {s : ByteArray} (hs : P.underlying src = some (.slice e)) (he : P.underlying e = some (.int .u8)) (hd : P.underlying dst = some .string)
  (hH : HR P μ F H w) (hx : VR μ F w x vx) (h : alm H x = some s) : (convert src dst vx).run P w = .ok (.string s) w := by
 have hnostr : ∀ t, x ≠ .str t := fun t e => by subst e; simp [alm] at h
 have h' : (match lenA x with | none => none | some n => match abr H 1 n x with | none => none | some cs => ahi cs .empty) = some s := by
  unfold alm at h
  split at h
  ·cases h
  ·exact h
 split at h'
 ·cases h'
 ·rename_i n hn
  split at h'
  ·cases h'
  ·rename_i cs hcs
   obtain ⟨-, nv, hnv, hnl⟩ := aby (P := P) hH hx hcs
   obtain ⟨ns, hns, rfl⟩ := af8 _ _ _ _ h' hnl
   have hlen := ad2 (P := P) hx hn
   have hv := hnv w rfl
   subst hns
   obtain ⟨base, k, cap, rfl⟩ : ∃ base k cap, vx = .slice base k cap := by
    cases x <;> simp only [lenA] at hn <;> first | (cases hn; done) | skip
    ·exact absurd rfl (hnostr _)
    ·cases hx; exact ⟨_, _, _, rfl⟩
    ·cases hx <;> exact ⟨_, _, _, rfl⟩
    ·cases hx; exact ⟨_, _, _, rfl⟩
   rw [run_convert_bytes_string w src dst e base k cap hs he hd]
   have hk : k = n := by
    have e : (Builtin.lenOf (.slice base k cap)).run P w = .ok k w := rfl
    rw [e] at hlen
    cases hlen; rfl
   subst hk
   cases base with
   | none =>
    have : ns = [] := by
     have e : (Builtin.firstCells 1 k (.slice none k cap)).run P w = .ok #[] w := rfl
     rw [e] at hv
     cases ns with
     | nil => rfl
     | cons a l => simp at hv
    subst this
    simp [Conv.bytesToString]
   | some a =>
    simp only [Builtin.firstCells, Nat.mul_one] at hv
    exact run_bytesToString w a k cap ns hv
/-! ### []byte(text) -/
theorem ajf (w : World) (arr : Array Value) (ty : TypeId) : (w.alloc (.cells arr ty)).freeze ⟨w.heap.size, arr.size, none⟩ 1 = w.alloc (.cells arr ty (arr.size, arr.size + 1)) := by
 simp only [World.freeze, World.alloc]
 rw [if_neg (by omega)]
 congr 1
 apply Array.ext_getElem?
 intro j
 rw [Array.getElem?_modify]
 by_cases hj : w.heap.size = j
 ·subst hj; simp
 ·rw [if_neg hj, Array.getElem?_push, Array.getElem?_push, if_neg (Ne.symm hj), if_neg (Ne.symm hj)]
theorem aic {src dst e : TypeId} {vx : Value} {s : ByteArray} {id : Nat} (hs : P.underlying src = some .string) (he : P.underlying e = some (.int .u8)) (hd : P.underlying dst = some (.slice e)) (hsz : aac P e = some 1)
  (hH : HR P μ F H w) (hid : μ id = none) (hlt : id < H.next) (hI : I id) (hx : VR μ F w (.str s) vx) :
  ∃ u w' μ', (convert src dst vx).run P w = .ok u w' ∧ Done I P μ F H w (.own id 0 s.size s.size 1 false) (H.put id (.cells (s.data.toList.map fun b => .int .u8 b.toNat) e false)) u w' μ' := by
 cases hx
 obtain ⟨cap, hcap, hq⟩ : ∃ cap, s.size ≤ cap ∧ (choose (Question.appendCap s.size 0 e)).run P w = .ok cap { w with drawn := w.drawn + 1 } :=
  ⟨(Question.appendCap s.size 0 e).cut (w.tape w.drawn (Question.appendCap s.size 0 e)), by simp [Question.cut], by rw [run_choose, if_neg (by simp [Question.forced])]⟩
 obtain ⟨arr, harr⟩ : ∃ arr : Array Value, arr = (s.data.map fun b => Value.int .u8 b.toNat) ++ Array.replicate (cap - s.size) (.int .u8 0) := ⟨_, rfl⟩
 have hsd : s.data.size = s.size := rfl
 have hasz : arr.size = cap := by rw [harr]; simp; omega
 have hrun : (convert src dst (.string s)).run P w = .ok (.slice (some ⟨w.heap.size, 0, none⟩) s.size cap) (({ w with drawn := w.drawn + 1 } : World).alloc (.cells arr e (arr.size, arr.size + 1))) := by
  have h1 : (convert src dst (.string s)).run P w = (Conv.stringToBytes e s).run P w := by
   simp [convert, run_underlying hs, run_underlying hd, run_underlying he]
  rw [h1]
  unfold Conv.stringToBytes
  simp only [Sem.run_bind, hq, Result.andThen_ok, ← harr, aa3, Sem.run_pure]
  have h2 : (markStringish ⟨w.heap.size, 0, none⟩).run P (({ w with drawn := w.drawn + 1 } : World).alloc (.cells arr e)) = .ok () ((({ w with drawn := w.drawn + 1 } : World).alloc (.cells arr e)).freeze ⟨w.heap.size, arr.size, none⟩ 1) := by
   have hh : (({ w with drawn := w.drawn + 1 } : World).alloc (.cells arr e)).heap[w.heap.size]? = some (.cells arr e) := by simp [World.alloc]
   have hsh : (({ w with drawn := w.drawn + 1 } : World).alloc (.cells arr e)).shape? w.heap.size = some (e, arr.size) := by simp only [World.shape?, hh]
   unfold markStringish
   simp only [Sem.run_bind, run_shape, hsh, Result.andThen_ok, run_freeze]
  have h3 := ajf ({ w with drawn := w.drawn + 1 } : World) arr e
  have h3 : (({ w with drawn := w.drawn + 1 } : World).alloc (.cells arr e)).freeze ⟨w.heap.size, arr.size, none⟩ 1 = ({ w with drawn := w.drawn + 1 } : World).alloc (.cells arr e (arr.size, arr.size + 1)) := h3
  rw [h3] at h2
  rw [h2]
  rfl
 obtain ⟨q1, q2⟩ := ac3 (I := I) hH hid hlt (.cells arr e (arr.size, arr.size + 1)) (.cells (s.data.toList.map fun b => AV.int .u8 b.toNat) e false) arr.size 1 (fun w' hw hn hnF =>
  ⟨arr, (arr.size, arr.size + 1), hn, rfl, hsz, by simp [hasz]; omega, fun i c v hc hv => by
   rw [List.getElem?_map, Option.map_eq_some_iff] at hc
   obtain ⟨b, hb, rfl⟩ := hc
   have hi : i < s.data.size := by
    have := (List.getElem?_eq_some_iff.1 hb).1
    simpa using this
   rw [harr, Array.getElem?_append_left (by simpa using hi), Array.getElem?_map] at hv
   have hb' : s.data[i]? = some b := by simpa using hb
   rw [hb'] at hv
   cases hv
   exact .int _ _, fun h => (by cases h), fun _ => trivial⟩) hI ({ w with drawn := w.drawn + 1 } : World) rfl rfl rfl rfl
 exact ⟨_, _, _, hrun, .own id 0 s.size s.size 1 false _ cap (upd_same id _) rfl (Nat.le_refl _) hcap (fun h => by cases h) (by simp [hasz]), q1, q2⟩
end
end Go.Proofs.YtcmbokfnglkfnaaGreatDoor.Ev

namespace Go.Proofs.YtcmbokfnglkfnaaGreatDoor.Ev
open Go
set_option linter.all false
section
variable {I : Nat → Prop} {P : Program} {μ : Mu} {F : Nat → Prop} {H : Heap} {w : World} {T : Tm} {a : Act}
theorem anx (hH : HR P μ F H w) {x : Operand} {cs : List AV} (h : ao3 x = some cs) {a : Act} : VR μ F w (.dp cs 0) (a.eval x) := by
 cases x with
 | global g => exact hH.gl _ _ h
 | _ => cases h
theorem akc {o : Oper} {ao : AOp} {v : AV} {H' : Heap} {id : Nat} (hc : cOp P o = some ao) (hp : heapA (Src.ev T) H id ao = some (v, H')) (hT : LR μ F w T a.tmps.toList) (hH : HR P μ F H w)
  (hid : μ id = none) (hlt : id < H.next) (hI : I id) : ∃ u w' μ', Ends P a w o u w' ∧ Done I P μ F H w v H' u w' μ' := by
 obtain ⟨dst, op, ty, pos, after, guard⟩ := o
 cases op <;> simp only [cOp] at hc
 case alloc e =>
  simp only [Option.bind_eq_bind, bes] at hc
  obtain ⟨z, hz, hc⟩ := hc; cases hc
  simp only [heapA] at hp; cases hp
  obtain ⟨u, w', μ', h1, h2⟩ := ake hz hH hid hlt hI
  exact ⟨u, w', μ', .inl (run_v h1), h2⟩
 case box e x =>
  simp only [Option.bind_eq_bind, bes] at hc
  obtain ⟨n, hn, s, hs, hc⟩ := hc; cases hc
  simp only [heapA] at hp
  split at hp
  ·rename_i h1
   cases hp
   obtain ⟨u, w', μ', h1, h2⟩ := anl hn (aad hT hs) h1 hH hid hlt hI
   exact ⟨u, w', μ', .inl (run_v h1), h2⟩
  ·cases hp
 case buildSlice t len parts =>
  simp only [Option.bind_eq_bind, bes] at hc
  obtain ⟨d, hd, hc⟩ := hc
  split at hc
  ·rename_i e
   simp only [bes] at hc
   obtain ⟨n, hn, z, hz, ps, hps, hc⟩ := hc
   split at hc
   ·rename_i hle
    cases hc
    simp only [heapA] at hp
    split at hp
    ·cases hp
    ·rename_i cs hf
     cases hp
     obtain ⟨u, w', μ', h1, h2⟩ := afc (parts := parts.toList) hT hd hn hz hle.2 hle.1 hps hf hH hid hlt hI
     refine ⟨u, w', μ', .inl (run_v ?_), h2⟩
     simpa using h1
   ·cases hc
  ·cases hc
 case indexAddr t x i =>
  simp only [Option.bind_eq_bind, bes] at hc
  obtain ⟨d, hd, hc⟩ := hc
  split at hc
  ·simp only [bes] at hc
   obtain ⟨n, hn, sx, hsx, si, hsi, hc⟩ := hc; cases hc; cases hp
  ·rename_i len e
   split at hc
   ·rename_i cs hcs
    simp only [bes] at hc
    obtain ⟨n, hn, si, hsi, hc⟩ := hc; cases hc
    simp only [heapA] at hp
    split at hp
    ·rename_i ix hix
     split at hp
     ·rename_i hlt
      cases hp
      obtain ⟨k, hk⟩ := aa6 hix (aad hT hsi)
      have hx := anx hH hcs (a := a)
      generalize hv : a.eval x = vx at hx
      cases hx with
      | dp _ _ blk off arr ty' fr g1 g2 g4 g5 =>
       have hrun : (Instr.indexAt t (a.eval x) (a.eval i)).run P w = .ok (.pointer (some ⟨blk, off + 0 + ix * n, none⟩)) w := by
        rw [hv, hk]
        simp [Instr.indexAt, Instr.sureAddr, asIntOf, run_underlying hd, aaj hn, abk, hlt]
       refine ⟨_, w, μ, .inl (run_v hrun), ⟨?_, hH, Stp.refl _ _ _ _ _ _⟩⟩
       rw [Nat.add_zero]
       exact .dp _ _ blk off arr ty' fr g1 g2 g4 g5
     ·cases hp
    ·cases hp
   ·simp only [bes] at hc
    obtain ⟨n, hn, sx, hsx, si, hsi, hc⟩ := hc; cases hc; cases hp
  ·cases hc
 case load t x =>
  split at hc
  ·rename_i cs hcs
   simp only [Option.bind_eq_bind, bes] at hc
   obtain ⟨k, hk, hc⟩ := hc; cases hc
   simp only [heapA, Option.map_eq_some_iff] at hp
   obtain ⟨v', hv', hp⟩ := hp
   cases hp
   obtain ⟨u, h1, h2⟩ := ahf hH hk (anx hH hcs (a := a)) (v := v) hv'
   exact ⟨u, w, μ, .inl (run_v h1), ⟨h2, hH, Stp.refl _ _ _ _ _ _⟩⟩
  simp only [Option.bind_eq_bind, bes] at hc
  obtain ⟨k, hk, s, hs, hc⟩ := hc; cases hc
  simp only [heapA, Option.map_eq_some_iff] at hp
  obtain ⟨v', hv', hp⟩ := hp
  cases hp
  obtain ⟨u, h1, h2⟩ := ahf hH hk (aad hT hs) hv'
  exact ⟨u, w, μ, .inl (run_v h1), ⟨h2, hH, Stp.refl _ _ _ _ _ _⟩⟩
 case convert ta tb x =>
  simp only [Option.bind_eq_bind, bes] at hc
  obtain ⟨d, hd, d', hd', hc⟩ := hc
  split at hc
  ·simp only [bes] at hc
   obtain ⟨s, hs, hc⟩ := hc
   cases hc; cases hp
  ·simp only [bes] at hc
   obtain ⟨s, hs, hc⟩ := hc
   cases hc; cases hp
  ·simp only [bes] at hc
   obtain ⟨e, he, hc⟩ := hc
   split at hc
   ·simp only [bes] at hc
    obtain ⟨s, hs, hc⟩ := hc
    cases hc
    simp only [heapA, Option.map_eq_some_iff] at hp
    obtain ⟨r, hr, hp⟩ := hp
    cases hp
    exact ⟨_, w, μ, .inl (run_v (akm hd he hd' hH (aad hT hs) hr)), ⟨.str _, hH, Stp.refl _ _ _ _ _ _⟩⟩
   ·cases hc
  ·simp only [bes] at hc
   obtain ⟨e, he, hc⟩ := hc
   split at hc
   ·simp only [bes] at hc
    obtain ⟨n, hn, hc⟩ := hc
    split at hc
    ·rename_i hn1
     subst hn1
     simp only [bes] at hc
     obtain ⟨s, hs, hc⟩ := hc
     cases hc
     simp only [heapA] at hp
     split at hp
     ·rename_i str hstr
      cases hp
      obtain ⟨u, w', μ', h1, h2⟩ := aic hd he hd' hn hH hid hlt hI (hstr ▸ aad hT hs)
      exact ⟨u, w', μ', .inl (run_v h1), h2⟩
     ·cases hp
    ·cases hc
   ·cases hc
  ·cases hc
 case store t x y =>
  simp only [Option.bind_eq_bind, bes] at hc
  obtain ⟨n, hn, sx, hsx, sy, hsy, hc⟩ := hc; cases hc
  simp only [heapA, Option.map_eq_some_iff] at hp
  obtain ⟨v', hv', hp⟩ := hp
  cases hp
  obtain ⟨w', h1, h2⟩ := afl (I := I) hn hH (aad hT hsx) (aad hT hsy) hv'
  exact ⟨undef, w', μ, .inr ⟨run_u h1, rfl⟩, h2⟩
 case makeMap t r =>
  simp only [Option.bind_eq_bind, bes] at hc
  obtain ⟨d, hd, hc⟩ := hc
  split at hc
  ·split at hc
   ·rename_i hr
    cases hc
    simp only [heapA] at hp; cases hp
    obtain rfl : r = none := by simpa using hr
    obtain ⟨u, w', μ', h1, h2⟩ := akx (t := t) hH hid hlt hI
    exact ⟨u, w', μ', .inl (run_v h1), h2⟩
   ·cases hc
  ·cases hc
 case makeSlice t l c =>
  simp only [Option.bind_eq_bind, bes] at hc
  obtain ⟨d, hd, hc⟩ := hc
  split at hc
  ·rename_i e
   simp only [bes] at hc
   obtain ⟨n, hn, b, hb, z, hz, sl, hsl, sc, hsc, hc⟩ := hc; cases hc
   simp only [heapA] at hp
   split at hp
   ·rename_i l' c' hl' hc'
    split at hp
    ·rename_i hcond
     cases hp
     obtain ⟨kl, hkl⟩ := aa6 hl' (aad hT hsl)
     obtain ⟨kc, hkc⟩ := aa6 hc' (aad hT hsc)
     obtain ⟨u, w', μ', h1, h2⟩ := am7 hd hn hb hz hcond.2.2.2 hkl hkc hcond.1 hcond.2.1 hcond.2.2.1 hH hid hlt hI
     exact ⟨u, w', μ', .inl (run_v h1), h2⟩
    ·cases hp
   ·cases hp
  ·cases hc
 case lookup t x i ok =>
  simp only [Option.bind_eq_bind, bes] at hc
  obtain ⟨d, hd, hc⟩ := hc
  split at hc
  ·rename_i kt e
   split at hc
   ·rename_i hk
    simp only [bes] at hc
    obtain ⟨zv, hzv, kd, hkd, z, hz, sx, hsx, si, hsi, hc⟩ := hc; cases hc
    simp only [heapA, Option.map_eq_some_iff] at hp
    obtain ⟨v', hv', hp⟩ := hp
    cases hp
    obtain ⟨u, h1, h2⟩ := ajw hH hd hk hkd (Option.bind_eq_some_iff.2 hzv) hz (aad hT hsx) (aad hT hsi) hv'
    exact ⟨u, w, μ, .inl (run_v h1), ⟨h2, hH, Stp.refl _ _ _ _ _ _⟩⟩
   ·cases hc
  ·cases hc
 case range t x =>
  simp only [Option.bind_eq_bind, bes] at hc
  obtain ⟨d, hd, hc⟩ := hc
  split at hc
  ·simp only [bes] at hc
   obtain ⟨s, hs, hc⟩ := hc
   cases hc
   simp only [heapA] at hp
   split at hp
   ·rename_i str hstr
    cases hp
    obtain ⟨u, w', μ', h1, h2⟩ := ai8 (I := I) hd hH hid hlt hI (hstr ▸ aad hT hs)
    exact ⟨u, w', μ', .inl (run_v h1), h2⟩
   ·cases hp
  ·cases hc
 case next x sb =>
  split at hc
  ·rename_i hsb
   subst hsb
   simp only [Option.map_eq_some_iff] at hc
   obtain ⟨s, hs, hc⟩ := hc
   cases hc
   simp only [heapA] at hp
   obtain ⟨u, w', h1, h2⟩ := ak5 (I := I) (ty := ty) hH (aad hT hs) hp
   exact ⟨u, w', μ, .inl (run_v h1), h2⟩
  ·cases hc
 case mapUpdate t m k x =>
  simp only [Option.bind_eq_bind, bes] at hc
  obtain ⟨d, hd, hc⟩ := hc
  split at hc
  ·rename_i kt e
   split at hc
   ·rename_i hk
    simp only [bes] at hc
    obtain ⟨kd, hkd, sm, hsm, sk, hsk, sx, hsx, hc⟩ := hc; cases hc
    simp only [heapA, Option.map_eq_some_iff] at hp
    obtain ⟨v', hv', hp⟩ := hp
    cases hp
    obtain ⟨w', h1, h2⟩ := afb (I := I) hH hd hk hkd (aad hT hsm) (aad hT hsk) (aad hT hsx) hv'
    exact ⟨undef, w', μ, .inr ⟨run_u h1, rfl⟩, h2⟩
   ·cases hc
  ·cases hc
 case insert t m k x =>
  simp only [Option.bind_eq_bind, bes] at hc
  obtain ⟨d, hd, hc⟩ := hc
  split at hc
  ·rename_i kt e
   split at hc
   ·rename_i hk
    simp only [bes] at hc
    obtain ⟨kd, hkd, sm, hsm, sk, hsk, sx, hsx, hc⟩ := hc; cases hc
    simp only [heapA, Option.map_eq_some_iff] at hp
    obtain ⟨v', hv', hp⟩ := hp
    cases hp
    obtain ⟨w', h1, h2⟩ := afb (I := I) hH hd hk hkd (aad hT hsm) (aad hT hsk) (aad hT hsx) hv'
    exact ⟨undef, w', μ, .inr ⟨run_u h1, rfl⟩, h2⟩
   ·cases hc
  ·cases hc
 case call c =>
  simp only [Option.bind_eq_bind, bes] at hc
  obtain ⟨args, hargs, hc⟩ := hc
  obtain ⟨callee, cargs, argTypes⟩ := c
  simp only at hc hargs
  cases callee with
  | value f =>
   simp only [bes] at hc
   obtain ⟨s, hs, hc⟩ := hc; cases hc; cases hp
  | invoke r m => cases hc
  | builtin b =>
   have two : ∀ {x y : TypeId}, argTypes.toList = [x, y] → argTypes = #[x, y] := by
    intro x y h; obtain ⟨l⟩ := argTypes; simp at h; subst h; rfl
   have one : ∀ {x : TypeId}, argTypes.toList = [x] → argTypes = #[x] := by
    intro x h; obtain ⟨l⟩ := argTypes; simp at h; subst h; rfl
   simp only at hc
   split at hc
   ·-- len
    simp only [bes] at hc
    obtain ⟨d, hd, hc⟩ := hc
    split at hc
    ·cases hc; cases hp
    ·cases hc; cases hp
    ·rename_i kt e
     cases hc
     obtain ⟨vx, hvx, hr⟩ := an0 hT hargs
     have hat := one (by assumption)
     simp only [heapA] at hp
     split at hp
     ·rename_i e'; rw [e'] at hr; cases hp; cases hr
      exact ⟨_, w, μ, .inl (aax (s := Builtin.len_ argTypes ty (cargs.map a.eval)) (by rw [hvx, hat]; simp [Builtin.len_, run_underlying hd]; rfl) (fun _ => rfl)), ⟨.int _ _, hH, Stp.refl _ _ _ _ _ _⟩⟩
     ·rename_i b e'; rw [e'] at hr
      split at hp
      ·rename_i es hb
       cases hp
       cases hr with
       | map _ L hL =>
       obtain ⟨L', hL', hE⟩ := hH.ent b _ hb
       rw [hL] at hL'; cases hL'
       obtain ⟨hnF, xs, c, g1, g2, g3⟩ := hE
       have hsz : xs.size = es.length := by have := g2.1; simp at this; omega
       refine ⟨_, w, μ, .inl (aax (s := Builtin.len_ argTypes ty (cargs.map a.eval)) (by rw [hvx, hat]; simp [Builtin.len_, run_underlying hd, ab2 g1]; rfl) (fun _ => rfl)), ⟨?_, hH, Stp.refl _ _ _ _ _ _⟩⟩
       rw [hsz]
       exact .int _ _
      ·rename_i es hb
       cases hp
       cases hr with
       | map _ L hL =>
       obtain ⟨L', hL', hE⟩ := hH.ent b _ hb
       rw [hL] at hL'; cases hL'
       obtain ⟨xs, c, g1, g2, g3⟩ := hE
       have hsz : xs.size = es.length := by have := g2.1; simp at this; omega
       refine ⟨_, w, μ, .inl (aax (s := Builtin.len_ argTypes ty (cargs.map a.eval)) (by rw [hvx, hat]; simp [Builtin.len_, run_underlying hd, ab2 g1]; rfl) (fun _ => rfl)), ⟨?_, hH, Stp.refl _ _ _ _ _ _⟩⟩
       rw [hsz]
       exact .int _ _
      ·cases hp
     ·cases hp
    ·cases hc
   ·-- cap
    simp only [bes] at hc
    obtain ⟨d, hd, hc⟩ := hc
    split at hc
    ·cases hc; cases hp
    ·cases hc
   ·cases hc; cases hp
   ·cases hc; cases hp
   ·-- append
    simp only [bes] at hc
    obtain ⟨d, hd, d', hd', hc⟩ := hc
    have hat := two (by assumption)
    obtain ⟨vx, vy, hv, hr1, hr2⟩ := aly hT hargs
    split at hc
    ·rename_i e e'
     simp only [bes] at hc
     obtain ⟨n, hn, z, hz, hc⟩ := hc
     split at hc
     ·rename_i hzl
      simp only [bes] at hc
      obtain ⟨by', hby, hc⟩ := hc
      cases hc
      simp only [heapA] at hp
      split at hp
      ·cases hp
      ·rename_i m hm
       split at hp
       ·cases hp
       ·rename_i news hnews
        obtain ⟨u, w', μ', h1, h2⟩ := ae5 (ty := ty) hd hn hby hz hzl (.inl ⟨e', hd'⟩) hH hid hlt hI hr1 hr2 hm hnews hp
        exact ⟨u, w', μ', .inl (aax (s := Builtin.append_ argTypes ty (cargs.map a.eval)) (by rw [hv, hat]; exact h1) (fun _ => rfl)), h2⟩
     ·cases hc
    ·rename_i e
     simp only [bes] at hc
     obtain ⟨n, hn, z, hz, hc⟩ := hc
     split at hc
     ·rename_i hzl
      simp only [bes] at hc
      obtain ⟨by', hby, hc⟩ := hc
      cases hc
      simp only [heapA] at hp
      split at hp
      ·cases hp
      ·rename_i m hm
       split at hp
       ·cases hp
       ·rename_i news hnews
        obtain ⟨u, w', μ', h1, h2⟩ := ae5 (ty := ty) hd hn hby hz hzl (.inr hd') hH hid hlt hI hr1 hr2 hm hnews hp
        exact ⟨u, w', μ', .inl (aax (s := Builtin.append_ argTypes ty (cargs.map a.eval)) (by rw [hv, hat]; exact h1) (fun _ => rfl)), h2⟩
     ·cases hc
    ·rename_i e
     simp only [bes] at hc
     obtain ⟨n, hn, z, hz, hc⟩ := hc
     split at hc
     ·rename_i hzl
      simp only [bes] at hc
      obtain ⟨by', hby, hc⟩ := hc
      cases hc
      simp only [heapA] at hp
      split at hp
      ·cases hp
      ·rename_i m hm
       split at hp
       ·rename_i hcond
        obtain ⟨u, w', μ', h1, h2⟩ := ail (ty := ty) hd hn hby hz hzl hd' hH hid hlt hI hr1 hr2 hm hcond.2.1 hcond.2.2 hp
        exact ⟨u, w', μ', .inl (aax (s := Builtin.append_ argTypes ty (cargs.map a.eval)) (by rw [hv, hat]; exact h1) (fun _ => rfl)), h2⟩
       ·cases hp
     ·cases hc
    ·cases hc
   ·-- clear
    simp only [bes] at hc
    obtain ⟨d, hd, hc⟩ := hc
    split at hc
    ·rename_i e
     simp only [bes] at hc
     obtain ⟨n, hn, z, hz, hc⟩ := hc
     cases hc
     obtain ⟨vx, hvx, hr⟩ := an0 hT hargs
     have hat := one (by assumption)
     simp only [heapA, Option.map_eq_some_iff] at hp
     obtain ⟨v', hv', hp⟩ := hp
     cases hp
     obtain ⟨u, w', h1, h2⟩ := ak7 (I := I) (ty := ty) hd hn hz hH hr hv'
     exact ⟨u, w', μ, .inl (aax (s := Builtin.clear_ argTypes ty (cargs.map a.eval)) (by rw [hvx, hat]; exact h1) (fun _ => rfl)), h2⟩
    ·cases hc
   ·-- copy
    simp only [bes] at hc
    obtain ⟨d, hd, hc⟩ := hc
    split at hc
    ·rename_i e
     simp only [bes] at hc
     obtain ⟨n, hn, hc⟩ := hc
     cases hc
     obtain ⟨vx, vy, hv, hr1, hr2⟩ := aly hT hargs
     have hat := two (by assumption)
     simp only [heapA] at hp
     obtain ⟨u, w', h1, h2⟩ := amh (I := I) (ty := ty) hd hn hH hr1 hr2 hp
     exact ⟨u, w', μ, .inl (aax (s := Builtin.copy_ argTypes ty (cargs.map a.eval)) (by rw [hv, hat]; exact h1) (fun _ => rfl)), h2⟩
    ·cases hc
   ·cases hc
 all_goals (try simp only [Option.bind_eq_bind, bes, Option.map_eq_some_iff] at hc)
 all_goals (repeat' (first | (cases hc; done) | (obtain ⟨_, _, hc⟩ := hc) | (simp only [bes] at hc) | (split at hc)))
 all_goals first | (cases hp; done) | (cases hc; cases hp; done)
end
end Go.Proofs.YtcmbokfnglkfnaaGreatDoor.Ev
