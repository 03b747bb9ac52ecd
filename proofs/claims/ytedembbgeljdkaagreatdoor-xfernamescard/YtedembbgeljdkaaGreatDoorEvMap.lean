/-
  THE EVALUATOR's MAPS are the model's; slices cleared; bytes as a text.
-/
import Derived.Test.YtedembbgeljdkaaGreatDoorEvMem3
namespace Go.Proofs.YtedembbgeljdkaaGreatDoor.Ev
open Go
set_option linter.all false

section
variable {I : Nat → Prop} {P : Program} {μ : Mu} {F : Nat → Prop} {H : Heap} {w : World} {T : Tm} {a : Act}

theorem ba_eq (a b : ByteArray) (h : (a == b) = true) : a = b := by
  obtain ⟨x⟩ := a; obtain ⟨y⟩ := b
  have : (x == y) = true := h
  have := eq_of_beq this
  rw [this]
theorem ba_refl (a : ByteArray) : (a == a) = true := by
  obtain ⟨x⟩ := a
  show (x == x) = true
  exact beq_self_eq_true x

def KD (d : TypeDesc) (kd : BK) : Prop := (∃ j, d = .int j ∧ kd = .int) ∨ (d = .string ∧ kd = .str)

theorem key_kd {t : TypeId} {kd : BK} (h1 : keyOk P t = true) (h2 : binKind P t = some kd) : ∃ d, P.underlying t = some d ∧ KD d kd := by
  unfold keyOk at h1
  unfold binKind at h2
  split at h1
  · rename_i j hj; rw [hj] at h2; cases h2; exact ⟨_, hj, .inl ⟨j, rfl, rfl⟩⟩
  · rename_i hj; rw [hj] at h2; cases h2; exact ⟨_, hj, .inr ⟨rfl, rfl⟩⟩
  · cases h1

theorem checkKey_ok {t : TypeId} {d : TypeDesc} {kd : BK} {k : AV} {vk : Value} (hd : P.underlying t = some d) (hk : KD d kd) (hv : VR μ F w k vk) (hf : keyFits kd k = true) (b : Bool) : (Instr.checkKey b 10000 t vk).run P w = .ok () w := by
  show (Instr.checkKey b (9999 + 1) t vk).run P w = .ok () w
  unfold Instr.checkKey
  rcases hk with ⟨j, rfl, rfl⟩ | ⟨rfl, rfl⟩
  · simp only [Sem.run_bind, run_underlying hd, Result.andThen_ok]
    cases k <;> simp [keyFits] at hf
    cases hv; rfl
  · simp only [Sem.run_bind, run_underlying hd, Result.andThen_ok]
    cases k <;> simp [keyFits] at hf
    cases hv; rfl

theorem sameNow_ok {d : TypeDesc} {kd : BK} {k k' : AV} {vk vk' : Value} {b : Bool} (hk : KD d kd) (hv : VR μ F w k vk) (hv' : VR μ F w k' vk') (hf : keyFits kd k = true) (h : sameKey k k' = some b) :
    Instr.sameNow d vk vk' = some b ∧ (b = true → Instr.sameBits 10000 vk' vk = true) := by
  rcases hk with ⟨j, rfl, rfl⟩ | ⟨rfl, rfl⟩
  · cases k <;> simp [keyFits] at hf
    cases k' <;> simp [sameKey] at h
    obtain ⟨e, h⟩ := h
    cases hv; cases hv'
    subst e
    refine ⟨by simp [Instr.sameNow, h], fun hb => ?_⟩
    subst hb
    have h := eq_of_beq h
    subst h
    simp [Instr.sameBits]
  · cases k <;> simp [keyFits] at hf
    cases k' <;> simp [sameKey] at h
    cases hv; cases hv'
    refine ⟨by simp [Instr.sameNow, h], fun hb => ?_⟩
    subst hb
    have h := ba_eq _ _ h
    subst h
    simp [Instr.sameBits, ba_refl]

theorem find_ok {d : TypeDesc} {kd : BK} {k : AV} {vk : Value} (hk : KD d kd) (hv : VR μ F w k vk) (hf : keyFits kd k = true) : ∀ (es : List (AV × AV)) (xs : List MapEntry) (i : Nat), LR μ F w (es.map (·.1)) (xs.map (·.key)) → LR μ F w (es.map (·.2)) (xs.map (·.val)) →
    (findE k es = some none → Instr.findNow d vk xs i = some none ∧ ∀ v, updE k v es = es ++ [(k, v)]) ∧
    (∀ x, findE k es = some (some x) → ∃ j e, xs[j]? = some e ∧ Instr.findNow d vk xs i = some (some (i + j, e.val)) ∧ VR μ F w x e.val ∧ Instr.sameBits 10000 e.key vk = true ∧ ∀ v, updE k v es = es.set j (k, v))
  | [], [], i, _, _ => ⟨fun _ => ⟨rfl, fun _ => rfl⟩, fun x h => by simp [findE] at h⟩
  | [], _ :: _, _, h, _ => by have := h.1; simp at this
  | _ :: _, [], _, h, _ => by have := h.1; simp at this
  | (k', v') :: es, e :: xs, i, h1, h2 => by
    have hk1 := h1.head
    have hv1 := h2.head
    obtain ⟨ih1, ih2⟩ := find_ok hk hv hf es xs (i + 1) h1.tail h2.tail
    simp only [findE, updE, Instr.findNow]
    cases hs : sameKey k k' with
    | none => exact ⟨fun h => by simp at h, fun x h => by simp at h⟩
    | some b =>
      obtain ⟨hn, hb⟩ := sameNow_ok hk hv hk1 hf hs
      rw [hn]
      cases b with
      | true =>
        refine ⟨fun h => by simp at h, fun x h => ?_⟩
        simp at h; subst h
        exact ⟨0, e, rfl, by simp, hv1, hb rfl, fun v => rfl⟩
      | false =>
        simp only
        refine ⟨fun h => ⟨(ih1 h).1, fun v => by rw [(ih1 h).2 v]; rfl⟩, fun x h => ?_⟩
        obtain ⟨j, e', g1, g2, g3, g4, g5⟩ := ih2 x h
        exact ⟨j + 1, e', by simpa using g1, by rw [g2]; congr 3; omega, g3, g4, fun v => by rw [g5 v]; rfl⟩

theorem run_getMap {L : Loc} {xs : Array MapEntry} {c : Nat} (h : w.heap[L.blk]? = some (.map xs c)) : (getObj L.blk).run P w = .ok (.map xs c) w := by
  simp [getObj, Sem.run, h]
theorem run_setMap {L : Loc} {xs : Array MapEntry} {c : Nat} (h : w.heap[L.blk]? = some (.map xs c)) (o : Obj) : (setObj L.blk o).run P w = .ok () (w.putObj L.blk o) := by
  simp [setObj, Sem.run, h, World.putObj]

theorem mapEs_ok {x : AV} {vx : Value} {es : List (AV × AV)} (hH : HR P μ F H w) (hx : VR μ F w x vx) (h : mapEs H x = some es) :
    ∃ xs : Array MapEntry, LR μ F w (es.map (·.1)) (xs.toList.map (·.key)) ∧ LR μ F w (es.map (·.2)) (xs.toList.map (·.val)) ∧ ((vx = .map none ∧ xs = #[]) ∨ ∃ (L : Loc) (c : Nat), vx = .map (some L.blk) ∧ w.heap[L.blk]? = some (.map xs c)) := by
  cases x <;> simp only [mapEs] at h <;> first | (cases h; done) | skip
  · cases h; cases hx; exact ⟨#[], LR.nil, LR.nil, .inl ⟨rfl, rfl⟩⟩
  · rename_i b
    split at h
    · rename_i es' hb
      cases h
      cases hx with
      | map _ L hL =>
      obtain ⟨L', hL', hE⟩ := hH.ent b _ hb
      rw [hL] at hL'; cases hL'
      obtain ⟨_, xs, c, g1, g2, g3, _⟩ := hE
      exact ⟨xs, g2, g3, .inr ⟨L, c, rfl, g1⟩⟩
    · rename_i es' hb
      cases h
      cases hx with
      | map _ L hL =>
      obtain ⟨L', hL', hE⟩ := hH.ent b _ hb
      rw [hL] at hL'; cases hL'
      obtain ⟨xs, c, g1, g2, g3, _⟩ := hE
      exact ⟨xs, g2, g3, .inr ⟨L, c, rfl, g1⟩⟩
    · cases h

theorem lookup_run {t kt e : TypeId} {vx vi zv : Value} {ok : Bool} {xs : Array MapEntry} {d : TypeDesc} {res : Option (Nat × Value)} (ht : P.underlying t = some (.map kt e)) (hd : P.underlying kt = some d)
    (hck : ∀ b, (Instr.checkKey b 10000 kt vi).run P w = .ok () w) (hz : (zeroValue e).run P w = .ok zv w)
    (hm : (vx = .map none ∧ xs = #[]) ∨ ∃ (L : Loc) (c : Nat), vx = .map (some L.blk) ∧ w.heap[L.blk]? = some (.map xs c)) (hf : Instr.findNow d vi xs.toList 0 = some res) :
    (Instr.lookup t vx vi ok).run P w = .ok (match res with | some (_, v) => if ok then .tuple #[v, .bool true] else v | none => if ok then .tuple #[zv, .bool false] else zv) w := by
  unfold Instr.lookup
  rcases hm with ⟨rfl, rfl⟩ | ⟨L, c, rfl, hL⟩
  · simp only [Sem.run_bind, run_underlying ht, Result.andThen_ok, Sem.run_pure, hck, Instr.findKey, run_underlying hd, hf]
    cases res with
    | none => cases ok <;> simp [hz]
    | some p => cases ok <;> simp
  · simp only [Sem.run_bind, run_underlying ht, Result.andThen_ok, Sem.run_pure, hck, Instr.findKey, run_underlying hd, run_getMap hL, hf]
    cases res with
    | none => cases ok <;> simp [hz]
    | some p => cases ok <;> simp

theorem lookup_sound {t kt e : TypeId} {kd : BK} {x i z v : AV} {vx vi zv : Value} {ok : Bool} (hH : HR P μ F H w) (ht : P.underlying t = some (.map kt e)) (hk1 : keyOk P kt = true) (hk2 : binKind P kt = some kd)
    (hz : ((P.info? e).bind (·.zero)) = some zv) (hza : constAV zv = some z) (hx : VR μ F w x vx) (hi : VR μ F w i vi)
    (h : lookA H kd z x i ok = some v) : ∃ u, (Instr.lookup t vx vi ok).run P w = .ok u w ∧ VR μ F w v u := by
  obtain ⟨d, hd, hkd⟩ := key_kd hk1 hk2
  unfold lookA at h
  split at h
  · cases h
  rename_i hf
  have hf : keyFits kd i = true := by simpa using hf
  have hzero : (zeroValue e).run P w = .ok zv w := by
    obtain ⟨inf, hinf, hz'⟩ := Option.bind_eq_some_iff.1 hz
    simp [zeroValue, run_info hinf, hz']
  have hzr := constAV_vr (μ := μ) (F := F) (w := w) hza
  split at h
  · cases h
  rename_i es hes
  obtain ⟨xs, g1, g2, g3⟩ := mapEs_ok hH hx hes
  obtain ⟨f1, f2⟩ := find_ok hkd hi hf es xs.toList 0 g1 g2
  have two : ∀ (x : AV) (v : Value) (b : Bool), VR μ F w x v → VR μ F w (.tup [x, .bool b]) (.tuple #[v, .bool b]) := fun x v b h => by
    have := LR.cons h (LR.cons (.bool b) (LR.nil (μ := μ) (F := F) (w := w)))
    exact .tup _ _ rfl fun i c u h1 h2 => this.2 i c u h1 (by simpa using h2)
  have hck : ∀ b, (Instr.checkKey b 10000 kt vi).run P w = .ok () w := fun b => checkKey_ok hd hkd hi hf b
  split at h
  · cases h
  · rename_i hr
    cases h
    refine ⟨_, lookup_run ht hd hck hzero g3 (f1 hr).1, ?_⟩
    cases ok
    · exact hzr
    · exact two _ _ _ hzr
  · rename_i y hr
    cases h
    obtain ⟨j, e', q1, q2, q3, _⟩ := f2 y hr
    refine ⟨_, lookup_run ht hd hck hzero g3 q2, ?_⟩
    cases ok
    · exact q3
    · exact two _ _ _ q3

theorem mapUpd_sound {t kt e : TypeId} {kd : BK} {m k v : AV} {vm vk vv : Value} {H' : Heap} (hH : HR P μ F H w) (ht : P.underlying t = some (.map kt e)) (hk1 : keyOk P kt = true) (hk2 : binKind P kt = some kd)
    (hm : VR μ F w m vm) (hk : VR μ F w k vk) (hv : VR μ F w v vv) (h : mapUpdA H kd m k v = some H') : ∃ w', (Instr.mapUpdate t vm vk vv).run P w = .ok () w' ∧ Done I P μ F H w .undef H' undef w' μ := by
  obtain ⟨d, hd, hkd⟩ := key_kd hk1 hk2
  unfold mapUpdA at h
  split at h
  · cases h
  rename_i hf
  have hf : keyFits kd k = true := by simpa using hf
  have hck : ∀ b, (Instr.checkKey b 10000 kt vk).run P w = .ok () w := fun b => checkKey_ok hd hkd hk hf b
  cases m with
  | map b =>
    simp only at h
    split at h
    · rename_i es hb
      cases hm with
      | map _ L hL =>
      obtain ⟨L', hL', hE⟩ := hH.ent b _ hb
      rw [hL] at hL'; cases hL'
      obtain ⟨hnF, xs, c, g1, g2, g3, g4⟩ := hE
      obtain ⟨f1, f2⟩ := find_ok hkd hk hf es xs.toList 0 g2 g3
      have hlt := (Array.getElem?_eq_some_iff.1 g1).1
      have fin : ∀ (xs' : Array MapEntry) (c' : Nat), LR μ F w ((updE k v es).map (·.1)) (xs'.toList.map (·.key)) → LR μ F w ((updE k v es).map (·.2)) (xs'.toList.map (·.val)) → (∀ e ∈ xs'.toList, e.born < c') →
          HR P μ F (H.put b (.map (updE k v es))) (w.putObj L.blk (.map xs' c')) ∧ Stp I P μ F H w μ F (H.put b (.map (updE k v es))) (w.putObj L.blk (.map xs' c')) := by
        intro xs' c' q1 q2 q3
        refine put_block hH hb rfl hL _ (fun c hc => World.putObj_heap_other hc) (by simp [World.putObj]) rfl rfl rfl (fun hw => ?_) rfl
        exact ⟨hnF, xs', c', World.putObj_heap_same hlt, q1.mono (fun _ _ h => h) (fun _ h => h) hw, q2.mono (fun _ _ h => h) (fun _ h => h) hw, q3⟩
      split at h
      · cases h
      · rename_i r hr
        cases h
        cases r with
        | none =>
          obtain ⟨q1, q2⟩ := f1 hr
          have hup := q2 v
          obtain ⟨r1, r2⟩ := fin (xs.push { key := vk, val := vv, born := c }) (c + 1) (by rw [hup]; simp only [List.map_append, Array.toList_push, List.map_cons, List.map_nil]; exact g2.append (LR.cons hk LR.nil))
            (by rw [hup]; simp only [List.map_append, Array.toList_push, List.map_cons, List.map_nil]; exact g3.append (LR.cons hv LR.nil)) (fun e he => by
              simp only [Array.toList_push, List.mem_append, List.mem_singleton] at he
              rcases he with he | rfl
              · have := g4 e he; omega
              · exact Nat.lt_succ_self _)
          refine ⟨_, ?_, ⟨.undef _, r1, r2⟩⟩
          unfold Instr.mapUpdate
          simp only [Sem.run_bind, run_underlying ht, Result.andThen_ok, run_getMap g1, hck, Instr.findKey, run_underlying hd, q1, Sem.run_pure, run_setMap g1]
        | some y =>
          obtain ⟨j, e', q1, q2, q3, q4, q5⟩ := f2 y hr
          have hup := q5 v
          have hj : xs[j]? = some e' := by simpa using q1
          have hjl : j < xs.size := (Array.getElem?_eq_some_iff.1 hj).1
          have hl : (xs.modify j fun e => { e with key := vk, val := vv }).toList = xs.toList.set j { e' with key := vk, val := vv } := by
            rw [Array.toList_modify]
            rw [List.modify_eq_set]
            rw [q1]; rfl
          obtain ⟨r1, r2⟩ := fin (xs.modify j fun e => { e with key := vk, val := vv }) c (by rw [hup, hl, List.map_set, List.map_set]; exact g2.set j hk) (by rw [hup, hl, List.map_set, List.map_set]; exact g3.set j hv) (fun e he => by
              rw [hl] at he
              rcases List.mem_or_eq_of_mem_set he with he | rfl
              · exact g4 e he
              · exact g4 e' (List.mem_of_getElem? q1))
          refine ⟨_, ?_, ⟨.undef _, r1, r2⟩⟩
          unfold Instr.mapUpdate
          simp only [Sem.run_bind, run_underlying ht, Result.andThen_ok, run_getMap g1, hck, Instr.findKey, run_underlying hd, q2, Sem.run_pure, Nat.zero_add, hj, Option.map_some, Option.getD_some, Instr.keyThatStays, q4, if_true, run_setMap g1]
    · cases h
  | _ => cases h

theorem mkmap_sound {t : TypeId} (hH : HR P μ F H w) {id : Nat} (hid : μ id = none) (hlt : id < H.next) (hI : I id) :
    ∃ u w' μ', (Instr.makeMap t none).run P w = .ok u w' ∧ Done I P μ F H w (.map id) (H.put id (.map [])) u w' μ' := by
  obtain ⟨q1, q2⟩ := new_block hH hid hlt (.map #[] 0) (.map []) 0 0 (fun w' hw hn hnF => ⟨hnF, #[], 0, hn, LR.nil, LR.nil, fun e he => by simp at he⟩) hI w rfl rfl rfl rfl
  exact ⟨_, _, _, by simp [Instr.makeMap], ⟨.map id _ (upd_same id _), q1, q2⟩⟩


/-! ### A text, letter by letter -/

theorem rangeS_sound {t : TypeId} {s : ByteArray} {vx : Value} (ht : P.underlying t = some .string) (hH : HR P μ F H w) {id : Nat} (hid : μ id = none) (hlt : id < H.next) (hI : I id) (hx : VR μ F w (.str s) vx) :
    ∃ u w' μ', (Instr.range t vx).run P w = .ok u w' ∧ Done I P μ F H w (.ptr id 0) (H.put id (.siter s 0)) u w' μ' := by
  cases hx
  obtain ⟨q1, q2⟩ := new_block hH hid hlt (.stringIter s 0) (.siter s 0) 0 0 (fun w' hw hn hnF => ⟨hnF, hn⟩) hI w rfl rfl rfl rfl
  exact ⟨_, _, _, by simp [Instr.range, run_underlying ht], ⟨.ptr id 0 _ (upd_same id _), q1, q2⟩⟩

theorem nextS_sound {x v : AV} {vx : Value} {ty : TypeId} {H' : Heap} (hH : HR P μ F H w) (hx : VR μ F w x vx) (h : nextSA H x = some (v, H')) :
    ∃ u w', (Instr.next vx true ty).run P w = .ok u w' ∧ Done I P μ F H w v H' u w' μ := by
  unfold nextSA at h
  split at h
  · rename_i b
    cases hx with
    | ptr _ _ L hL =>
    split at h
    · rename_i s pos hb
      obtain ⟨L', hL', hE⟩ := hH.ent b _ hb
      rw [hL] at hL'; cases hL'
      obtain ⟨hnF, hh⟩ := hE
      have hg : (getObj L.blk).run P w = .ok (.stringIter s pos) w := by simp [getObj, Sem.run, hh]
      split at h
      · rename_i hlt
        cases h
        have hlt' := (Array.getElem?_eq_some_iff.1 hh).1
        have hs : ∀ o, (setObj L.blk o).run P w = .ok () (w.putObj L.blk o) := fun o => by simp [setObj, Sem.run, hh, World.putObj]
        obtain ⟨q1, q2⟩ := put_block (I := I) (e := .siter s (pos + (Utf8.decode s pos).2)) hH hb rfl hL (w.putObj L.blk (.stringIter s (pos + (Utf8.decode s pos).2))) (fun c hc => World.putObj_heap_other hc) (by simp [World.putObj]) rfl rfl rfl
          (fun hw => ⟨hnF, World.putObj_heap_same hlt'⟩) rfl
        refine ⟨.tuple #[.bool true, goInt pos, .int .i32 (Utf8.decode s pos).1], _, ?_, ⟨?_, q1, q2⟩⟩
        · simp only [Instr.next, Sem.run_bind, hg, Result.andThen_ok, hlt, if_true, hs, Sem.run_pure]
        · refine .tup _ _ rfl fun i c u hi hu => ?_
          have : i = 0 ∨ i = 1 ∨ i = 2 ∨ 3 ≤ i := by omega
          rcases this with rfl | rfl | rfl | h3
          · simp at hi hu; subst hi; subst hu; exact .bool _
          · simp at hi hu; subst hi; subst hu; exact .int _ _
          · simp at hi hu; subst hi; subst hu; exact .int _ _
          · rw [List.getElem?_eq_none (by simpa using h3)] at hi; cases hi
      · rename_i hlt
        cases h
        refine ⟨.tuple #[.bool false], w, ?_, ⟨?_, hH, Stp.refl _ _ _ _ _ _⟩⟩
        · simp only [Instr.next, Sem.run_bind, hg, Result.andThen_ok, hlt, if_false, Sem.run_pure]
        · refine .tup _ _ rfl fun i c u hi hu => ?_
          have : i = 0 ∨ 1 ≤ i := by omega
          rcases this with rfl | h3
          · simp at hi hu; subst hi; subst hu; exact .bool _
          · rw [List.getElem?_eq_none (by simpa using h3)] at hi; cases hi
    · cases h
  · cases h

end
end Go.Proofs.YtedembbgeljdkaaGreatDoor.Ev
