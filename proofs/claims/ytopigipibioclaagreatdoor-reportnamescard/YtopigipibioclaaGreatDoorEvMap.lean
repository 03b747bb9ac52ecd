/- The evaluator, a part. -/
import Derived.Test.YtopigipibioclaaGreatDoorEvHeap
import Derived.Laws.BytesString
namespace Go.Proofs.YtopigipibioclaaGreatDoor.Ev
open Go
set_option linter.all false
section
variable {I : Nat → Prop} {P : Program} {μ : Mu} {F : Nat → Prop} {H : Heap} {w : World} {T : Tm} {a : Act}
theorem Xr (a b : ByteArray) (h : (a == b) = true) : a = b := by
 obtain ⟨x⟩ := a; obtain ⟨y⟩ := b
 have : (x == y) = true := h
 have := eq_of_beq this
 rw [this]
theorem xy (a : ByteArray) : (a == a) = true := by
 obtain ⟨x⟩ := a
 show (x == x) = true
 exact beq_self_eq_true x
def KD (d : TypeDesc) (kd : BK) : Prop := (∃ j, d = .int j ∧ kd = .int) ∨ (d = .string ∧ kd = .str)
theorem rO {t : TypeId} {kd : BK} (h1 : l3 P t = true) (h2 : t8 P t = some kd) : ∃ d, P.underlying t = some d ∧ KD d kd := by
 unfold l3 at h1
 unfold t8 at h2
 split at h1
 ·rename_i j hj; rw [hj] at h2; cases h2; exact ⟨_, hj, .inl ⟨j, rfl, rfl⟩⟩
 ·rename_i hj; rw [hj] at h2; cases h2; exact ⟨_, hj, .inr ⟨rfl, rfl⟩⟩
 ·cases h1
theorem agn {t : TypeId} {d : TypeDesc} {kd : BK} {k : AV} {a : Value} (hd : P.underlying t = some d) (hk : KD d kd) (hv : VR μ F w k a) (hf : ui kd k = true) (b : Bool) : (Instr.checkKey b 10000 t a).run P w = .ok () w := by
 show (Instr.checkKey b (9999 + 1) t a).run P w = .ok () w
 unfold Instr.checkKey
 rcases hk with ⟨j, rfl, rfl⟩ | ⟨rfl, rfl⟩
 ·simp only [Sem.run_bind, run_underlying hd, Result.andThen_ok]
  cases k <;> simp [ui] at hf
  cases hv; rfl
 ·simp only [Sem.run_bind, run_underlying hd, Result.andThen_ok]
  cases k <;> simp [ui] at hf
  cases hv; rfl
theorem amr {d : TypeDesc} {kd : BK} {k a : AV} {c f : Value} {b : Bool} (hk : KD d kd) (hv : VR μ F w k c) (g : VR μ F w a f) (hf : ui kd k = true) (h : CG k a = some b) :
  Instr.sameNow d c f = some b ∧ (b = true → Instr.sameBits 10000 f c = true) := by
 rcases hk with ⟨j, rfl, rfl⟩ | ⟨rfl, rfl⟩
 ·cases k <;> simp [ui] at hf
  cases a <;> simp [CG] at h
  obtain ⟨e, h⟩ := h
  cases hv; cases g
  subst e
  refine ⟨by simp [Instr.sameNow, h], fun hb => ?_⟩
  subst hb
  have h := eq_of_beq h
  subst h
  simp [Instr.sameBits]
 ·cases k <;> simp [ui] at hf
  cases a <;> simp [CG] at h
  cases hv; cases g
  refine ⟨by simp [Instr.sameNow, h], fun hb => ?_⟩
  subst hb
  have h := Xr _ _ h
  subst h
  simp [Instr.sameBits, xy]
theorem akn {d : TypeDesc} {kd : BK} {k : AV} {a : Value} (hk : KD d kd) (hv : VR μ F w k a) (hf : ui kd k = true) : ∀ (es : List (AV × AV)) (xs : List MapEntry) (i : Nat), LR μ F w (es.map (·.1)) (xs.map (·.key)) → LR μ F w (es.map (·.2)) (xs.map (·.val)) →
  (lj k es = some none → Instr.findNow d a xs i = some none ∧ ∀ v, md k v es = es ++ [(k, v)]) ∧
  (∀ x, lj k es = some (some x) → ∃ j e, xs[j]? = some e ∧ Instr.findNow d a xs i = some (some (i + j, e.val)) ∧ VR μ F w x e.val ∧ Instr.sameBits 10000 e.key a = true ∧ ∀ v, md k v es = es.set j (k, v))
 | [], [], i, _, _ => ⟨fun _ => ⟨rfl, fun _ => rfl⟩, fun x h => by simp [lj] at h⟩
 | [], _ :: _, _, h, _ => by have := h.1; simp at this
 | _ :: _, [], _, h, _ => by have := h.1; simp at this
 | (r, s) :: es, e :: xs, i, h1, h2 => by
  have o := h1.head
  have p := h2.head
  obtain ⟨c, q⟩ := akn hk hv hf es xs (i + 1) h1.tail h2.tail
  simp only [lj, md, Instr.findNow]
  cases hs : CG k r with
  | none => exact ⟨fun h => by simp at h, fun x h => by simp at h⟩
  | some b =>
   obtain ⟨hn, hb⟩ := amr hk hv o hf hs
   rw [hn]
   cases b with
   | true =>
    refine ⟨fun h => by simp at h, fun x h => ?_⟩
    simp at h; subst h
    exact ⟨0, e, rfl, by simp, p, hb rfl, fun v => rfl⟩
   | false =>
    simp only
    refine ⟨fun h => ⟨(c h).1, fun v => by rw [(c h).2 v]; rfl⟩, fun x h => ?_⟩
    obtain ⟨j, e', f, g, l, m, n⟩ := q x h
    exact ⟨j + 1, e', by simpa using f, by rw [g]; congr 3; omega, l, m, fun v => by rw [n v]; rfl⟩
theorem XU {L : Loc} {xs : Array MapEntry} {c : Nat} (h : w.heap[L.blk]? = some (.map xs c)) : (getObj L.blk).run P w = .ok (.map xs c) w := by
 simp [getObj, Sem.run, h]
theorem ag6 {L : Loc} {xs : Array MapEntry} {c : Nat} (h : w.heap[L.blk]? = some (.map xs c)) (o : Obj) : (setObj L.blk o).run P w = .ok () (w.putObj L.blk o) := by
 simp [setObj, Sem.run, h, World.putObj]
theorem rL {x : AV} {g : Value} {es : List (AV × AV)} (hH : HR P μ F H w) (hx : VR μ F w x g) (h : kX H x = some es) :
  ∃ xs : Array MapEntry, LR μ F w (es.map (·.1)) (xs.toList.map (·.key)) ∧ LR μ F w (es.map (·.2)) (xs.toList.map (·.val)) ∧ ((g = .map none ∧ xs = #[]) ∨ ∃ (L : Loc) (c : Nat), g = .map (some L.blk) ∧ w.heap[L.blk]? = some (.map xs c)) := by
 cases x <;> simp only [kX] at h <;> first | (cases h; done) | skip
 ·cases h; cases hx; exact ⟨#[], LR.nil, LR.nil, .inl ⟨rfl, rfl⟩⟩
 ·rename_i b
  split at h
  ·rename_i i hb
   cases h
   cases hx with
   | map _ L hL =>
   obtain ⟨L', hL', f⟩ := hH.ent b _ hb
   rw [hL] at hL'; cases hL'
   obtain ⟨_, xs, c, a, d, e, _⟩ := f
   exact ⟨xs, d, e, .inr ⟨L, c, rfl, a⟩⟩
  ·rename_i i hb
   cases h
   cases hx with
   | map _ L hL =>
   obtain ⟨L', hL', f⟩ := hH.ent b _ hb
   rw [hL] at hL'; cases hL'
   obtain ⟨xs, c, a, d, e, _⟩ := f
   exact ⟨xs, d, e, .inr ⟨L, c, rfl, a⟩⟩
  ·cases h
theorem ag0 {t kt e : TypeId} {g f zv : Value} {ok : Bool} {xs : Array MapEntry} {d : TypeDesc} {a : Option (Nat × Value)} (ht : P.underlying t = some (.map kt e)) (hd : P.underlying kt = some d)
  (h : ∀ b, (Instr.checkKey b 10000 kt f).run P w = .ok () w) (hz : (zeroValue e).run P w = .ok zv w)
  (hm : (g = .map none ∧ xs = #[]) ∨ ∃ (L : Loc) (c : Nat), g = .map (some L.blk) ∧ w.heap[L.blk]? = some (.map xs c)) (hf : Instr.findNow d f xs.toList 0 = some a) :
  (Instr.lookup t g f ok).run P w = .ok (match a with | some (_, v) => if ok then .tuple #[v, .bool true] else v | none => if ok then .tuple #[zv, .bool false] else zv) w := by
 unfold Instr.lookup
 rcases hm with ⟨rfl, rfl⟩ | ⟨L, c, rfl, hL⟩
 ·simp only [Sem.run_bind, run_underlying ht, Result.andThen_ok, Sem.run_pure, h, Instr.findKey, run_underlying hd, hf]
  cases a with
  | none => cases ok <;> simp [hz]
  | some p => cases ok <;> simp
 ·simp only [Sem.run_bind, run_underlying ht, Result.andThen_ok, Sem.run_pure, h, Instr.findKey, run_underlying hd, XU hL, hf]
  cases a with
  | none => cases ok <;> simp [hz]
  | some p => cases ok <;> simp
theorem ajr {t kt e : TypeId} {kd : BK} {x i z v : AV} {o a zv : Value} {ok : Bool} (hH : HR P μ F H w) (ht : P.underlying t = some (.map kt e)) (C : l3 P kt = true) (D : t8 P kt = some kd)
  (hz : ((P.info? e).bind (·.zero)) = some zv) (G : CF zv = some z) (hx : VR μ F w x o) (hi : VR μ F w i a)
  (h : pf H kd z x i ok = some v) : ∃ u, (Instr.lookup t o a ok).run P w = .ok u w ∧ VR μ F w v u := by
 obtain ⟨d, hd, k⟩ := rO C D
 unfold pf at h
 split at h
 ·cases h
 rename_i hf
 have hf : ui kd i = true := by simpa using hf
 have l : (zeroValue e).run P w = .ok zv w := by
  obtain ⟨J, B, E⟩ := Option.bind_eq_some_iff.1 hz
  simp [zeroValue, xJ B, E]
 have m := YT (μ := μ) (F := F) (w := w) G
 split at h
 ·cases h
 rename_i es A
 obtain ⟨xs, r, s, f⟩ := rL hH hx A
 obtain ⟨p, q⟩ := akn k hi hf es xs.toList 0 r s
 have two : ∀ (x : AV) (v : Value) (b : Bool), VR μ F w x v → VR μ F w (.tup [x, .bool b]) (.tuple #[v, .bool b]) := fun x v b h => by
  have := LR.cons h (LR.cons (.bool b) (LR.nil (μ := μ) (F := F) (w := w)))
  exact .tup _ _ rfl fun i c u h1 h2 => this.2 i c u h1 (by simpa using h2)
 have g : ∀ b, (Instr.checkKey b 10000 kt a).run P w = .ok () w := fun b => agn hd k hi hf b
 split at h
 ·cases h
 ·rename_i hr
  cases h
  refine ⟨_, ag0 ht hd g l f (p hr).1, ?_⟩
  cases ok
  ·exact m
  ·exact two _ _ _ m
 ·rename_i y hr
  cases h
  obtain ⟨j, e', K, I, n, _⟩ := q y hr
  refine ⟨_, ag0 ht hd g l f I, ?_⟩
  cases ok
  ·exact n
  ·exact two _ _ _ n
theorem afc {t kt e : TypeId} {kd : BK} {m k v : AV} {J g o : Value} {H' : Heap} (hH : HR P μ F H w) (ht : P.underlying t = some (.map kt e)) (O : l3 P kt = true) (Q : t8 P kt = some kd)
  (hm : VR μ F w m J) (hk : VR μ F w k g) (hv : VR μ F w v o) (h : aks H kd m k v = some H') : ∃ w', (Instr.mapUpdate t J g o).run P w = .ok () w' ∧ Done I P μ F H w .undef H' undef w' μ := by
 obtain ⟨d, hd, D⟩ := rO O Q
 unfold aks at h
 split at h
 ·cases h
 rename_i hf
 have hf : ui kd k = true := by simpa using hf
 have C : ∀ b, (Instr.checkKey b 10000 kt g).run P w = .ok () w := fun b => agn hd D hk hf b
 cases m with
 | map b =>
  simp only at h
  split at h
  ·rename_i es hb
   cases hm with
   | map _ L hL =>
   obtain ⟨L', hL', N⟩ := hH.ent b _ hb
   rw [hL] at hL'; cases hL'
   obtain ⟨S, xs, c, p, u, x, n⟩ := N
   obtain ⟨K, M⟩ := akn D hk hf es xs.toList 0 u x
   have R := (Array.getElem?_eq_some_iff.1 p).1
   have B : ∀ (l : Array MapEntry) (c' : Nat), LR μ F w ((md k v es).map (·.1)) (l.toList.map (·.key)) → LR μ F w ((md k v es).map (·.2)) (l.toList.map (·.val)) → Yf l.toList c' →
     HR P μ F (H.put b (.map (md k v es))) (w.putObj L.blk (.map l c')) ∧ Stp I P μ F H w μ F (H.put b (.map (md k v es))) (w.putObj L.blk (.map l c')) := by
    intro l c' f s G
    refine Ci hH hb rfl hL _ (fun c hc => World.putObj_heap_other hc) (by simp [World.putObj]) rfl rfl rfl (fun E => ?_) rfl
    exact ⟨S, l, c', World.putObj_heap_same R, f.mono (fun _ _ h => h) (fun _ h => h) E, s.mono (fun _ _ h => h) (fun _ h => h) E, G⟩
   split at h
   ·cases h
   ·rename_i r hr
    cases h
    cases r with
    | none =>
     obtain ⟨f, s⟩ := K hr
     have q := s v
     obtain ⟨z, A⟩ := B (xs.push { key := g, val := o, born := c }) (c + 1) (by rw [q]; simp only [List.map_append, Array.toList_push, List.map_cons, List.map_nil]; exact u.append (LR.cons hk LR.nil))
      (by rw [q]; simp only [List.map_append, Array.toList_push, List.map_cons, List.map_nil]; exact x.append (LR.cons hv LR.nil)) ⟨fun e he => by
       simp only [Array.toList_push, List.mem_append, List.mem_singleton] at he
       rcases he with he | rfl
       ·have := n.1 e he; omega
       ·exact Nat.lt_succ_self _, by
       simp only [Array.toList_push, List.map_append, List.map_cons, List.map_nil]
       refine List.nodup_append.2 ⟨n.2, by simp, fun a ha b hb => ?_⟩
       simp only [List.mem_singleton] at hb
       subst hb
       obtain ⟨e, he, rfl⟩ := List.mem_map.1 ha
       have := n.1 e he
       omega⟩
     refine ⟨_, ?_, ⟨.undef _, z, A⟩⟩
     unfold Instr.mapUpdate
     simp only [Sem.run_bind, run_underlying ht, Result.andThen_ok, XU p, C, Instr.findKey, run_underlying hd, f, Sem.run_pure, ag6 p]
    | some y =>
     obtain ⟨j, e', f, s, G, T, U⟩ := M y hr
     have q := U v
     have hj : xs[j]? = some e' := by simpa using f
     have V : j < xs.size := (Array.getElem?_eq_some_iff.1 hj).1
     have hl : (xs.modify j fun e => { e with key := g, val := o }).toList = xs.toList.set j { e' with key := g, val := o } := by
      rw [Array.toList_modify]
      rw [List.modify_eq_set]
      rw [f]; rfl
     obtain ⟨z, A⟩ := B (xs.modify j fun e => { e with key := g, val := o }) c (by rw [q, hl, List.map_set, List.map_set]; exact u.set j hk) (by rw [q, hl, List.map_set, List.map_set]; exact x.set j hv) ⟨fun e he => by
       rw [hl] at he
       rcases List.mem_or_eq_of_mem_set he with he | rfl
       ·exact n.1 e he
       ·exact n.1 e' (List.mem_of_getElem? f), by
       have e0 : (xs.toList.map (·.born)).set j e'.born = xs.toList.map (·.born) := by
        apply List.ext_getElem?
        intro i
        by_cases hi : j = i
        ·subst hi
         rw [List.getElem?_set_self', List.getElem?_map, f]; rfl
        ·rw [List.getElem?_set_ne hi]
       rw [hl, List.map_set]
       show ((xs.toList.map (·.born)).set j e'.born).Nodup
       rw [e0]; exact n.2⟩
     refine ⟨_, ?_, ⟨.undef _, z, A⟩⟩
     unfold Instr.mapUpdate
     simp only [Sem.run_bind, run_underlying ht, Result.andThen_ok, XU p, C, Instr.findKey, run_underlying hd, s, Sem.run_pure, Nat.zero_add, hj, Option.map_some, Option.getD_some, Instr.keyThatStays, T, if_true, ag6 p]
  ·cases h
 | _ => cases h
theorem akj {t : TypeId} (hH : HR P μ F H w) {id : Nat} (b : μ id = none) (c : id < H.next) (a : I id) :
  ∃ u w' μ', (Instr.makeMap t none).run P w = .ok u w' ∧ Done I P μ F H w (.map id) (H.put id (.map [])) u w' μ' := by
 obtain ⟨f, g⟩ := XS hH b c (.map #[] 0) (.map []) 0 0 (fun w' h hn d => ⟨d, #[], 0, hn, LR.nil, LR.nil, fun e he => by simp at he, List.nodup_nil⟩) a w rfl rfl rfl rfl
 exact ⟨_, _, _, by simp [Instr.makeMap], ⟨.map id _ (upd_same id _), f, g⟩⟩
/-! ### A text, letter by letter -/
theorem ajp {t : TypeId} {s : ByteArray} {a : Value} (ht : P.underlying t = some .string) (hH : HR P μ F H w) {id : Nat} (c : μ id = none) (d : id < H.next) (b : I id) (hx : VR μ F w (.str s) a) :
  ∃ u w' μ', (Instr.range t a).run P w = .ok u w' ∧ Done I P μ F H w (.ptr id 0) (H.put id (.siter s 0)) u w' μ' := by
 cases hx
 obtain ⟨f, g⟩ := XS hH c d (.stringIter s 0) (.siter s 0) 0 0 (fun w' h hn e => ⟨e, hn⟩) b w rfl rfl rfl rfl
 exact ⟨_, _, _, by simp [Instr.range, run_underlying ht], ⟨.ptr id 0 _ (upd_same id _), f, g⟩⟩
theorem ake {x v : AV} {f : Value} {ty : TypeId} {H' : Heap} (hH : HR P μ F H w) (hx : VR μ F w x f) (h : anl H x = some (v, H')) :
  ∃ u w', (Instr.next f true ty).run P w = .ok u w' ∧ Done I P μ F H w v H' u w' μ := by
 unfold anl at h
 split at h
 ·rename_i b
  cases hx with
  | ptr _ _ L hL =>
  split at h
  ·rename_i s pos hb
   obtain ⟨L', hL', g⟩ := hH.ent b _ hb
   rw [hL] at hL'; cases hL'
   obtain ⟨k, hh⟩ := g
   have hg : (getObj L.blk).run P w = .ok (.stringIter s pos) w := by simp [getObj, Sem.run, hh]
   split at h
   ·rename_i d
    cases h
    have j := (Array.getElem?_eq_some_iff.1 hh).1
    have hs : ∀ o, (setObj L.blk o).run P w = .ok () (w.putObj L.blk o) := fun o => by simp [setObj, Sem.run, hh, World.putObj]
    obtain ⟨l, m⟩ := Ci (I := I) (e := .siter s (pos + (Utf8.decode s pos).2)) hH hb rfl hL (w.putObj L.blk (.stringIter s (pos + (Utf8.decode s pos).2))) (fun c hc => World.putObj_heap_other hc) (by simp [World.putObj]) rfl rfl rfl
     (fun n => ⟨k, World.putObj_heap_same j⟩) rfl
    refine ⟨.tuple #[.bool true, goInt pos, .int .i32 (Utf8.decode s pos).1], _, ?_, ⟨?_, l, m⟩⟩
    ·simp only [Instr.next, Sem.run_bind, hg, Result.andThen_ok, d, if_true, hs, Sem.run_pure]
    ·refine .tup _ _ rfl fun i c u hi a => ?_
     have : i = 0 ∨ i = 1 ∨ i = 2 ∨ 3 ≤ i := by omega
     rcases this with rfl | rfl | rfl | h3
     ·simp at hi a; subst hi; subst a; exact .bool _
     ·simp at hi a; subst hi; subst a; exact .int _ _
     ·simp at hi a; subst hi; subst a; exact .int _ _
     ·rw [List.getElem?_eq_none (by simpa using h3)] at hi; cases hi
   ·rename_i d
    cases h
    refine ⟨.tuple #[.bool false], w, ?_, ⟨?_, hH, Stp.refl _ _ _ _ _ _⟩⟩
    ·simp only [Instr.next, Sem.run_bind, hg, Result.andThen_ok, d, if_false, Sem.run_pure]
    ·refine .tup _ _ rfl fun i c u hi a => ?_
     have : i = 0 ∨ 1 ≤ i := by omega
     rcases this with rfl | h3
     ·simp at hi a; subst hi; subst a; exact .bool _
     ·rw [List.getElem?_eq_none (by simpa using h3)] at hi; cases hi
  ·cases h
 ·cases h
end
end Go.Proofs.YtopigipibioclaaGreatDoor.Ev

namespace Go.Proofs.YtopigipibioclaaGreatDoor.Ev
open Go
set_option linter.all false
section
variable {I : Nat → Prop} {P : Program} {μ : Mu} {F : Nat → Prop} {H : Heap} {w : World} {T : Tm} {a : Act}
theorem pb {s : Sem Unit} {w' : World} (h : s.run P w = .ok () w') : ((do s; pure Next.skip) : Sem Next).run P w = .ok .skip w' := by
 simp [h]
theorem ak4 {t e ty : TypeId} {size : Nat} {z : List AV} {x : AV} {j : Value} {H' : Heap} (ht : P.underlying t = some (.slice e)) (hs : gz P e = some size) (hz : l9 P e = some z) (hH : HR P μ F H w) (hx : VR μ F w x j)
  (h : anj H size z x = some H') :
  ∃ u w', (Builtin.clear_ #[t] ty #[j]).run P w = .ok u w' ∧ Done I P μ F H w (.tup []) H' u w' μ := by
 have a : VR μ F w (.tup []) (.tuple #[]) := .tup _ _ rfl fun i c v h => by simp at h
 have p : ∀ w, VR μ F w (.tup []) (.tuple #[]) := fun w => .tup _ _ rfl fun i c v h => by simp at h
 cases x with
 | nilSl =>
  cases h; cases hx
  exact ⟨_, w, by simp [Builtin.clear_, run_underlying ht], ⟨a, hH, Stp.refl _ _ _ _ _ _⟩⟩
 | own b off n c sz ex =>
  cases hx with
  | own _ _ _ _ _ _ L cap h1 h2 h3 h4 h5 M =>
  simp only [anj] at h
  split at h
  ·rename_i cs O hb
   split at h
   ·rename_i hn
    cases h
    subst hn
    exact ⟨_, w, by simp [Builtin.clear_, run_underlying ht], ⟨a, hH, Stp.refl _ _ _ _ _ _⟩⟩
   ·rename_i hn
    split at h
    ·rename_i hc
     obtain ⟨c1, c2, c3, c4⟩ := hc
     cases h
     subst c1
     obtain ⟨zv, A, d⟩ := XL hz w
     have N : zv.cells.size = sz := by have := (d μ F w).1; simp at this; omega
     have q := (d μ F w).rep n
     have hlen : ((List.replicate n z).flatten).length = n * sz := by simp [c3]
     have m : ((List.replicate n z).flatten).all AV.one = true := by
      rw [List.all_eq_true] at c4 ⊢
      intro y hy
      simp only [List.mem_flatten, List.mem_replicate] at hy
      obtain ⟨l, ⟨_, rfl⟩, hy⟩ := hy
      exact c4 y hy
     obtain ⟨arr, fr, B, C, D, E, G, J, K⟩ := uE hH hb h1
     obtain ⟨w', r, f, g⟩ := YJ (I := I) hH hb h1 (o := off) q m (by omega) (by omega)
     rw [hlen] at f g
     refine ⟨_, w', ?_, ⟨p _, f, g⟩⟩
     have s : (Builtin.zeroCells zv.cells n).toList = (List.replicate n zv.cells.toList).flatten := by
      unfold Builtin.zeroCells
      exact Zd _ _ rfl
     unfold Builtin.clear_
     simp only [List.getElem?_toArray, List.getElem?_cons_zero, Sem.run_bind, run_underlying ht, Result.andThen_ok]
     obtain ⟨k, rfl⟩ : ∃ k, n = k + 1 := ⟨n - 1, by omega⟩
     simp only [Sem.run_bind, A, Result.andThen_ok, s, r, Sem.run_pure]
    ·cases h
  ·cases h
 | _ => cases h
theorem ane {t r e ty : TypeId} {size : Nat} {x y v : AV} {g i : Value} {H' : Heap} (ht : P.underlying t = some (.slice e)) (hs : gz P e = some size) (hH : HR P μ F H w) (hx : VR μ F w x g) (hy : VR μ F w y i)
  (h : tN H size x y = some (v, H')) :
  ∃ u w', (Builtin.copy_ #[t, r] ty #[g, i]).run P w = .ok u w' ∧ Done I P μ F H w v H' u w' μ := by
 unfold tN at h
 split at h
 ·cases h
 rename_i m hm
 have hlen := YW (P := P) hy hm
 cases x with
 | nilSl =>
  cases hx
  simp only at h
  split at h
  ·rename_i l a
   cases h
   obtain ⟨hl, nv, d, f⟩ := Y8 (P := P) hH hy a
   refine ⟨goInt ((0 : Nat) : Int), w, ?_, .int _ _, hH, Stp.refl _ _ _ _ _ _⟩
   have j : Nat.min m 0 = 0 := Nat.min_eq_right (Nat.zero_le _)
   unfold Builtin.copy_
   simp only [List.getElem?_toArray, List.getElem?_cons_zero, List.getElem?_cons_succ, Sem.run_bind, run_underlying ht, Result.andThen_ok, lH hs, Sem.run_pure, hlen, j, d w rfl]
  ·cases h
 | own b off n c sz ex =>
  cases hx with
  | own _ _ _ _ _ _ L cap h1 h2 h3 h4 h5 s =>
  simp only at h
  split at h
  ·rename_i l cs A a hb
   split at h
   ·rename_i hc
    obtain ⟨c1, c2, c3⟩ := hc
    cases h
    subst c1
    obtain ⟨hl, nv, d, f⟩ := Y8 (P := P) hH hy a
    have z : Nat.min m n * sz ≤ cap * sz := Nat.mul_le_mul_right _ (Nat.le_trans (Nat.min_le_right _ _) (Nat.le_trans h3 h4))
    obtain ⟨w', k, p, q⟩ := YJ (I := I) hH hb h1 (o := off) f c3 c2 (by omega)
    refine ⟨goInt ((Nat.min m n : Nat) : Int), w', ?_, .int _ _, p, q⟩
    unfold Builtin.copy_
    simp only [List.getElem?_toArray, List.getElem?_cons_zero, List.getElem?_cons_succ, Sem.run_bind, run_underlying ht, Result.andThen_ok, lH hs, Sem.run_pure, hlen, d w rfl, k]
   ·cases h
  ·cases h
 | _ => cases h
def qF (P : Program) (a : Act) (w : World) (o : Oper) (u : Value) (w' : World) : Prop :=
 (execOp a.eval o).run P w = .ok (.value u) w' ∨ ((execOp a.eval o).run P w = .ok .skip w' ∧ u = undef)
theorem ami {b : Array Operand} {x y : Src} (hT : LR μ F w T a.tmps.toList) (h : b.toList.mapM cH = some [x, y]) : ∃ c d, b.map a.eval = #[c, d] ∧ VR μ F w (x.ev T) c ∧ VR μ F w (y.ev T) d := by
 have hl := yn hT h
 have h1 := hl.1
 simp only [List.map_cons, List.map_nil, List.length_cons, List.length_nil, List.length_map, Array.length_toList] at h1
 obtain ⟨l⟩ := b
 match l, h1 with
 | [p, q], _ => exact ⟨a.eval p, a.eval q, by simp, hl.2 0 _ _ rfl rfl, hl.2 1 _ _ rfl rfl⟩
theorem anz {b : Array Operand} {x : Src} (hT : LR μ F w T a.tmps.toList) (h : b.toList.mapM cH = some [x]) : ∃ c, b.map a.eval = #[c] ∧ VR μ F w (x.ev T) c := by
 have hl := yn hT h
 have h1 := hl.1
 simp only [List.map_cons, List.map_nil, List.length_cons, List.length_nil, List.length_map, Array.length_toList] at h1
 obtain ⟨l⟩ := b
 match l, h1 with
 | [p], _ => exact ⟨a.eval p, by simp, hl.2 0 _ _ rfl rfl⟩
theorem yq {dst : Option Tmp} {ty : TypeId} {pos : String} {after : Array Edge} {guard : Option (Nat × Bool)} {b : Builtin} {c : Array Operand} {argTypes : Array TypeId} {s : Sem Value} {u : Value} {w' : World}
  (h1 : s.run P w = .ok u w') (h2 : ∀ d, builtin b argTypes ty d (c.map a.eval) = (do pure (.value (← s)))) :
  (execOp a.eval ⟨dst, .call ⟨.builtin b, c, argTypes⟩, ty, pos, after, guard⟩).run P w = .ok (.value u) w' := by
 simp only [execOp, resolve, Sem.run_bind, Sem.run_pure, Result.andThen_ok, invoke]
 exact (congrArg (fun s => s.run P w) (h2 _)).trans (cW h1)
theorem ajv {x v : AV} {a : Value} {id size bytes ty m : Nat} {d : List AV} {fr : Option Nat} {H' : Heap} (h : Ce H id size bytes ty x m d fr = some (v, H')) (hx : VR μ F w x a) : ∃ base n cap, a = .slice base n cap := by
 cases x with
 | nilSl => cases hx; exact ⟨_, _, _, rfl⟩
 | own b off n c sz ex => cases hx; exact ⟨_, _, _, rfl⟩
 | _ => cases h
theorem ai7 {t : TypeId} {z : List AV} (h : l9 P t = some z) : ∃ i zv, P.info? t = some i ∧ i.zero = some zv ∧ ans zv = some z := by
 simp only [l9, Option.bind_eq_bind, bN] at h
 obtain ⟨i, hi, zv, hz, h⟩ := h
 exact ⟨i, zv, hi, hz, h⟩
theorem ae3 {t f e ty n bytes id m : Nat} {z b : List AV} {x v y : AV} {c d : Value} {fr : Option Nat} {H' : Heap} (ht : P.underlying t = some (.slice e)) (hn : gz P e = some n) (hb : qP P e = some bytes) (hz : l9 P e = some z) (L : z.length = n)
  (hpl : Plain P f) (hH : HR P μ F H w) (q : μ id = none) (s : id < H.next) (l : I id) (hx : VR μ F w x c) (hy : VR μ F w y d) (hm : mV y = some m) (A : py H n m y = some b)
  (h : Ce H id n bytes e x m b fr = some (v, H')) :
  ∃ u w' μ', (Builtin.append_ #[t, f] ty #[c, d]).run P w = .ok u w' ∧ Done I P μ F H w v H' u w' μ' := by
 obtain ⟨i, zv, hi, J, E⟩ := ai7 hz
 have G : zv.cells.size = n := by
  have := (XE (μ := μ) (F := F) (w := w) E).1
  simp at this; omega
 have p : i.bytes = bytes := by
  simp only [qP, hi, Option.map_some, Option.some.injEq] at hb; exact hb
 obtain ⟨base, k, cap, rfl⟩ := ajv h hx
 obtain ⟨hlen, nv, a, B⟩ := Y8 hH hy A
 refine aeg (nv := nv.toArray) (zv := zv) hH q s l hn G hx (by simpa using B) hlen h ?_ ?_
 ·intro g K cap' e1 r
  cases e1
  exact aou ht hn hpl (YW hy hm) (a w rfl) r
 ·intro g K cap' M e1 C j o D
  cases e1
  exact amk ht hn hi p J hpl (YW hy hm) a D C j o
/-! ### append(s, make([]T, m)...) -/
theorem akh {t g e ty : TypeId} {size bytes n m cap : Nat} {base : Option Addr} {i : TypeInfo} {zv : Value} {l o : IntKind}
  (ht : P.underlying t = some (.slice e)) (hs : gz P e = some size) (hi : P.info? e = some i) (h : i.bytes = bytes) (hz : i.zero = some zv) (k : zv.cells.size = size) (hx : P.underlying g = some (.int l))
  (hm : m < 2 ^ 62) (p : m * bytes ≤ 2 ^ 46) (d : n + m ≤ cap) :
  (Builtin.append_ #[t, g] ty #[.slice base n cap, .int o (m : Int)]).run P w = ((match base with | some a => storeCells (a.add (n * size)) (Builtin.zeroCells zv.cells m).toList | none => pure () : Sem Unit).run P w).andThen fun _ w' => .ok (.slice base (n + m) cap) w' := by
 have e1 := Yr (c := m) (by omega)
 have f : ¬ ((m : Int) < 0) := by omega
 have b : ¬ ((m : Int) * (i.bytes : Int) > 2 ^ 48) := by
  have : ((m * i.bytes : Nat) : Int) = (m : Int) * (i.bytes : Int) := by simp
  rw [← this, h]; omega
 unfold Builtin.append_
 by_cases h0 : m * size = 0
 ·have j : Builtin.zeroCells zv.cells m = #[] := by
   have : (Builtin.zeroCells zv.cells m).size = 0 := by rw [Yp, k, h0]
   exact Array.eq_empty_of_size_eq_zero this
  simp only [List.getElem?_toArray, List.getElem?_cons_zero, List.getElem?_cons_succ, Sem.run_bind, run_underlying ht, Result.andThen_ok, lH hs, run_underlying hx, Sem.run_pure, if_true, asInt, asIntOf, e1, f, if_false, xJ hi, b, Int.toNat_natCast, Bool.not_true, Bool.false_eq_true, h0, d, j]
  cases base <;> simp
 ·simp only [List.getElem?_toArray, List.getElem?_cons_zero, List.getElem?_cons_succ, Sem.run_bind, run_underlying ht, Result.andThen_ok, lH hs, run_underlying hx, Sem.run_pure, if_true, asInt, asIntOf, e1, f, if_false, xJ hi, b, Int.toNat_natCast, Bool.not_true, Bool.false_eq_true, h0, d, zeroValue, hz]
  cases base <;> simp
theorem aiy {t k e ty : TypeId} {size bytes n m cap : Nat} {base : Option Addr} {j : Array Value} {i : TypeInfo} {zv : Value} {q r : IntKind}
  (ht : P.underlying t = some (.slice e)) (hs : gz P e = some size) (hi : P.info? e = some i) (b : i.bytes = bytes) (hz : i.zero = some zv) (p : zv.cells.size = size) (hx : P.underlying k = some (.int q))
  (hm : m < 2 ^ 62) (s : m * bytes ≤ 2 ^ 46) (l : ∀ w', w'.heap = w.heap → (Builtin.firstCells size n (.slice base n cap)).run P w' = .ok j w')
  (d : ¬ n + m ≤ cap) (hb : (n + m) * bytes ≤ 2 ^ 46) (hn : n + m < 2 ^ 62) :
  ∃ cap', n + m ≤ cap' ∧ (Builtin.append_ #[t, k] ty #[.slice base n cap, .int r (m : Int)]).run P w =
   .ok (.slice (some ⟨w.heap.size, 0, none⟩) (n + m) cap') (({ w with drawn := w.drawn + 1 } : World).alloc (.cells (j ++ Builtin.zeroCells zv.cells m ++ Builtin.zeroCells zv.cells (cap' - (n + m))) e)) := by
 have e1 := Yr (c := m) (by omega)
 have f : ¬ ((m : Int) < 0) := by omega
 have a : ¬ ((m : Int) * (i.bytes : Int) > 2 ^ 48) := by
  have : ((m * i.bytes : Nat) : Int) = (m : Int) * (i.bytes : Int) := by simp
  rw [← this, b]; omega
 have g : ¬ Builtin.nextslicecap (n + m) cap * i.bytes > 2 ^ 48 := by
  have h1 := ag3 (need := n + m) (cap := cap) (by omega)
  have h2 : Builtin.nextslicecap (n + m) cap * bytes ≤ 2 * (n + m) * bytes := Nat.mul_le_mul_right _ h1
  rw [Nat.mul_assoc] at h2
  rw [b]; omega
 have hmax : ¬ ((↑(n + m) : Int) > IntKind.i64.max ∧ (True ∨ i.bytes = 0)) := by
  rintro ⟨h1, _⟩
  have : IntKind.i64.max = 9223372036854775807 := by decide
  rw [this] at h1
  omega
 refine ⟨(Question.appendCap (n + m) cap e).cut (w.tape w.drawn (Question.appendCap (n + m) cap e)), by simp [Question.cut], ?_⟩
 have hq : (choose (Question.appendCap (n + m) cap e)).run P w = .ok ((Question.appendCap (n + m) cap e).cut (w.tape w.drawn (Question.appendCap (n + m) cap e))) { w with drawn := w.drawn + 1 } := by
  rw [run_choose, if_neg (by simp [Question.forced])]
 have h := l { w with drawn := w.drawn + 1 } rfl
 generalize (Question.appendCap (n + m) cap e).cut (w.tape w.drawn (Question.appendCap (n + m) cap e)) = c at hq
 unfold Builtin.append_
 by_cases h0 : m * size = 0
 ·have o : Builtin.zeroCells zv.cells m = #[] := by
   have : (Builtin.zeroCells zv.cells m).size = 0 := by rw [Yp, p, h0]
   exact Array.eq_empty_of_size_eq_zero this
  simp only [List.getElem?_toArray, List.getElem?_cons_zero, List.getElem?_cons_succ, Sem.run_bind, run_underlying ht, Result.andThen_ok, lH hs, run_underlying hx, Sem.run_pure, if_true, asInt, asIntOf, e1, f, if_false, xJ hi, a, Int.toNat_natCast, Bool.not_true, Bool.false_eq_true, h0, d, o,
   hmax, g, hq, run_askRoom, h, zeroValue, hz, yv]
 ·simp only [List.getElem?_toArray, List.getElem?_cons_zero, List.getElem?_cons_succ, Sem.run_bind, run_underlying ht, Result.andThen_ok, lH hs, run_underlying hx, Sem.run_pure, if_true, asInt, asIntOf, e1, f, if_false, xJ hi, a, Int.toNat_natCast, Bool.not_true, Bool.false_eq_true, h0, d,
   hmax, g, hq, run_askRoom, h, zeroValue, hz, yv]
theorem ahw {t r e ty n bytes id m : Nat} {z : List AV} {x v y : AV} {p c : Value} {fr : Option Nat} {H' : Heap} {Q : IntKind} (ht : P.underlying t = some (.slice e)) (hn : gz P e = some n) (hb : qP P e = some bytes) (hz : l9 P e = some z) (N : z.length = n)
  (j : P.underlying r = some (.int Q)) (hH : HR P μ F H w) (D : μ id = none) (G : id < H.next) (B : I id) (hx : VR μ F w x p) (hy : VR μ F w y c) (hm : i7 y = some m) (f : m * bytes ≤ 2 ^ 46) (g : m < 2 ^ 62)
  (h : Ce H id n bytes e x m ((List.replicate m z).flatten) fr = some (v, H')) :
  ∃ u w' μ', (Builtin.append_ #[t, r] ty #[p, c]).run P w = .ok u w' ∧ Done I P μ F H w v H' u w' μ' := by
 obtain ⟨i, zv, hi, o, M⟩ := ai7 hz
 have l := XE (μ := μ) (F := F) (w := w) M
 have b : zv.cells.size = n := by
  have := l.1
  simp at this; omega
 have d : i.bytes = bytes := by
  simp only [qP, hi, Option.map_some, Option.some.injEq] at hb; exact hb
 obtain ⟨base, k, cap, rfl⟩ := ajv h hx
 obtain ⟨a, rfl⟩ : ∃ a, c = .int a (m : Int) := by
  cases y with
  | int a q =>
   cases q with
   | ofNat q => simp only [i7, Option.some.injEq] at hm; subst hm; cases hy; exact ⟨a, rfl⟩
   | negSucc q => simp [i7] at hm
  | _ => simp [i7] at hm
 have O : (Builtin.zeroCells zv.cells m).toList = (List.replicate m zv.cells.toList).flatten := by
  unfold Builtin.zeroCells
  exact Zd _ _ rfl
 have J : LR μ F w ((List.replicate m z).flatten) (Builtin.zeroCells zv.cells m).toList := by rw [O]; exact l.rep m
 refine aeg (nv := Builtin.zeroCells zv.cells m) (zv := zv) hH D G B hn b hx J (by simp [N]) h ?_ ?_
 ·intro s R cap' e1 E
  cases e1
  exact akh ht hn hi d o b j g f E
 ·intro s R cap' S e1 K A C L
  cases e1
  exact aiy ht hn hi d o b j g f L K A C
/-! ### string(bytes) -/
theorem af8 : ∀ (cs : List AV) (s r : ByteArray) (nv : List Value), Cy cs s = some r → LR μ F w cs nv → ∃ a : List Int, nv = a.map (Value.int .u8) ∧ r = a.foldl (fun r n => r.push (UInt8.ofNat n.toNat)) s
 | [], s, r, nv, h, hl => by
  have := hl.1
  cases nv with
  | nil => cases h; exact ⟨[], rfl, rfl⟩
  | cons x nv => simp at this
 | c :: cs, s, r, nv, h, hl => by
  cases nv with
  | nil => have := hl.1; simp at this
  | cons x nv =>
   have hx := hl.head
   obtain ⟨q, rfl⟩ : ∃ q, c = .int .u8 q := by
    unfold Cy at h
    split at h
    ·rename_i e; cases e
    ·rename_i e; cases e; exact ⟨_, rfl⟩
    ·cases h
   simp only [Cy] at h
   cases hx
   obtain ⟨a, h1, h2⟩ := af8 cs _ r nv h hl.tail
   exact ⟨q :: a, by rw [h1]; rfl, by rw [h2]; rfl⟩
theorem akq {c dst e : TypeId} {x : AV} {d : Value} {s : ByteArray} (hs : P.underlying c = some (.slice e)) (he : P.underlying e = some (.int .u8)) (hd : P.underlying dst = some .string)
  (hH : HR P μ F H w) (hx : VR μ F w x d) (h : Yk H x = some s) : (convert c dst d).run P w = .ok (.string s) w := by
 have g : ∀ t, x ≠ .str t := fun t e => by subst e; simp [Yk] at h
 have h' : (match mV x with | none => none | some n => match py H 1 n x with | none => none | some cs => Cy cs .empty) = some s := by
  unfold Yk at h
  split at h
  ·cases h
  ·exact h
 split at h'
 ·cases h'
 ·rename_i n hn
  split at h'
  ·cases h'
  ·rename_i cs hcs
   obtain ⟨-, nv, j, f⟩ := Y8 (P := P) hH hx hcs
   obtain ⟨b, i, rfl⟩ := af8 _ _ _ _ h' f
   have hlen := YW (P := P) hx hn
   have hv := j w rfl
   subst i
   obtain ⟨base, k, cap, rfl⟩ : ∃ base k cap, d = .slice base k cap := by
    cases x <;> simp only [mV] at hn <;> first | (cases hn; done) | skip
    ·exact absurd rfl (g _)
    ·cases hx; exact ⟨_, _, _, rfl⟩
    ·cases hx <;> exact ⟨_, _, _, rfl⟩
    ·cases hx; exact ⟨_, _, _, rfl⟩
   rw [run_convert_bytes_string w c dst e base k cap hs he hd]
   have hk : k = n := by
    have e : (Builtin.lenOf (.slice base k cap)).run P w = .ok k w := rfl
    rw [e] at hlen
    cases hlen; rfl
   subst hk
   cases base with
   | none =>
    have : b = [] := by
     have e : (Builtin.firstCells 1 k (.slice none k cap)).run P w = .ok #[] w := rfl
     rw [e] at hv
     cases b with
     | nil => rfl
     | cons a l => simp at hv
    subst this
    simp [Conv.bytesToString]
   | some a =>
    simp only [Builtin.firstCells, Nat.mul_one] at hv
    exact run_bytesToString w a k cap b hv
/-! ### []byte(text) -/
theorem ai5 (w : World) (arr : Array Value) (ty : TypeId) : (w.alloc (.cells arr ty)).freeze ⟨w.heap.size, arr.size, none⟩ 1 = w.alloc (.cells arr ty (arr.size, arr.size + 1)) := by
 simp only [World.freeze, World.alloc]
 rw [if_neg (by omega)]
 congr 1
 apply Array.ext_getElem?
 intro j
 rw [Array.getElem?_modify]
 by_cases hj : w.heap.size = j
 ·subst hj; simp
 ·rw [if_neg hj, Array.getElem?_push, Array.getElem?_push, if_neg (Ne.symm hj), if_neg (Ne.symm hj)]
theorem aie {a dst e : TypeId} {g : Value} {s : ByteArray} {id : Nat} (hs : P.underlying a = some .string) (he : P.underlying e = some (.int .u8)) (hd : P.underlying dst = some (.slice e)) (hsz : gz P e = some 1)
  (hH : HR P μ F H w) (m : μ id = none) (n : id < H.next) (j : I id) (hx : VR μ F w (.str s) g) :
  ∃ u w' μ', (convert a dst g).run P w = .ok u w' ∧ Done I P μ F H w (.own id 0 s.size s.size 1 false) (H.put id (.cells (s.data.toList.map fun b => .int .u8 b.toNat) e false)) u w' μ' := by
 cases hx
 obtain ⟨cap, l, hq⟩ : ∃ cap, s.size ≤ cap ∧ (choose (Question.appendCap s.size 0 e)).run P w = .ok cap { w with drawn := w.drawn + 1 } :=
  ⟨(Question.appendCap s.size 0 e).cut (w.tape w.drawn (Question.appendCap s.size 0 e)), by simp [Question.cut], by rw [run_choose, if_neg (by simp [Question.forced])]⟩
 obtain ⟨arr, d⟩ : ∃ arr : Array Value, arr = (s.data.map fun b => Value.int .u8 b.toNat) ++ Array.replicate (cap - s.size) (.int .u8 0) := ⟨_, rfl⟩
 have x : s.data.size = s.size := rfl
 have f : arr.size = cap := by rw [d]; simp; omega
 have o : (convert a dst (.string s)).run P w = .ok (.slice (some ⟨w.heap.size, 0, none⟩) s.size cap) (({ w with drawn := w.drawn + 1 } : World).alloc (.cells arr e (arr.size, arr.size + 1))) := by
  have h1 : (convert a dst (.string s)).run P w = (Conv.stringToBytes e s).run P w := by
   simp [convert, run_underlying hs, run_underlying hd, run_underlying he]
  rw [h1]
  unfold Conv.stringToBytes
  simp only [Sem.run_bind, hq, Result.andThen_ok, ← d, yv, Sem.run_pure]
  have h2 : (markStringish ⟨w.heap.size, 0, none⟩).run P (({ w with drawn := w.drawn + 1 } : World).alloc (.cells arr e)) = .ok () ((({ w with drawn := w.drawn + 1 } : World).alloc (.cells arr e)).freeze ⟨w.heap.size, arr.size, none⟩ 1) := by
   have hh : (({ w with drawn := w.drawn + 1 } : World).alloc (.cells arr e)).heap[w.heap.size]? = some (.cells arr e) := by simp [World.alloc]
   have p : (({ w with drawn := w.drawn + 1 } : World).alloc (.cells arr e)).shape? w.heap.size = some (e, arr.size) := by simp only [World.shape?, hh]
   unfold markStringish
   simp only [Sem.run_bind, run_shape, p, Result.andThen_ok, run_freeze]
  have h3 := ai5 ({ w with drawn := w.drawn + 1 } : World) arr e
  have h3 : (({ w with drawn := w.drawn + 1 } : World).alloc (.cells arr e)).freeze ⟨w.heap.size, arr.size, none⟩ 1 = ({ w with drawn := w.drawn + 1 } : World).alloc (.cells arr e (arr.size, arr.size + 1)) := h3
  rw [h3] at h2
  rw [h2]
  rfl
 obtain ⟨q, r⟩ := XS (I := I) hH m n (.cells arr e (arr.size, arr.size + 1)) (.cells (s.data.toList.map fun b => AV.int .u8 b.toNat) e false) arr.size 1 (fun w' y hn t =>
  ⟨arr, (arr.size, arr.size + 1), hn, rfl, hsz, by simp [f]; omega, fun i c v hc hv => by
   rw [List.getElem?_map, Option.map_eq_some_iff] at hc
   obtain ⟨b, hb, rfl⟩ := hc
   have hi : i < s.data.size := by
    have := (List.getElem?_eq_some_iff.1 hb).1
    simpa using this
   rw [d, Array.getElem?_append_left (by simpa using hi), Array.getElem?_map] at hv
   have k : s.data[i]? = some b := by simpa using hb
   rw [k] at hv
   cases hv
   exact .int _ _, fun h => (by cases h), fun _ => trivial⟩) j ({ w with drawn := w.drawn + 1 } : World) rfl rfl rfl rfl
 exact ⟨_, _, _, o, .own id 0 s.size s.size 1 false _ cap (upd_same id _) rfl (Nat.le_refl _) l (fun h => by cases h) (by simp [f]), q, r⟩
end
end Go.Proofs.YtopigipibioclaaGreatDoor.Ev

namespace Go.Proofs.YtopigipibioclaaGreatDoor.Ev
open Go
set_option linter.all false
section
variable {I : Nat → Prop} {P : Program} {μ : Mu} {F : Nat → Prop} {H : Heap} {w : World} {T : Tm} {a : Act}
theorem an2 (hH : HR P μ F H w) {x : Operand} {cs : List AV} (h : aow x = some cs) {a : Act} : VR μ F w (.dp cs 0) (a.eval x) := by
 cases x with
 | global g => exact hH.gl _ _ h
 | _ => cases h
theorem akr {o : Oper} {ao : AOp} {v : AV} {H' : Heap} {id : Nat} (hc : iA P o = some ao) (hp : bR (Src.ev T) H id ao = some (v, H')) (hT : LR μ F w T a.tmps.toList) (hH : HR P μ F H w)
  (A : μ id = none) (j : id < H.next) (q : I id) : ∃ u w' μ', qF P a w o u w' ∧ Done I P μ F H w v H' u w' μ' := by
 obtain ⟨dst, op, ty, pos, after, guard⟩ := o
 cases op <;> simp only [iA] at hc
 case alloc e =>
  simp only [Option.bind_eq_bind, bN] at hc
  obtain ⟨z, hz, hc⟩ := hc; cases hc
  simp only [bR] at hp; cases hp
  obtain ⟨u, w', μ', h1, h2⟩ := ak1 hz hH A j q
  exact ⟨u, w', μ', .inl (cW h1), h2⟩
 case box e x =>
  simp only [Option.bind_eq_bind, bN] at hc
  obtain ⟨n, hn, s, hs, hc⟩ := hc; cases hc
  simp only [bR] at hp
  split at hp
  ·rename_i h1
   cases hp
   obtain ⟨u, w', μ', h1, h2⟩ := an9 hn (fw hT hs) h1 hH A j q
   exact ⟨u, w', μ', .inl (cW h1), h2⟩
  ·cases hp
 case buildSlice t len parts =>
  simp only [Option.bind_eq_bind, bN] at hc
  obtain ⟨d, hd, hc⟩ := hc
  split at hc
  ·rename_i e
   simp only [bN] at hc
   obtain ⟨n, hn, z, hz, ps, al, hc⟩ := hc
   split at hc
   ·rename_i ae
    cases hc
    simp only [bR] at hp
    split at hp
    ·cases hp
    ·rename_i cs hf
     cases hp
     obtain ⟨u, w', μ', h1, h2⟩ := afe (parts := parts.toList) hT hd hn hz ae.2 ae.1 al hf hH A j q
     refine ⟨u, w', μ', .inl (cW ?_), h2⟩
     simpa using h1
   ·cases hc
  ·cases hc
 case indexAddr t x i =>
  simp only [Option.bind_eq_bind, bN] at hc
  obtain ⟨d, hd, hc⟩ := hc
  split at hc
  ·simp only [bN] at hc
   obtain ⟨n, hn, V, B, si, R, hc⟩ := hc; cases hc; cases hp
  ·rename_i len e
   split at hc
   ·rename_i cs hcs
    simp only [bN] at hc
    obtain ⟨n, hn, si, R, hc⟩ := hc; cases hc
    simp only [bR] at hp
    split at hp
    ·rename_i ix ag
     split at hp
     ·rename_i j
      cases hp
      obtain ⟨k, hk⟩ := pC ag (fw hT R)
      have hx := an2 hH hcs (a := a)
      generalize hv : a.eval x = W at hx
      cases hx with
      | dp _ _ blk off arr aw fr J K g4 g5 =>
       have am : (Instr.indexAt t (a.eval x) (a.eval i)).run P w = .ok (.pointer (some ⟨blk, off + 0 + ix * n, none⟩)) w := by
        rw [hv, hk]
        simp [Instr.indexAt, Instr.sureAddr, asIntOf, run_underlying hd, lH hn, uj, j]
       refine ⟨_, w, μ, .inl (cW am), ⟨?_, hH, Stp.refl _ _ _ _ _ _⟩⟩
       rw [Nat.add_zero]
       exact .dp _ _ blk off arr aw fr J K g4 g5
     ·cases hp
    ·cases hp
   ·simp only [bN] at hc
    obtain ⟨n, hn, V, B, si, R, hc⟩ := hc; cases hc; cases hp
  ·cases hc
 case load t x =>
  split at hc
  ·rename_i cs hcs
   simp only [Option.bind_eq_bind, bN] at hc
   obtain ⟨k, hk, hc⟩ := hc; cases hc
   simp only [bR, Option.map_eq_some_iff] at hp
   obtain ⟨G, g, hp⟩ := hp
   cases hp
   obtain ⟨u, h1, h2⟩ := ahl hH hk (an2 hH hcs (a := a)) (v := v) g
   exact ⟨u, w, μ, .inl (cW h1), ⟨h2, hH, Stp.refl _ _ _ _ _ _⟩⟩
  simp only [Option.bind_eq_bind, bN] at hc
  obtain ⟨k, hk, s, hs, hc⟩ := hc; cases hc
  simp only [bR, Option.map_eq_some_iff] at hp
  obtain ⟨G, g, hp⟩ := hp
  cases hp
  obtain ⟨u, h1, h2⟩ := ahl hH hk (fw hT hs) g
  exact ⟨u, w, μ, .inl (cW h1), ⟨h2, hH, Stp.refl _ _ _ _ _ _⟩⟩
 case convert ta tb x =>
  simp only [Option.bind_eq_bind, bN] at hc
  obtain ⟨d, hd, d', E, hc⟩ := hc
  split at hc
  ·simp only [bN] at hc
   obtain ⟨s, hs, hc⟩ := hc
   cases hc; cases hp
  ·simp only [bN] at hc
   obtain ⟨s, hs, hc⟩ := hc
   cases hc; cases hp
  ·simp only [bN] at hc
   obtain ⟨e, he, hc⟩ := hc
   split at hc
   ·simp only [bN] at hc
    obtain ⟨s, hs, hc⟩ := hc
    cases hc
    simp only [bR, Option.map_eq_some_iff] at hp
    obtain ⟨r, hr, hp⟩ := hp
    cases hp
    exact ⟨_, w, μ, .inl (cW (akq hd he E hH (fw hT hs) hr)), ⟨.str _, hH, Stp.refl _ _ _ _ _ _⟩⟩
   ·cases hc
  ·simp only [bN] at hc
   obtain ⟨e, he, hc⟩ := hc
   split at hc
   ·simp only [bN] at hc
    obtain ⟨n, hn, hc⟩ := hc
    split at hc
    ·rename_i ak
     subst ak
     simp only [bN] at hc
     obtain ⟨s, hs, hc⟩ := hc
     cases hc
     simp only [bR] at hp
     split at hp
     ·rename_i str ab
      cases hp
      obtain ⟨u, w', μ', h1, h2⟩ := aie hd he E hn hH A j q (ab ▸ fw hT hs)
      exact ⟨u, w', μ', .inl (cW h1), h2⟩
     ·cases hp
    ·cases hc
   ·cases hc
  ·cases hc
 case store t x y =>
  simp only [Option.bind_eq_bind, bN] at hc
  obtain ⟨n, hn, V, B, sy, ar, hc⟩ := hc; cases hc
  simp only [bR, Option.map_eq_some_iff] at hp
  obtain ⟨G, g, hp⟩ := hp
  cases hp
  obtain ⟨w', h1, h2⟩ := af5 (I := I) hn hH (fw hT B) (fw hT ar) g
  exact ⟨undef, w', μ, .inr ⟨pb h1, rfl⟩, h2⟩
 case makeMap t r =>
  simp only [Option.bind_eq_bind, bN] at hc
  obtain ⟨d, hd, hc⟩ := hc
  split at hc
  ·split at hc
   ·rename_i hr
    cases hc
    simp only [bR] at hp; cases hp
    obtain rfl : r = none := by simpa using hr
    obtain ⟨u, w', μ', h1, h2⟩ := akj (t := t) hH A j q
    exact ⟨u, w', μ', .inl (cW h1), h2⟩
   ·cases hc
  ·cases hc
 case makeSlice t l c =>
  simp only [Option.bind_eq_bind, bN] at hc
  obtain ⟨d, hd, hc⟩ := hc
  split at hc
  ·rename_i e
   simp only [bN] at hc
   obtain ⟨n, hn, b, hb, z, hz, sl, aq, sc, ap, hc⟩ := hc; cases hc
   simp only [bR] at hp
   split at hp
   ·rename_i l' c' aj af
    split at hp
    ·rename_i D
     cases hp
     obtain ⟨kl, ai⟩ := pC aj (fw hT aq)
     obtain ⟨kc, ah⟩ := pC af (fw hT ap)
     obtain ⟨u, w', μ', h1, h2⟩ := am6 hd hn hb hz D.2.2.2 ai ah D.1 D.2.1 D.2.2.1 hH A j q
     exact ⟨u, w', μ', .inl (cW h1), h2⟩
    ·cases hp
   ·cases hp
  ·cases hc
 case lookup t x i ok =>
  simp only [Option.bind_eq_bind, bN] at hc
  obtain ⟨d, hd, hc⟩ := hc
  split at hc
  ·rename_i kt e
   split at hc
   ·rename_i hk
    simp only [bN] at hc
    obtain ⟨zv, au, kd, N, z, hz, V, B, si, R, hc⟩ := hc; cases hc
    simp only [bR, Option.map_eq_some_iff] at hp
    obtain ⟨G, g, hp⟩ := hp
    cases hp
    obtain ⟨u, h1, h2⟩ := ajr hH hd hk N (Option.bind_eq_some_iff.2 au) hz (fw hT B) (fw hT R) g
    exact ⟨u, w, μ, .inl (cW h1), ⟨h2, hH, Stp.refl _ _ _ _ _ _⟩⟩
   ·cases hc
  ·cases hc
 case range t x =>
  simp only [Option.bind_eq_bind, bN] at hc
  obtain ⟨d, hd, hc⟩ := hc
  split at hc
  ·simp only [bN] at hc
   obtain ⟨s, hs, hc⟩ := hc
   cases hc
   simp only [bR] at hp
   split at hp
   ·rename_i str ab
    cases hp
    obtain ⟨u, w', μ', h1, h2⟩ := ajp (I := I) hd hH A j q (ab ▸ fw hT hs)
    exact ⟨u, w', μ', .inl (cW h1), h2⟩
   ·cases hp
  ·cases hc
 case next x sb =>
  split at hc
  ·rename_i ay
   subst ay
   simp only [Option.map_eq_some_iff] at hc
   obtain ⟨s, hs, hc⟩ := hc
   cases hc
   simp only [bR] at hp
   obtain ⟨u, w', h1, h2⟩ := ake (I := I) (ty := ty) hH (fw hT hs) hp
   exact ⟨u, w', μ, .inl (cW h1), h2⟩
  ·cases hc
 case mapUpdate t m k x =>
  simp only [Option.bind_eq_bind, bN] at hc
  obtain ⟨d, hd, hc⟩ := hc
  split at hc
  ·rename_i kt e
   split at hc
   ·rename_i hk
    simp only [bN] at hc
    obtain ⟨kd, N, sm, aa, sk, Z, V, B, hc⟩ := hc; cases hc
    simp only [bR, Option.map_eq_some_iff] at hp
    obtain ⟨G, g, hp⟩ := hp
    cases hp
    obtain ⟨w', h1, h2⟩ := afc (I := I) hH hd hk N (fw hT aa) (fw hT Z) (fw hT B) g
    exact ⟨undef, w', μ, .inr ⟨pb h1, rfl⟩, h2⟩
   ·cases hc
  ·cases hc
 case insert t m k x =>
  simp only [Option.bind_eq_bind, bN] at hc
  obtain ⟨d, hd, hc⟩ := hc
  split at hc
  ·rename_i kt e
   split at hc
   ·rename_i hk
    simp only [bN] at hc
    obtain ⟨kd, N, sm, aa, sk, Z, V, B, hc⟩ := hc; cases hc
    simp only [bR, Option.map_eq_some_iff] at hp
    obtain ⟨G, g, hp⟩ := hp
    cases hp
    obtain ⟨w', h1, h2⟩ := afc (I := I) hH hd hk N (fw hT aa) (fw hT Z) (fw hT B) g
    exact ⟨undef, w', μ, .inr ⟨pb h1, rfl⟩, h2⟩
   ·cases hc
  ·cases hc
 case call c =>
  simp only [Option.bind_eq_bind, bN] at hc
  obtain ⟨args, hargs, hc⟩ := hc
  obtain ⟨callee, C, argTypes⟩ := c
  simp only at hc hargs
  cases callee with
  | value f =>
   simp only [bN] at hc
   obtain ⟨s, hs, hc⟩ := hc; cases hc; cases hp
  | invoke r m => cases hc
  | builtin b =>
   have two : ∀ {x y : TypeId}, argTypes.toList = [x, y] → argTypes = #[x, y] := by
    intro x y h; obtain ⟨l⟩ := argTypes; simp at h; subst h; rfl
   have one : ∀ {x : TypeId}, argTypes.toList = [x] → argTypes = #[x] := by
    intro x h; obtain ⟨l⟩ := argTypes; simp at h; subst h; rfl
   simp only at hc
   split at hc
   ·-- len
    simp only [bN] at hc
    obtain ⟨d, hd, hc⟩ := hc
    split at hc
    ·cases hc; cases hp
    ·cases hc; cases hp
    ·rename_i kt e
     cases hc
     obtain ⟨W, S, hr⟩ := anz hT hargs
     have p := one (by assumption)
     simp only [bR] at hp
     split at hp
     ·rename_i e'; rw [e'] at hr; cases hp; cases hr
      exact ⟨_, w, μ, .inl (yq (s := Builtin.len_ argTypes ty (C.map a.eval)) (by rw [S, p]; simp [Builtin.len_, run_underlying hd]; rfl) (fun _ => rfl)), ⟨.int _ _, hH, Stp.refl _ _ _ _ _ _⟩⟩
     ·rename_i b e'; rw [e'] at hr
      split at hp
      ·rename_i es hb
       cases hp
       cases hr with
       | map _ L hL =>
       obtain ⟨L', hL', X⟩ := hH.ent b _ hb
       rw [hL] at hL'; cases hL'
       obtain ⟨ax, xs, c, J, K, g3⟩ := X
       have hsz : xs.size = es.length := by have := K.1; simp at this; omega
       refine ⟨_, w, μ, .inl (yq (s := Builtin.len_ argTypes ty (C.map a.eval)) (by rw [S, p]; simp [Builtin.len_, run_underlying hd, XU J]; rfl) (fun _ => rfl)), ⟨?_, hH, Stp.refl _ _ _ _ _ _⟩⟩
       rw [hsz]
       exact .int _ _
      ·rename_i es hb
       cases hp
       cases hr with
       | map _ L hL =>
       obtain ⟨L', hL', X⟩ := hH.ent b _ hb
       rw [hL] at hL'; cases hL'
       obtain ⟨xs, c, J, K, g3⟩ := X
       have hsz : xs.size = es.length := by have := K.1; simp at this; omega
       refine ⟨_, w, μ, .inl (yq (s := Builtin.len_ argTypes ty (C.map a.eval)) (by rw [S, p]; simp [Builtin.len_, run_underlying hd, XU J]; rfl) (fun _ => rfl)), ⟨?_, hH, Stp.refl _ _ _ _ _ _⟩⟩
       rw [hsz]
       exact .int _ _
      ·cases hp
     ·cases hp
    ·cases hc
   ·-- cap
    simp only [bN] at hc
    obtain ⟨d, hd, hc⟩ := hc
    split at hc
    ·cases hc; cases hp
    ·cases hc
   ·cases hc; cases hp
   ·cases hc; cases hp
   ·-- append
    simp only [bN] at hc
    obtain ⟨d, hd, d', E, hc⟩ := hc
    have p := two (by assumption)
    obtain ⟨W, vy, hv, O, Q⟩ := ami hT hargs
    split at hc
    ·rename_i e e'
     simp only [bN] at hc
     obtain ⟨n, hn, z, hz, hc⟩ := hc
     split at hc
     ·rename_i U
      simp only [bN] at hc
      obtain ⟨ad, M, hc⟩ := hc
      cases hc
      simp only [bR] at hp
      split at hp
      ·cases hp
      ·rename_i m hm
       split at hp
       ·cases hp
       ·rename_i av Y
        obtain ⟨u, w', μ', h1, h2⟩ := ae3 (ty := ty) hd hn M hz U (.inl ⟨e', E⟩) hH A j q O Q hm Y hp
        exact ⟨u, w', μ', .inl (yq (s := Builtin.append_ argTypes ty (C.map a.eval)) (by rw [hv, p]; exact h1) (fun _ => rfl)), h2⟩
     ·cases hc
    ·rename_i e
     simp only [bN] at hc
     obtain ⟨n, hn, z, hz, hc⟩ := hc
     split at hc
     ·rename_i U
      simp only [bN] at hc
      obtain ⟨ad, M, hc⟩ := hc
      cases hc
      simp only [bR] at hp
      split at hp
      ·cases hp
      ·rename_i m hm
       split at hp
       ·cases hp
       ·rename_i av Y
        obtain ⟨u, w', μ', h1, h2⟩ := ae3 (ty := ty) hd hn M hz U (.inr E) hH A j q O Q hm Y hp
        exact ⟨u, w', μ', .inl (yq (s := Builtin.append_ argTypes ty (C.map a.eval)) (by rw [hv, p]; exact h1) (fun _ => rfl)), h2⟩
     ·cases hc
    ·rename_i e
     simp only [bN] at hc
     obtain ⟨n, hn, z, hz, hc⟩ := hc
     split at hc
     ·rename_i U
      simp only [bN] at hc
      obtain ⟨ad, M, hc⟩ := hc
      cases hc
      simp only [bR] at hp
      split at hp
      ·cases hp
      ·rename_i m hm
       split at hp
       ·rename_i D
        obtain ⟨u, w', μ', h1, h2⟩ := ahw (ty := ty) hd hn M hz U E hH A j q O Q hm D.2.1 D.2.2 hp
        exact ⟨u, w', μ', .inl (yq (s := Builtin.append_ argTypes ty (C.map a.eval)) (by rw [hv, p]; exact h1) (fun _ => rfl)), h2⟩
       ·cases hp
     ·cases hc
    ·cases hc
   ·-- clear
    simp only [bN] at hc
    obtain ⟨d, hd, hc⟩ := hc
    split at hc
    ·rename_i e
     simp only [bN] at hc
     obtain ⟨n, hn, z, hz, hc⟩ := hc
     cases hc
     obtain ⟨W, S, hr⟩ := anz hT hargs
     have p := one (by assumption)
     simp only [bR, Option.map_eq_some_iff] at hp
     obtain ⟨G, g, hp⟩ := hp
     cases hp
     obtain ⟨u, w', h1, h2⟩ := ak4 (I := I) (ty := ty) hd hn hz hH hr g
     exact ⟨u, w', μ, .inl (yq (s := Builtin.clear_ argTypes ty (C.map a.eval)) (by rw [S, p]; exact h1) (fun _ => rfl)), h2⟩
    ·cases hc
   ·-- copy
    simp only [bN] at hc
    obtain ⟨d, hd, hc⟩ := hc
    split at hc
    ·rename_i e
     simp only [bN] at hc
     obtain ⟨n, hn, hc⟩ := hc
     cases hc
     obtain ⟨W, vy, hv, O, Q⟩ := ami hT hargs
     have p := two (by assumption)
     simp only [bR] at hp
     obtain ⟨u, w', h1, h2⟩ := ane (I := I) (ty := ty) hd hn hH O Q hp
     exact ⟨u, w', μ, .inl (yq (s := Builtin.copy_ argTypes ty (C.map a.eval)) (by rw [hv, p]; exact h1) (fun _ => rfl)), h2⟩
    ·cases hc
   ·cases hc
 all_goals (try simp only [Option.bind_eq_bind, bN, Option.map_eq_some_iff] at hc)
 all_goals (repeat' (first | (cases hc; done) | (obtain ⟨_, _, hc⟩ := hc) | (simp only [bN] at hc) | (split at hc)))
 all_goals first | (cases hp; done) | (cases hc; cases hp; done)
end
end Go.Proofs.YtopigipibioclaaGreatDoor.Ev
