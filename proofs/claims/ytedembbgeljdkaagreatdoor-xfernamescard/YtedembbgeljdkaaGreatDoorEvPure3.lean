/-
  THE EVALUATOR's PURE OPERATIONS are the model's: all of them together.
-/
import Derived.Test.YtedembbgeljdkaaGreatDoorEvPure2
namespace Go.Proofs.YtedembbgeljdkaaGreatDoor.Ev
open Go
set_option linter.all false

section
variable {P : Program} {μ : Mu} {F : Nat → Prop} {w : World} {T : Tm} {a : Act}

theorem oSrc_or (hT : LR μ F w T a.tmps.toList) {x : Option Operand} {s : Option Src} (h : cOSrc x = some s) : OR μ F w (s.map (Src.ev T)) (x.map a.eval) := by
  cases x with
  | none => cases h; trivial
  | some x =>
    simp only [cOSrc, Option.map_eq_some_iff] at h
    obtain ⟨y, hy, rfl⟩ := h
    exact src_vr hT hy

theorem lr_toArray {as : List AV} {vs : Array Value} (h : LR μ F w as vs.toList) : as.length = vs.size ∧ ∀ (i : Nat) (c : AV) (v : Value), as[i]? = some c → vs[i]? = some v → VR μ F w c v :=
  ⟨by simpa using h.1, fun i c v h1 h2 => h.2 i c v h1 (by simpa using h2)⟩

theorem pick_sound {o : Oper} {c x y : Operand} (ho : o.op = .pick c x y) {b : Bool} (hc : a.eval c = .bool b) : (execOp a.eval o).run P w = .ok (.value (if b then a.eval x else a.eval y)) w := by
  simp [execOp, ho, hc, asBool]

theorem min_fold (k : IntKind) : ∀ (l : List AV) (vs : List Value) (m : Int) (r : AV), LR μ F w l vs → l.foldlM min2A (AV.int k m) = some r →
    ∃ u, (vs.foldlM Builtin.min2 (.int k m)).run P w = .ok u w ∧ VR μ F w r u
  | [], [], m, r, _, h => by simp at h; subst h; exact ⟨_, rfl, .int _ _⟩
  | [], _ :: _, _, _, hl, _ => by have := hl.1; simp at this
  | _ :: _, [], _, _, hl, _ => by have := hl.1; simp at this
  | x :: l, v :: vs, m, r, hl, h => by
    simp only [List.foldlM_cons, Option.bind_eq_bind, Option.bind_eq_some_iff] at h
    obtain ⟨y, hy, h⟩ := h
    have hx := hl.head
    cases x <;> simp only [min2A] at hy <;> first | (cases hy; done) | skip
    cases hy
    cases hx
    obtain ⟨u, hu, hr⟩ := min_fold k l vs _ r hl.tail h
    exact ⟨u, by simp only [List.foldlM_cons, Sem.run_bind, Builtin.min2, Sem.run_pure, Result.andThen_ok]; exact hu, hr⟩

theorem max_fold (k : IntKind) : ∀ (l : List AV) (vs : List Value) (m : Int) (r : AV), LR μ F w l vs → l.foldlM max2A (AV.int k m) = some r →
    ∃ u, (vs.foldlM Builtin.max2 (.int k m)).run P w = .ok u w ∧ VR μ F w r u
  | [], [], m, r, _, h => by simp at h; subst h; exact ⟨_, rfl, .int _ _⟩
  | [], _ :: _, _, _, hl, _ => by have := hl.1; simp at this
  | _ :: _, [], _, _, hl, _ => by have := hl.1; simp at this
  | x :: l, v :: vs, m, r, hl, h => by
    simp only [List.foldlM_cons, Option.bind_eq_bind, Option.bind_eq_some_iff] at h
    obtain ⟨y, hy, h⟩ := h
    have hx := hl.head
    cases x <;> simp only [max2A] at hy <;> first | (cases hy; done) | skip
    cases hy
    cases hx
    obtain ⟨u, hu, hr⟩ := max_fold k l vs _ r hl.tail h
    exact ⟨u, by simp only [List.foldlM_cons, Sem.run_bind, Builtin.max2, Sem.run_pure, Result.andThen_ok]; exact hu, hr⟩

theorem structPlaces_list (w : World) : ∀ (l : List Field) (pl : List (Nat × Nat)), (l.mapM fun f => (sizeOf? P f.type).map fun n => (f.offset, n)) = some pl →
    (l.mapM fun f => (do pure (f.offset, ← Go.sizeOf f.type) : Sem (Nat × Nat))).run P w = .ok pl w
  | [], pl, h => by simp at h; subst h; simp
  | f :: l, pl, h => by
    simp only [List.mapM_cons, Option.pure_def, Option.bind_eq_bind, Option.bind_eq_some_iff, Option.map_eq_some_iff] at h
    obtain ⟨q, ⟨n, hn, rfl⟩, qs, hqs, h⟩ := h
    cases h
    have := structPlaces_list w l qs hqs
    simp only [List.mapM_cons, Sem.run_bind, run_size hn, Result.andThen_ok, this, Sem.run_pure]

theorem structPlaces_get {fs : Array Field} {pl : List (Nat × Nat)} (h : structPlaces P fs = some pl) (w : World) :
    (fs.mapM fun f => (do pure (f.offset, ← Go.sizeOf f.type) : Sem (Nat × Nat))).run P w = .ok pl.toArray w := by
  rw [Array.mapM_eq_mapM_toList]
  simp only [Sem.run_map, structPlaces_list w fs.toList pl h, Result.andThen_ok]

theorem pair_mapM (place : Nat → Option (Nat × Nat)) (l : List (Nat × Operand)) :
    (l.mapM fun (x : Nat × Operand) => match x with | (i, x) => (do some ((← place i), (← cSrc x)) : Option ((Nat × Nat) × Src))) = l.mapM fun (p : Nat × Operand) => (do some ((← place p.1), (← cSrc p.2)) : Option ((Nat × Nat) × Src)) := rfl

theorem toList_map_pair (parts : Array (Nat × Operand)) (ρ : Operand → Value) : (parts.map fun (x : Nat × Operand) => match x with | (i, x) => (i, ρ x)).toList = parts.toList.map fun p => (p.1, ρ p.2) := by
  simp

theorem pureA_sound {o : Oper} {ao : AOp} {v : AV} (hc : cOp P o = some ao) (hp : pureA (Src.ev T) ao = some v) (hT : LR μ F w T a.tmps.toList) :
    ∃ u, (execOp a.eval o).run P w = .ok (.value u) w ∧ VR μ F w v u := by
  obtain ⟨dst, op, ty, pos, after, guard⟩ := o
  cases op <;> simp only [cOp] at hc
  case move x =>
    simp only [Option.map_eq_some_iff] at hc; obtain ⟨s, hs, rfl⟩ := hc
    cases hp; exact ⟨_, rfl, src_vr hT hs⟩
  case assign x =>
    simp only [Option.map_eq_some_iff] at hc; obtain ⟨s, hs, rfl⟩ := hc
    cases hp; exact ⟨_, rfl, src_vr hT hs⟩
  case pick c x y =>
    simp only [Option.bind_eq_bind, Option.bind_eq_some_iff] at hc
    obtain ⟨sc, hsc, sx, hsx, sy, hsy, hc⟩ := hc; cases hc
    simp only [pureA] at hp
    split at hp
    · rename_i t ht
      cases hp
      have := src_vr hT hsc
      rw [ht] at this
      generalize hcv : a.eval c = cv at this
      cases this
      refine ⟨_, pick_sound rfl hcv, ?_⟩
      cases t
      · exact src_vr hT hsy
      · exact src_vr hT hsx
    · cases hp
  case nilCheck x =>
    simp only [Option.map_eq_some_iff] at hc; obtain ⟨s, hs, rfl⟩ := hc
    have hx := src_vr hT hs
    simp only [pureA] at hp
    split at hp
    · rename_i e; rw [e] at hx; cases hp; generalize hv : a.eval x = vx at hx; cases hx; rename_i L hL
      exact ⟨_, by simp [execOp, hv], .ptr _ _ L hL⟩
    · rename_i e; rw [e] at hx; cases hp; generalize hv : a.eval x = vx at hx
      cases hx with
      | dp _ _ blk off arr ty fr g1 g2 g3 g4 => exact ⟨_, by simp [execOp, hv], .dp _ _ blk off arr ty fr g1 g2 g3 g4⟩
    · rename_i e; rw [e] at hx; cases hp; generalize hv : a.eval x = vx at hx
      cases hx with
      | fn _ _ _ us vs h1 h2 h3 h4 => exact ⟨_, by simp [execOp, hv], .fn _ _ _ us vs h1 h2 h3 h4⟩
    · rename_i e; rw [e] at hx; cases hp; generalize hv : a.eval x = vx at hx; cases hx; rename_i L hL
      exact ⟨_, by simp [execOp, hv], .loopv _ L hL⟩
    · cases hp
  case unOp op t x =>
    simp only [Option.bind_eq_bind, Option.bind_eq_some_iff] at hc
    obtain ⟨s, hs, hc⟩ := hc; cases hc
    obtain ⟨u, hu, hr⟩ := unA_sound (P := P) (src_vr hT hs) hp
    exact ⟨u, run_v hu, hr⟩
  case extract x i =>
    simp only [Option.bind_eq_bind, Option.bind_eq_some_iff] at hc
    obtain ⟨s, hs, hc⟩ := hc; cases hc
    have hx := src_vr hT hs
    simp only [pureA] at hp
    split at hp
    · rename_i e; rw [e] at hx; generalize hv : a.eval x = vx at hx
      cases hx with
      | tup cs vs h1 h2 =>
        obtain ⟨u, hu, hr⟩ := (LR.of_agg h1 h2).get hp
        have hu' : vs[i]? = some u := by simpa using hu
        exact ⟨u, by simp [execOp, hv, Instr.extract, hu'], hr⟩
    · cases hp
  case makeFunc f first cap =>
    simp only [Option.bind_eq_bind, Option.bind_eq_some_iff] at hc
    obtain ⟨fs, hfs, cs, hcs, hc⟩ := hc; cases hc
    cases hp
    have h1 := srcs_lr hT hfs
    have h2 := srcs_lr hT hcs
    refine ⟨.func f (first.map a.eval) (cap.map a.eval), by simp [execOp, Instr.makeFunc], ?_⟩
    have e1 : LR μ F w (fs.map (Src.ev T)) (first.map a.eval).toList := by simpa using h1
    have e2 : LR μ F w (cs.map (Src.ev T)) (cap.map a.eval).toList := by simpa using h2
    exact .fn _ _ _ _ _ (lr_toArray e1).1 (lr_toArray e1).2 (lr_toArray e2).1 (lr_toArray e2).2
  case build t parts =>
    simp only [Option.bind_eq_bind, Option.bind_eq_some_iff] at hc
    obtain ⟨z, hz, d, hd, hc⟩ := hc
    obtain ⟨zv, hzv, hzl⟩ := run_zero hz w
    split at hc
    · rename_i fs
      simp only [Option.bind_eq_some_iff] at hc
      obtain ⟨pl, hpl, ps, hps, hc⟩ := hc
      cases hc
      simp only [pureA, Option.bind_eq_bind, Option.bind_eq_some_iff] at hp
      obtain ⟨cs, hcs, hp⟩ := hp
      cases hp
      obtain ⟨vs, hvs, hr⟩ := fill_lr hT (pl[·]?) parts.toList ps z zv.cells cs hps (hzl μ F w) hcs
      refine ⟨.agg vs, run_v ?_, .agg _ _ (lr_toArray hr).1 (lr_toArray hr).2⟩
      simp only [Instr.build, Sem.run_bind, hzv, Result.andThen_ok, run_underlying hd, structPlaces_get hpl, toList_map_pair]
      have : (fun x : Nat => pl.toArray[x]?) = (fun x : Nat => pl[x]?) := by funext x; simp
      rw [this, hvs]
      rfl
    · rename_i m e
      simp only [Option.bind_eq_some_iff] at hc
      obtain ⟨n, hn, ps, hps, hc⟩ := hc
      cases hc
      simp only [pureA, Option.bind_eq_bind, Option.bind_eq_some_iff] at hp
      obtain ⟨cs, hcs, hp⟩ := hp
      cases hp
      obtain ⟨vs, hvs, hr⟩ := fill_lr hT (fun i => some (i * n, n)) parts.toList ps z zv.cells cs hps (hzl μ F w) hcs
      refine ⟨.agg vs, run_v ?_, .agg _ _ (lr_toArray hr).1 (lr_toArray hr).2⟩
      simp only [Instr.build, Sem.run_bind, hzv, Result.andThen_ok, run_underlying hd, run_size hn, toList_map_pair]
      rw [hvs]
      rfl
    · cases hc
  case binOp op t x y yt =>
    split at hc
    · rename_i hty
      split at hc
      all_goals first | (cases hc; done) | skip
      all_goals
        simp only [Option.bind_eq_bind, Option.bind_eq_some_iff] at hc
        obtain ⟨sx, hsx, sy, hsy, hc⟩ := hc; cases hc
        have hx := src_vr hT hsx
        have hy := src_vr hT hsy
        simp only [pureA] at hp
        split at hp
        · rename_i as bs e1 e2
          rw [e1] at hx; rw [e2] at hy
          simp only [Option.map_eq_some_iff] at hp
          obtain ⟨r, hr, rfl⟩ := hp
          generalize hvx : a.eval x = vx at hx
          generalize hvy : a.eval y = vy at hy
          cases hx with
          | agg _ us h1 h2 =>
          cases hy with
          | agg _ vs h3 h4 =>
          have := eqTwo_sound hty (LR.of_agg h1 h2) (LR.of_agg h3 h4) hr x y
          refine ⟨.bool _, run_v (by rw [hvx, hvy]; first | exact this.1 | exact this.2), .bool _⟩
        · cases hp
    · split at hc
      · rename_i hifc
        split at hc
        · rename_i hcst
          simp only [Option.bind_eq_bind, Option.bind_eq_some_iff] at hc
          obtain ⟨sx, hsx, sy, hsy, hc⟩ := hc; cases hc
          obtain ⟨ms, hms⟩ : ∃ ms, P.underlying t = some (.interface ms) := by
            unfold isIfc at hifc
            split at hifc
            · exact ⟨_, by assumption⟩
            · cases hifc
          obtain ⟨u, hu, hr⟩ := ifc_sound hms (src_vr hT hsx) (src_vr hT hsy) hp hcst
          exact ⟨u, run_v hu, hr⟩
        · cases hc
      simp only [Option.bind_eq_bind, Option.bind_eq_some_iff] at hc
      obtain ⟨kd, hkd, sx, hsx, sy, hsy, hc⟩ := hc; cases hc
      obtain ⟨u, hu, hr⟩ := binA_sound hkd (src_vr hT hsx) (src_vr hT hsy) hp x y
      exact ⟨u, run_v hu, hr⟩
  case convert s d x =>
    simp only [Option.bind_eq_bind, Option.bind_eq_some_iff] at hc
    obtain ⟨ds, hds, dd, hdd, hc⟩ := hc
    split at hc
    · simp only [Option.bind_eq_some_iff] at hc
      obtain ⟨sx, hsx, hc⟩ := hc; cases hc
      have hx := src_vr hT hsx
      simp only [pureA] at hp
      split at hp
      · rename_i e; rw [e] at hx; cases hp
        generalize hv : a.eval x = vx at hx
        cases hx
        exact ⟨_, run_v (by rw [hv]; simp [convert, run_underlying hds, run_underlying hdd, Conv.intToInt]), .int _ _⟩
      · cases hp
    · simp only [Option.bind_eq_some_iff] at hc
      obtain ⟨sx, hsx, hc⟩ := hc; cases hc
      have hx := src_vr hT hsx
      simp only [pureA] at hp
      split at hp
      · rename_i e; rw [e] at hx; cases hp
        generalize hv : a.eval x = vx at hx
        cases hx
        exact ⟨_, run_v (by rw [hv]; simp [convert, run_underlying hds, run_underlying hdd]), .str _⟩
      · cases hp
    · simp only [Option.bind_eq_some_iff] at hc
      obtain ⟨e, he, hc⟩ := hc
      split at hc
      · simp only [Option.bind_eq_some_iff] at hc
        obtain ⟨sx, hsx, hc⟩ := hc; cases hc; cases hp
      · cases hc
    · simp only [Option.bind_eq_some_iff] at hc
      obtain ⟨e, he, hc⟩ := hc
      split at hc
      · simp only [Option.bind_eq_some_iff] at hc
        obtain ⟨n, hn, hc⟩ := hc
        split at hc
        · simp only [Option.bind_eq_some_iff] at hc
          obtain ⟨sx, hsx, hc⟩ := hc; cases hc; cases hp
        · cases hc
      · cases hc
    · cases hc
  case makeInterface t x =>
    simp only [Option.bind_eq_bind, Option.bind_eq_some_iff] at hc
    obtain ⟨d, hd, hc⟩ := hc
    split at hc
    · cases hc
    · rename_i hn
      simp only [Option.bind_eq_some_iff] at hc
      obtain ⟨sx, hsx, hc⟩ := hc; cases hc
      have hx := src_vr hT hsx
      simp only [pureA] at hp
      split at hp
      · cases hp
      · cases hp
        refine ⟨.iface t (a.eval x), run_v ?_, .ifc _ _ _ hx⟩
        simp only [Instr.makeInterface, Sem.run_bind, run_underlying hd, Result.andThen_ok]
        cases d <;> first | rfl | (exact absurd rfl (hn _))
  case slice t x lo hi mx =>
    simp only [Option.bind_eq_bind, Option.bind_eq_some_iff] at hc
    obtain ⟨d, hd, hc⟩ := hc
    split at hc
    · simp only [Option.bind_eq_some_iff] at hc
      obtain ⟨n, hn, sx, hsx, sl, hsl, sh, hsh, sm, hsm, hc⟩ := hc; cases hc
      simp only [pureA] at hp
      split at hp
      · cases hp
      · rename_i hstr
        obtain ⟨u, hu, hr⟩ := sliceA_sound hd hn (src_vr hT hsx) hstr (oSrc_or hT hsl) (oSrc_or hT hsh) (oSrc_or hT hsm) hp
        exact ⟨u, run_v hu, hr⟩
    · split at hc
      · cases hc
      · rename_i hmx
        simp only [Option.bind_eq_some_iff] at hc
        obtain ⟨sx, hsx, sl, hsl, sh, hsh, hc⟩ := hc; cases hc
        have hx := src_vr hT hsx
        simp only [pureA] at hp
        split at hp
        · rename_i s e
          rw [e] at hx
          generalize hv : a.eval x = vx at hx
          cases hx
          have hm : mx = none := by simpa using hmx
          subst hm
          obtain ⟨u, hu, hr⟩ := sliceStr_sound (mx := none) (vmx := none) hd (oSrc_or hT hsl) (oSrc_or hT hsh) (show OR μ F w none none from trivial) hp
          exact ⟨u, run_v (by rw [hv]; exact hu), hr⟩
        · cases hp
    · cases hc
  case fieldAddr t x i =>
    simp only [Option.bind_eq_bind, Option.bind_eq_some_iff] at hc
    obtain ⟨d, hd, hc⟩ := hc
    split at hc
    · rename_i fs
      simp only [Option.bind_eq_some_iff] at hc
      obtain ⟨f, hf, n, hn, hc⟩ := hc
      split at hc
      · cases hc
      · rename_i hn0
        simp only [Option.bind_eq_some_iff] at hc
        obtain ⟨sx, hsx, hc⟩ := hc; cases hc
        have hx := src_vr hT hsx
        have hrun : ∀ b o, (Instr.fieldAt t (.pointer (some ⟨b, o, none⟩)) i).run P w = .ok (.pointer (some ⟨b, o + f.offset, none⟩)) w := by
          intro b o
          simp [Instr.fieldAt, run_underlying hd, hf, Instr.sureAddr, fieldPlace, run_size hn, hn0, add_off]
        simp only [pureA] at hp
        split at hp
        · rename_i b o e; rw [e] at hx; cases hp; generalize hv : a.eval x = vx at hx; cases hx; rename_i L hL
          exact ⟨_, run_v (by rw [hv]; exact hrun _ _), .ptr _ _ L hL⟩
        · rename_i cs o e; rw [e] at hx; cases hp; generalize hv : a.eval x = vx at hx
          cases hx with
          | dp _ _ blk off arr ty fr g1 g2 g3 g4 => 
            refine ⟨_, run_v (by rw [hv]; exact hrun _ _), ?_⟩
            rw [Nat.add_assoc]
            exact .dp _ _ blk off arr ty fr g1 g2 g3 g4
        · cases hp
    · cases hc
  case field t x i =>
    simp only [Option.bind_eq_bind, Option.bind_eq_some_iff] at hc
    obtain ⟨d, hd, hc⟩ := hc
    split at hc
    · rename_i fs
      simp only [Option.bind_eq_some_iff] at hc
      obtain ⟨f, hf, k, hk, sx, hsx, hc⟩ := hc; cases hc
      have hx := src_vr hT hsx
      simp only [pureA] at hp
      split at hp
      · rename_i cs e; rw [e] at hx; generalize hv : a.eval x = vx at hx
        cases hx with
        | agg _ vs h1 h2 =>
          obtain ⟨u, hu, hr⟩ := takeAt_part hk (LR.of_agg h1 h2) hp
          exact ⟨u, run_v (by rw [hv]; simp [Instr.field, run_underlying hd, hf, asAgg, hu]), hr⟩
      · cases hp
    · cases hc
  case indexAddr t x i =>
    simp only [Option.bind_eq_bind, Option.bind_eq_some_iff] at hc
    obtain ⟨d, hd, hc⟩ := hc
    split at hc
    · rename_i e
      simp only [Option.bind_eq_some_iff] at hc
      obtain ⟨n, hn, sx, hsx, si, hsi, hc⟩ := hc; cases hc
      have hx := src_vr hT hsx
      have hi := src_vr hT hsi
      simp only [pureA, Option.bind_eq_bind, Option.bind_eq_some_iff] at hp
      obtain ⟨ix, hix, hp⟩ := hp
      obtain ⟨k, hk⟩ := asN_int hix hi
      have hrun : ∀ b o len cap, ix < len → (Instr.indexAt t (.slice (some ⟨b, o, none⟩) len cap) (.int k (ix : Int))).run P w = .ok (.pointer (some ⟨b, o + ix * n, none⟩)) w := by
        intro b o len cap hlt
        simp [Instr.indexAt, asIntOf, run_underlying hd, run_size hn, add_off, hlt]
      split at hp
      · rename_i b off m c sz ex e'; rw [e'] at hx; generalize hv : a.eval x = vx at hx
        split at hp
        · rename_i hlt
          cases hp
          cases hx with
          | own _ _ _ _ _ _ L cap h1 h2 h3 h4 h5 h6 =>
            exact ⟨_, run_v (by rw [hv, hk]; exact hrun _ _ _ _ hlt.1), .ptr _ _ L h1⟩
        · cases hp
      · rename_i cs m e'; rw [e'] at hx; generalize hv : a.eval x = vx at hx
        split at hp
        · rename_i hlt
          cases hp
          cases hx with
          | sl0 => omega
          | sl _ _ _ blk off arr ty fr g1 g2 g3 g4 g5 =>
            exact ⟨_, run_v (by rw [hv, hk]; exact hrun _ _ _ _ hlt), .dp _ _ blk off arr ty fr g1 g2 g4 g5⟩
        · cases hp
      · cases hp
    · rename_i len e
      split at hc
      · simp only [Option.bind_eq_some_iff] at hc
        obtain ⟨n, hn, si, hsi, hc⟩ := hc; cases hc; cases hp
      · simp only [Option.bind_eq_some_iff] at hc
        obtain ⟨n, hn, sx, hsx, si, hsi, hc⟩ := hc; cases hc
        have hx := src_vr hT hsx
        have hi := src_vr hT hsi
        simp only [pureA, Option.bind_eq_bind, Option.bind_eq_some_iff] at hp
        obtain ⟨ix, hix, hp⟩ := hp
        obtain ⟨k, hk⟩ := asN_int hix hi
        have hrun : ∀ b o, ix < len → (Instr.indexAt t (.pointer (some ⟨b, o, none⟩)) (.int k (ix : Int))).run P w = .ok (.pointer (some ⟨b, o + ix * n, none⟩)) w := by
          intro b o hlt
          simp [Instr.indexAt, Instr.sureAddr, asIntOf, run_underlying hd, run_size hn, add_off, hlt]
        split at hp
        · rename_i b o e'; rw [e'] at hx; generalize hv : a.eval x = vx at hx
          split at hp
          · rename_i hlt
            cases hp
            cases hx with
            | ptr _ _ L h1 => exact ⟨_, run_v (by rw [hv, hk]; exact hrun _ _ hlt), .ptr _ _ L h1⟩
          · cases hp
        · rename_i cs o e'; rw [e'] at hx; generalize hv : a.eval x = vx at hx
          split at hp
          · rename_i hlt
            cases hp
            cases hx with
            | dp _ _ blk off arr ty fr g1 g2 g4 g5 =>
              refine ⟨_, run_v (by rw [hv, hk]; exact hrun _ _ hlt), ?_⟩
              rw [Nat.add_assoc]
              exact .dp _ _ blk off arr ty fr g1 g2 g4 g5
          · cases hp
        · cases hp
    · cases hc
  case index t x i =>
    simp only [Option.bind_eq_bind, Option.bind_eq_some_iff] at hc
    obtain ⟨d, hd, hc⟩ := hc
    split at hc
    · rename_i len e
      simp only [Option.bind_eq_some_iff] at hc
      obtain ⟨n, hn, kk, hkk, sx, hsx, si, hsi, hc⟩ := hc; cases hc
      have hx := src_vr hT hsx
      have hi := src_vr hT hsi
      simp only [pureA, Option.bind_eq_bind, Option.bind_eq_some_iff] at hp
      obtain ⟨ix, hix, hp⟩ := hp
      obtain ⟨k, hk⟩ := asN_int hix hi
      split at hp
      · rename_i cs e'; rw [e'] at hx; generalize hv : a.eval x = vx at hx
        split at hp
        · rename_i hlt
          cases hx with
          | agg _ vs h1 h2 =>
            obtain ⟨u, hu, hr⟩ := takeAt_part hkk (LR.of_agg h1 h2) hp
            exact ⟨u, run_v (by rw [hv, hk]; simp [Instr.index, asIntOf, run_underlying hd, hlt, run_size hn, hu]), hr⟩
        · cases hp
      · cases hp
    · simp only [Option.bind_eq_some_iff] at hc
      obtain ⟨sx, hsx, si, hsi, hc⟩ := hc; cases hc
      have hx := src_vr hT hsx
      have hi := src_vr hT hsi
      simp only [pureA, Option.bind_eq_bind, Option.bind_eq_some_iff] at hp
      obtain ⟨ix, hix, hp⟩ := hp
      obtain ⟨k, hk⟩ := asN_int hix hi
      split at hp
      · rename_i s e'; rw [e'] at hx; generalize hv : a.eval x = vx at hx
        simp only [Option.map_eq_some_iff] at hp
        obtain ⟨b, hb, rfl⟩ := hp
        cases hx
        exact ⟨_, run_v (by rw [hv, hk]; simp [Instr.index, asIntOf, run_underlying hd, hb]), .int _ _⟩
      · cases hp
    · cases hc
  case call c =>
    simp only [Option.bind_eq_bind, Option.bind_eq_some_iff] at hc
    obtain ⟨args, hargs, hc⟩ := hc
    have hl := srcs_lr hT hargs
    obtain ⟨callee, cargs, argTypes⟩ := c
    simp only at hc hl hargs
    cases callee with
    | value f =>
      simp only [Option.bind_eq_some_iff] at hc
      obtain ⟨s, hs, hc⟩ := hc; cases hc; cases hp
    | invoke r m => cases hc
    | builtin b =>
      have hrun : ∀ (s : Sem Value) (u : Value), s.run P w = .ok u w → (∀ consts, builtin b argTypes ty consts (cargs.map a.eval) = (do pure (.value (← s)))) →
          (execOp a.eval ⟨dst, .call ⟨.builtin b, cargs, argTypes⟩, ty, pos, after, guard⟩).run P w = .ok (.value u) w := by
        intro s u h1 h2
        simp only [execOp, resolve, Sem.run_bind, Sem.run_pure, Result.andThen_ok, invoke]
        exact (congrArg (fun s => s.run P w) (h2 _)).trans (run_v h1)
      have one : ∀ {x : Src}, args = [x] → ∃ v, cargs.map a.eval = #[v] ∧ VR μ F w (x.ev T) v := by
        intro x hx
        subst hx
        have h1 := hl.1
        simp only [List.map_cons, List.map_nil, List.length_cons, List.length_nil, List.length_map, Array.length_toList] at h1
        obtain ⟨l⟩ := cargs
        match l, h1 with
        | [y], _ => exact ⟨a.eval y, by simp, hl.2 0 _ _ rfl rfl⟩
      have aty : ∀ {t : TypeId}, argTypes.toList = [t] → argTypes = #[t] := by
        intro t ht
        obtain ⟨l⟩ := argTypes; simp at ht; subst ht; rfl
      simp only at hc
      split at hc
      · rename_i x t 
        obtain ⟨v1, hv1, hr1⟩ := one rfl
        simp only [Option.bind_eq_some_iff] at hc
        obtain ⟨d, hd, hc⟩ := hc
        split at hc
        · rename_i e ht
          have hat := aty (by assumption)
          cases hc
          simp only [pureA] at hp
          split at hp
          · rename_i b off n c sz ex e'; rw [e'] at hr1; cases hp
            cases hr1
            exact ⟨_, hrun _ _ (by rw [hv1, hat]; simp [Builtin.len_, run_underlying hd]; rfl) (fun _ => rfl), .int _ _⟩
          · rename_i b off e'; rw [e'] at hr1; cases hp
            cases hr1
            · exact ⟨_, hrun _ _ (by rw [hv1, hat]; simp [Builtin.len_, run_underlying hd]; rfl) (fun _ => rfl), .int _ _⟩
            · exact ⟨_, hrun _ _ (by rw [hv1, hat]; simp [Builtin.len_, run_underlying hd]; rfl) (fun _ => rfl), .int _ _⟩
          · rename_i e'; rw [e'] at hr1; cases hp
            cases hr1
            exact ⟨_, hrun _ _ (by rw [hv1, hat]; simp [Builtin.len_, run_underlying hd]; rfl) (fun _ => rfl), .int _ _⟩
          · cases hp
        · rename_i ht
          have hat := aty (by assumption)
          cases hc
          simp only [pureA] at hp
          split at hp
          · rename_i s e'; rw [e'] at hr1; cases hp
            cases hr1
            exact ⟨_, hrun _ _ (by rw [hv1, hat]; simp [Builtin.len_, run_underlying hd]; rfl) (fun _ => rfl), .int _ _⟩
          · cases hp
        · cases hc; cases hp
        · cases hc
      · rename_i x t
        obtain ⟨v1, hv1, hr1⟩ := one rfl
        simp only [Option.bind_eq_some_iff] at hc
        obtain ⟨d, hd, hc⟩ := hc
        split at hc
        · rename_i e ht
          have hat := aty (by assumption)
          cases hc
          simp only [pureA] at hp
          split at hp
          · rename_i b off n c sz e'; rw [e'] at hr1; cases hp
            cases hr1 with
            | own _ _ _ _ _ _ L cap h1 h2 h3 h4 h5 h6 =>
            have := h5 rfl
            subst this
            exact ⟨_, hrun _ _ (by rw [hv1, hat]; simp [Builtin.cap_, run_underlying hd]; rfl) (fun _ => rfl), .int _ _⟩
          · rename_i e'; rw [e'] at hr1; cases hp
            cases hr1
            exact ⟨_, hrun _ _ (by rw [hv1, hat]; simp [Builtin.cap_, run_underlying hd]; rfl) (fun _ => rfl), .int _ _⟩
          · cases hp
        · cases hc
      · cases hc
        simp only [pureA] at hp
        rw [show cargs.toList.map a.eval = (cargs.map a.eval).toList by simp] at hl
        split at hp
        · rename_i k m rest e'
          rw [e'] at hl
          obtain ⟨l, hvs⟩ : ∃ l, (cargs.map a.eval).toList = l := ⟨_, rfl⟩
          rw [hvs] at hl
          cases l with
          | nil => have := hl.1; simp at this
          | cons v vs =>
            have h0 := hl.head
            cases h0
            obtain ⟨u, hu, hr⟩ := min_fold (P := P) k rest vs m _ hl.tail hp
            exact ⟨u, hrun (Builtin.min_ argTypes ty (cargs.map a.eval)) u (by unfold Builtin.min_; rw [hvs]; exact hu) (fun _ => rfl), hr⟩
        · cases hp
      · cases hc
        simp only [pureA] at hp
        rw [show cargs.toList.map a.eval = (cargs.map a.eval).toList by simp] at hl
        split at hp
        · rename_i k m rest e'
          rw [e'] at hl
          obtain ⟨l, hvs⟩ : ∃ l, (cargs.map a.eval).toList = l := ⟨_, rfl⟩
          rw [hvs] at hl
          cases l with
          | nil => have := hl.1; simp at this
          | cons v vs =>
            have h0 := hl.head
            cases h0
            obtain ⟨u, hu, hr⟩ := max_fold (P := P) k rest vs m _ hl.tail hp
            exact ⟨u, hrun (Builtin.max_ argTypes ty (cargs.map a.eval)) u (by unfold Builtin.max_; rw [hvs]; exact hu) (fun _ => rfl), hr⟩
        · cases hp
      all_goals (try simp only [Option.bind_eq_some_iff] at hc)
      all_goals (repeat' (first | (cases hc; done) | (obtain ⟨_, _, hc⟩ := hc) | (simp only [Option.bind_eq_some_iff] at hc) | (split at hc)))
      all_goals first | (cases hp; done) | (cases hc; cases hp; done)
  case typeAssert x xt t ok =>
    simp only [Option.bind_eq_bind, Option.bind_eq_some_iff] at hc
    obtain ⟨d, hd, hc⟩ := hc
    split at hc
    · cases hc
    · rename_i hni
      simp only [Option.bind_eq_some_iff] at hc
      obtain ⟨zv, hzv, z, hz, sx, hsx, hc⟩ := hc
      cases hc
      have hx := src_vr hT hsx
      obtain ⟨i, hi, hzi⟩ := hzv
      have hzr : (zeroValue t).run P w = .ok zv w := by simp [zeroValue, typeInfo, hi, hzi]
      have hu := run_underlying (P := P) hd
      simp only [pureA] at hp
      have two : ∀ {x : AV} {u : Value} {b : Bool}, VR μ F w x u → VR μ F w (.tup [x, .bool b]) (.tuple #[u, .bool b]) := fun {x u b} h => by
        refine .tup _ _ rfl fun i c v hc hv => ?_
        have : i = 0 ∨ i = 1 ∨ 2 ≤ i := by omega
        rcases this with rfl | rfl | h2
        · simp at hc hv; subst hc; subst hv; exact h
        · simp at hc hv; subst hc; subst hv; exact .bool _
        · rw [List.getElem?_eq_none (by simpa using h2)] at hc; cases hc
      split at hp
      · rename_i t' y e; rw [e] at hx; generalize hv : a.eval x = vx at hx
        cases hx with
        | ifc _ _ u hy =>
        split at hp
        · rename_i ht
          cases hp
          subst ht
          cases ok
          · refine ⟨_, run_v (?_ : (Instr.typeAssert (a.eval x) xt t' false).run P w = .ok u w), hy⟩
            rw [hv]; unfold Instr.typeAssert
            cases d <;> first | exact absurd rfl (hni _) | simp [hu]
          · refine ⟨_, run_v (?_ : (Instr.typeAssert (a.eval x) xt t' true).run P w = .ok (.tuple #[u, .bool true]) w), two hy⟩
            rw [hv]; unfold Instr.typeAssert
            cases d <;> first | exact absurd rfl (hni _) | simp [hu]
        · rename_i ht
          split at hp
          · rename_i hok
            cases hp
            subst hok
            refine ⟨_, run_v (?_ : (Instr.typeAssert (a.eval x) xt t true).run P w = .ok (.tuple #[zv, .bool false]) w), two (constAV_vr hz)⟩
            rw [hv]; unfold Instr.typeAssert
            cases d <;> first | exact absurd rfl (hni _) | simp [hu, ht, hzr]
          · cases hp
      · rename_i e; rw [e] at hx; generalize hv : a.eval x = vx at hx
        cases hx
        split at hp
        · rename_i hok
          cases hp
          subst hok
          refine ⟨_, run_v (?_ : (Instr.typeAssert (a.eval x) xt t true).run P w = .ok (.tuple #[zv, .bool false]) w), two (constAV_vr hz)⟩
          rw [hv]; unfold Instr.typeAssert
          cases d <;> first | exact absurd rfl (hni _) | simp [hu, hzr]
        · cases hp
      · cases hp
  case load t x =>
    split at hc
    · simp only [Option.bind_eq_bind, Option.bind_eq_some_iff] at hc
      obtain ⟨_, _, hc⟩ := hc
      cases hc; cases hp
    · simp only [Option.bind_eq_bind, Option.bind_eq_some_iff] at hc
      obtain ⟨_, _, _, _, hc⟩ := hc
      cases hc; cases hp
  case next x sb =>
    split at hc
    · simp only [Option.map_eq_some_iff] at hc
      obtain ⟨_, _, hc⟩ := hc
      cases hc; cases hp
    · cases hc
  all_goals (try simp only [Option.bind_eq_bind, Option.bind_eq_some_iff, Option.map_eq_some_iff] at hc)
  all_goals (repeat' (first | (cases hc; done) | (obtain ⟨_, _, hc⟩ := hc) | (simp only [Option.bind_eq_some_iff] at hc) | (split at hc)))
  all_goals first | (cases hp; done) | (cases hc; cases hp; done)

end
end Go.Proofs.YtedembbgeljdkaaGreatDoor.Ev
