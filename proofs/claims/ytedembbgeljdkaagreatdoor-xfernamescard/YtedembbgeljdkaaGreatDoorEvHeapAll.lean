/-
  THE EVALUATOR's OPERATIONS are the model's: those on memory: the theorem.
-/
import Derived.Test.YtedembbgeljdkaaGreatDoorEvHeapOps
namespace Go.Proofs.YtedembbgeljdkaaGreatDoor.Ev
open Go
set_option linter.all false

section
variable {I : Nat → Prop} {P : Program} {μ : Mu} {F : Nat → Prop} {H : Heap} {w : World} {T : Tm} {a : Act}

theorem glob_vr (hH : HR P μ F H w) {x : Operand} {cs : List AV} (h : globOf x = some cs) {a : Act} : VR μ F w (.dp cs 0) (a.eval x) := by
  cases x with
  | global g => exact hH.gl _ _ h
  | _ => cases h

theorem heapA_sound {o : Oper} {ao : AOp} {v : AV} {H' : Heap} {id : Nat} (hc : cOp P o = some ao) (hp : heapA (Src.ev T) H id ao = some (v, H')) (hT : LR μ F w T a.tmps.toList) (hH : HR P μ F H w)
    (hid : μ id = none) (hlt : id < H.next) (hI : I id) : ∃ u w' μ', Ends P a w o u w' ∧ Done I P μ F H w v H' u w' μ' := by
  obtain ⟨dst, op, ty, pos, after, guard⟩ := o
  cases op <;> simp only [cOp] at hc
  case alloc e =>
    simp only [Option.bind_eq_bind, Option.bind_eq_some_iff] at hc
    obtain ⟨z, hz, hc⟩ := hc; cases hc
    simp only [heapA] at hp; cases hp
    obtain ⟨u, w', μ', h1, h2⟩ := alloc_sound hz hH hid hlt hI
    exact ⟨u, w', μ', .inl (run_v h1), h2⟩
  case box e x =>
    simp only [Option.bind_eq_bind, Option.bind_eq_some_iff] at hc
    obtain ⟨n, hn, s, hs, hc⟩ := hc; cases hc
    simp only [heapA] at hp
    split at hp
    · rename_i h1
      cases hp
      obtain ⟨u, w', μ', h1, h2⟩ := box_sound hn (src_vr hT hs) h1 hH hid hlt hI
      exact ⟨u, w', μ', .inl (run_v h1), h2⟩
    · cases hp
  case buildSlice t len parts =>
    simp only [Option.bind_eq_bind, Option.bind_eq_some_iff] at hc
    obtain ⟨d, hd, hc⟩ := hc
    split at hc
    · rename_i e
      simp only [Option.bind_eq_some_iff] at hc
      obtain ⟨n, hn, z, hz, ps, hps, hc⟩ := hc
      split at hc
      · rename_i hle
        cases hc
        simp only [heapA] at hp
        split at hp
        · cases hp
        · rename_i cs hf
          cases hp
          obtain ⟨u, w', μ', h1, h2⟩ := buildSlice_sound (parts := parts.toList) hT hd hn hz hle.2 hle.1 hps hf hH hid hlt hI
          refine ⟨u, w', μ', .inl (run_v ?_), h2⟩
          simpa using h1
      · cases hc
    · cases hc
  case indexAddr t x i =>
    simp only [Option.bind_eq_bind, Option.bind_eq_some_iff] at hc
    obtain ⟨d, hd, hc⟩ := hc
    split at hc
    · simp only [Option.bind_eq_some_iff] at hc
      obtain ⟨n, hn, sx, hsx, si, hsi, hc⟩ := hc; cases hc; cases hp
    · rename_i len e
      split at hc
      · rename_i cs hcs
        simp only [Option.bind_eq_some_iff] at hc
        obtain ⟨n, hn, si, hsi, hc⟩ := hc; cases hc
        simp only [heapA] at hp
        split at hp
        · rename_i ix hix
          split at hp
          · rename_i hlt
            cases hp
            obtain ⟨k, hk⟩ := asN_int hix (src_vr hT hsi)
            have hx := glob_vr hH hcs (a := a)
            generalize hv : a.eval x = vx at hx
            cases hx with
            | dp _ _ blk off arr ty' fr g1 g2 g4 g5 =>
              have hrun : (Instr.indexAt t (a.eval x) (a.eval i)).run P w = .ok (.pointer (some ⟨blk, off + 0 + ix * n, none⟩)) w := by
                rw [hv, hk]
                simp [Instr.indexAt, Instr.sureAddr, asIntOf, run_underlying hd, run_size hn, add_off, hlt]
              refine ⟨_, w, μ, .inl (run_v hrun), ⟨?_, hH, Stp.refl _ _ _ _ _ _⟩⟩
              rw [Nat.add_zero]
              exact .dp _ _ blk off arr ty' fr g1 g2 g4 g5
          · cases hp
        · cases hp
      · simp only [Option.bind_eq_some_iff] at hc
        obtain ⟨n, hn, sx, hsx, si, hsi, hc⟩ := hc; cases hc; cases hp
    · cases hc
  case load t x =>
    split at hc
    · rename_i cs hcs
      simp only [Option.bind_eq_bind, Option.bind_eq_some_iff] at hc
      obtain ⟨k, hk, hc⟩ := hc; cases hc
      simp only [heapA, Option.map_eq_some_iff] at hp
      obtain ⟨v', hv', hp⟩ := hp
      cases hp
      obtain ⟨u, h1, h2⟩ := load_sound hH hk (glob_vr hH hcs (a := a)) (v := v) hv'
      exact ⟨u, w, μ, .inl (run_v h1), ⟨h2, hH, Stp.refl _ _ _ _ _ _⟩⟩
    simp only [Option.bind_eq_bind, Option.bind_eq_some_iff] at hc
    obtain ⟨k, hk, s, hs, hc⟩ := hc; cases hc
    simp only [heapA, Option.map_eq_some_iff] at hp
    obtain ⟨v', hv', hp⟩ := hp
    cases hp
    obtain ⟨u, h1, h2⟩ := load_sound hH hk (src_vr hT hs) hv'
    exact ⟨u, w, μ, .inl (run_v h1), ⟨h2, hH, Stp.refl _ _ _ _ _ _⟩⟩
  case convert ta tb x =>
    simp only [Option.bind_eq_bind, Option.bind_eq_some_iff] at hc
    obtain ⟨d, hd, d', hd', hc⟩ := hc
    split at hc
    · simp only [Option.bind_eq_some_iff] at hc
      obtain ⟨s, hs, hc⟩ := hc
      cases hc; cases hp
    · simp only [Option.bind_eq_some_iff] at hc
      obtain ⟨s, hs, hc⟩ := hc
      cases hc; cases hp
    · simp only [Option.bind_eq_some_iff] at hc
      obtain ⟨e, he, hc⟩ := hc
      split at hc
      · simp only [Option.bind_eq_some_iff] at hc
        obtain ⟨s, hs, hc⟩ := hc
        cases hc
        simp only [heapA, Option.map_eq_some_iff] at hp
        obtain ⟨r, hr, hp⟩ := hp
        cases hp
        exact ⟨_, w, μ, .inl (run_v (toStr_sound hd he hd' hH (src_vr hT hs) hr)), ⟨.str _, hH, Stp.refl _ _ _ _ _ _⟩⟩
      · cases hc
    · simp only [Option.bind_eq_some_iff] at hc
      obtain ⟨e, he, hc⟩ := hc
      split at hc
      · simp only [Option.bind_eq_some_iff] at hc
        obtain ⟨n, hn, hc⟩ := hc
        split at hc
        · rename_i hn1
          subst hn1
          simp only [Option.bind_eq_some_iff] at hc
          obtain ⟨s, hs, hc⟩ := hc
          cases hc
          simp only [heapA] at hp
          split at hp
          · rename_i str hstr
            cases hp
            obtain ⟨u, w', μ', h1, h2⟩ := toBytes_sound hd he hd' hn hH hid hlt hI (hstr ▸ src_vr hT hs)
            exact ⟨u, w', μ', .inl (run_v h1), h2⟩
          · cases hp
        · cases hc
      · cases hc
    · cases hc
  case store t x y =>
    simp only [Option.bind_eq_bind, Option.bind_eq_some_iff] at hc
    obtain ⟨n, hn, sx, hsx, sy, hsy, hc⟩ := hc; cases hc
    simp only [heapA, Option.map_eq_some_iff] at hp
    obtain ⟨v', hv', hp⟩ := hp
    cases hp
    obtain ⟨w', h1, h2⟩ := store_sound (I := I) hn hH (src_vr hT hsx) (src_vr hT hsy) hv'
    exact ⟨undef, w', μ, .inr ⟨run_u h1, rfl⟩, h2⟩
  case makeMap t r =>
    simp only [Option.bind_eq_bind, Option.bind_eq_some_iff] at hc
    obtain ⟨d, hd, hc⟩ := hc
    split at hc
    · split at hc
      · rename_i hr
        cases hc
        simp only [heapA] at hp; cases hp
        obtain rfl : r = none := by simpa using hr
        obtain ⟨u, w', μ', h1, h2⟩ := mkmap_sound (t := t) hH hid hlt hI
        exact ⟨u, w', μ', .inl (run_v h1), h2⟩
      · cases hc
    · cases hc
  case makeSlice t l c =>
    simp only [Option.bind_eq_bind, Option.bind_eq_some_iff] at hc
    obtain ⟨d, hd, hc⟩ := hc
    split at hc
    · rename_i e
      simp only [Option.bind_eq_some_iff] at hc
      obtain ⟨n, hn, b, hb, z, hz, sl, hsl, sc, hsc, hc⟩ := hc; cases hc
      simp only [heapA] at hp
      split at hp
      · rename_i l' c' hl' hc'
        split at hp
        · rename_i hcond
          cases hp
          obtain ⟨kl, hkl⟩ := asN_int hl' (src_vr hT hsl)
          obtain ⟨kc, hkc⟩ := asN_int hc' (src_vr hT hsc)
          obtain ⟨u, w', μ', h1, h2⟩ := mksl_sound hd hn hb hz hcond.2.2.2 hkl hkc hcond.1 hcond.2.1 hcond.2.2.1 hH hid hlt hI
          exact ⟨u, w', μ', .inl (run_v h1), h2⟩
        · cases hp
      · cases hp
    · cases hc
  case lookup t x i ok =>
    simp only [Option.bind_eq_bind, Option.bind_eq_some_iff] at hc
    obtain ⟨d, hd, hc⟩ := hc
    split at hc
    · rename_i kt e
      split at hc
      · rename_i hk
        simp only [Option.bind_eq_some_iff] at hc
        obtain ⟨zv, hzv, kd, hkd, z, hz, sx, hsx, si, hsi, hc⟩ := hc; cases hc
        simp only [heapA, Option.map_eq_some_iff] at hp
        obtain ⟨v', hv', hp⟩ := hp
        cases hp
        obtain ⟨u, h1, h2⟩ := lookup_sound hH hd hk hkd (Option.bind_eq_some_iff.2 hzv) hz (src_vr hT hsx) (src_vr hT hsi) hv'
        exact ⟨u, w, μ, .inl (run_v h1), ⟨h2, hH, Stp.refl _ _ _ _ _ _⟩⟩
      · cases hc
    · cases hc
  case range t x =>
    simp only [Option.bind_eq_bind, Option.bind_eq_some_iff] at hc
    obtain ⟨d, hd, hc⟩ := hc
    split at hc
    · simp only [Option.bind_eq_some_iff] at hc
      obtain ⟨s, hs, hc⟩ := hc
      cases hc
      simp only [heapA] at hp
      split at hp
      · rename_i str hstr
        cases hp
        obtain ⟨u, w', μ', h1, h2⟩ := rangeS_sound (I := I) hd hH hid hlt hI (hstr ▸ src_vr hT hs)
        exact ⟨u, w', μ', .inl (run_v h1), h2⟩
      · cases hp
    · cases hc
  case next x sb =>
    split at hc
    · rename_i hsb
      subst hsb
      simp only [Option.map_eq_some_iff] at hc
      obtain ⟨s, hs, hc⟩ := hc
      cases hc
      simp only [heapA] at hp
      obtain ⟨u, w', h1, h2⟩ := nextS_sound (I := I) (ty := ty) hH (src_vr hT hs) hp
      exact ⟨u, w', μ, .inl (run_v h1), h2⟩
    · cases hc
  case mapUpdate t m k x =>
    simp only [Option.bind_eq_bind, Option.bind_eq_some_iff] at hc
    obtain ⟨d, hd, hc⟩ := hc
    split at hc
    · rename_i kt e
      split at hc
      · rename_i hk
        simp only [Option.bind_eq_some_iff] at hc
        obtain ⟨kd, hkd, sm, hsm, sk, hsk, sx, hsx, hc⟩ := hc; cases hc
        simp only [heapA, Option.map_eq_some_iff] at hp
        obtain ⟨v', hv', hp⟩ := hp
        cases hp
        obtain ⟨w', h1, h2⟩ := mapUpd_sound (I := I) hH hd hk hkd (src_vr hT hsm) (src_vr hT hsk) (src_vr hT hsx) hv'
        exact ⟨undef, w', μ, .inr ⟨run_u h1, rfl⟩, h2⟩
      · cases hc
    · cases hc
  case insert t m k x =>
    simp only [Option.bind_eq_bind, Option.bind_eq_some_iff] at hc
    obtain ⟨d, hd, hc⟩ := hc
    split at hc
    · rename_i kt e
      split at hc
      · rename_i hk
        simp only [Option.bind_eq_some_iff] at hc
        obtain ⟨kd, hkd, sm, hsm, sk, hsk, sx, hsx, hc⟩ := hc; cases hc
        simp only [heapA, Option.map_eq_some_iff] at hp
        obtain ⟨v', hv', hp⟩ := hp
        cases hp
        obtain ⟨w', h1, h2⟩ := mapUpd_sound (I := I) hH hd hk hkd (src_vr hT hsm) (src_vr hT hsk) (src_vr hT hsx) hv'
        exact ⟨undef, w', μ, .inr ⟨run_u h1, rfl⟩, h2⟩
      · cases hc
    · cases hc
  case call c =>
    simp only [Option.bind_eq_bind, Option.bind_eq_some_iff] at hc
    obtain ⟨args, hargs, hc⟩ := hc
    obtain ⟨callee, cargs, argTypes⟩ := c
    simp only at hc hargs
    cases callee with
    | value f =>
      simp only [Option.bind_eq_some_iff] at hc
      obtain ⟨s, hs, hc⟩ := hc; cases hc; cases hp
    | invoke r m => cases hc
    | builtin b =>
      have two : ∀ {x y : TypeId}, argTypes.toList = [x, y] → argTypes = #[x, y] := by
        intro x y h; obtain ⟨l⟩ := argTypes; simp at h; subst h; rfl
      have one : ∀ {x : TypeId}, argTypes.toList = [x] → argTypes = #[x] := by
        intro x h; obtain ⟨l⟩ := argTypes; simp at h; subst h; rfl
      simp only at hc
      split at hc
      · -- len
        simp only [Option.bind_eq_some_iff] at hc
        obtain ⟨d, hd, hc⟩ := hc
        split at hc
        · cases hc; cases hp
        · cases hc; cases hp
        · rename_i kt e
          cases hc
          obtain ⟨vx, hvx, hr⟩ := one_arg hT hargs
          have hat := one (by assumption)
          simp only [heapA] at hp
          split at hp
          · rename_i e'; rw [e'] at hr; cases hp; cases hr
            exact ⟨_, w, μ, .inl (run_builtin (s := Builtin.len_ argTypes ty (cargs.map a.eval)) (by rw [hvx, hat]; simp [Builtin.len_, run_underlying hd]; rfl) (fun _ => rfl)), ⟨.int _ _, hH, Stp.refl _ _ _ _ _ _⟩⟩
          · rename_i b e'; rw [e'] at hr
            split at hp
            · rename_i es hb
              cases hp
              cases hr with
              | map _ L hL =>
              obtain ⟨L', hL', hE⟩ := hH.ent b _ hb
              rw [hL] at hL'; cases hL'
              obtain ⟨hnF, xs, c, g1, g2, g3⟩ := hE
              have hsz : xs.size = es.length := by have := g2.1; simp at this; omega
              refine ⟨_, w, μ, .inl (run_builtin (s := Builtin.len_ argTypes ty (cargs.map a.eval)) (by rw [hvx, hat]; simp [Builtin.len_, run_underlying hd, run_getMap g1]; rfl) (fun _ => rfl)), ⟨?_, hH, Stp.refl _ _ _ _ _ _⟩⟩
              rw [hsz]
              exact .int _ _
            · rename_i es hb
              cases hp
              cases hr with
              | map _ L hL =>
              obtain ⟨L', hL', hE⟩ := hH.ent b _ hb
              rw [hL] at hL'; cases hL'
              obtain ⟨xs, c, g1, g2, g3⟩ := hE
              have hsz : xs.size = es.length := by have := g2.1; simp at this; omega
              refine ⟨_, w, μ, .inl (run_builtin (s := Builtin.len_ argTypes ty (cargs.map a.eval)) (by rw [hvx, hat]; simp [Builtin.len_, run_underlying hd, run_getMap g1]; rfl) (fun _ => rfl)), ⟨?_, hH, Stp.refl _ _ _ _ _ _⟩⟩
              rw [hsz]
              exact .int _ _
            · cases hp
          · cases hp
        · cases hc
      · -- cap
        simp only [Option.bind_eq_some_iff] at hc
        obtain ⟨d, hd, hc⟩ := hc
        split at hc
        · cases hc; cases hp
        · cases hc
      · cases hc; cases hp
      · cases hc; cases hp
      · -- append
        simp only [Option.bind_eq_some_iff] at hc
        obtain ⟨d, hd, d', hd', hc⟩ := hc
        have hat := two (by assumption)
        obtain ⟨vx, vy, hv, hr1, hr2⟩ := two_args hT hargs
        split at hc
        · rename_i e e'
          simp only [Option.bind_eq_some_iff] at hc
          obtain ⟨n, hn, z, hz, hc⟩ := hc
          split at hc
          · rename_i hzl
            simp only [Option.bind_eq_some_iff] at hc
            obtain ⟨by', hby, hc⟩ := hc
            cases hc
            simp only [heapA] at hp
            split at hp
            · cases hp
            · rename_i m hm
              split at hp
              · cases hp
              · rename_i news hnews
                obtain ⟨u, w', μ', h1, h2⟩ := append_sound (ty := ty) hd hn hby hz hzl (.inl ⟨e', hd'⟩) hH hid hlt hI hr1 hr2 hm hnews hp
                exact ⟨u, w', μ', .inl (run_builtin (s := Builtin.append_ argTypes ty (cargs.map a.eval)) (by rw [hv, hat]; exact h1) (fun _ => rfl)), h2⟩
          · cases hc
        · rename_i e
          simp only [Option.bind_eq_some_iff] at hc
          obtain ⟨n, hn, z, hz, hc⟩ := hc
          split at hc
          · rename_i hzl
            simp only [Option.bind_eq_some_iff] at hc
            obtain ⟨by', hby, hc⟩ := hc
            cases hc
            simp only [heapA] at hp
            split at hp
            · cases hp
            · rename_i m hm
              split at hp
              · cases hp
              · rename_i news hnews
                obtain ⟨u, w', μ', h1, h2⟩ := append_sound (ty := ty) hd hn hby hz hzl (.inr hd') hH hid hlt hI hr1 hr2 hm hnews hp
                exact ⟨u, w', μ', .inl (run_builtin (s := Builtin.append_ argTypes ty (cargs.map a.eval)) (by rw [hv, hat]; exact h1) (fun _ => rfl)), h2⟩
          · cases hc
        · rename_i e
          simp only [Option.bind_eq_some_iff] at hc
          obtain ⟨n, hn, z, hz, hc⟩ := hc
          split at hc
          · rename_i hzl
            simp only [Option.bind_eq_some_iff] at hc
            obtain ⟨by', hby, hc⟩ := hc
            cases hc
            simp only [heapA] at hp
            split at hp
            · cases hp
            · rename_i m hm
              split at hp
              · rename_i hcond
                obtain ⟨u, w', μ', h1, h2⟩ := appendZ_sound (ty := ty) hd hn hby hz hzl hd' hH hid hlt hI hr1 hr2 hm hcond.2.1 hcond.2.2 hp
                exact ⟨u, w', μ', .inl (run_builtin (s := Builtin.append_ argTypes ty (cargs.map a.eval)) (by rw [hv, hat]; exact h1) (fun _ => rfl)), h2⟩
              · cases hp
          · cases hc
        · cases hc
      · -- clear
        simp only [Option.bind_eq_some_iff] at hc
        obtain ⟨d, hd, hc⟩ := hc
        split at hc
        · rename_i e
          simp only [Option.bind_eq_some_iff] at hc
          obtain ⟨n, hn, z, hz, hc⟩ := hc
          cases hc
          obtain ⟨vx, hvx, hr⟩ := one_arg hT hargs
          have hat := one (by assumption)
          simp only [heapA, Option.map_eq_some_iff] at hp
          obtain ⟨v', hv', hp⟩ := hp
          cases hp
          obtain ⟨u, w', h1, h2⟩ := clear_sound (I := I) (ty := ty) hd hn hz hH hr hv'
          exact ⟨u, w', μ, .inl (run_builtin (s := Builtin.clear_ argTypes ty (cargs.map a.eval)) (by rw [hvx, hat]; exact h1) (fun _ => rfl)), h2⟩
        · cases hc
      · cases hc
  all_goals (try simp only [Option.bind_eq_bind, Option.bind_eq_some_iff, Option.map_eq_some_iff] at hc)
  all_goals (repeat' (first | (cases hc; done) | (obtain ⟨_, _, hc⟩ := hc) | (simp only [Option.bind_eq_some_iff] at hc) | (split at hc)))
  all_goals first | (cases hp; done) | (cases hc; cases hp; done)

end
end Go.Proofs.YtedembbgeljdkaaGreatDoor.Ev
