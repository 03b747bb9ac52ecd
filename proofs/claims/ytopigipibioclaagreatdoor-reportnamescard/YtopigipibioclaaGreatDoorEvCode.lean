/- The evaluator, a part. -/
import Derived.Test.YtopigipibioclaaGreatDoorEvMap
import Derived.LoopNIn
import Derived.RangeFuncLeaves
import Derived.OrdersIn
namespace Go.Proofs.YtopigipibioclaaGreatDoor.Ev
open Go
set_option linter.all false
def Runs (F : Fence) (n : Nat) (P : Program) (r : Result Next) (post : Value → World → Prop) : Prop :=
 match r with
 | .ok (.value u) w' => post u w'
 | .ok (.enter f args) w' => CallsIn F n P f args w' fun e a => ∃ u, e = .returned u ∧ post u a
 | .ok (.round l f tmps b body) w' => RoundIn F n P l f tmps b body w' fun e a => ∃ u, e = .returned u ∧ post u a
 | _ => False
def FenceOK (F : Fence) (rd : Bool) : Prop := (rd = false ∧ F = Fence.wide) ∨ (rd = true ∧ ∃ l, F = Fence.wide.inRound l)
def fB : Nat → Prop := fun _ => False
def xE (P : Program) (μ : Mu) (t : Task) (vs : List Value) (w : World) : Result Next :=
 match t with
 | .fn f _ => (callFunc f vs.toArray).run P w
 | .ent f _ => (callFunc f vs.toArray).run P w
 | .round b _ => match μ b with
  | some L => (Instr.yield L.blk vs.toArray).run P w
  | none => .halt (.stuck "") w
def Task.args : Task → List AV
 | .fn _ args => args
 | .round _ args => args
 | .ent _ args => args
def dQ (P : Program) (a : dZ) : Prop := ∀ t H v H', a t H = some (v, H') → ∀ (μ : Mu) (F : Nat → Prop) (w : World) (vs : List Value) (fence : Fence) (rd : Bool) (n : Nat), FenceOK fence rd → HR P μ F H w → LR μ F w t.args vs →
 (∀ b args, t = .round b args → ∃ L, μ b = some L) →
 (∀ f args, t = .ent f args → (callFunc f vs.toArray).run P w = .ok (.enter f vs.toArray) w) ∧ Runs fence n P (xE P μ t vs w) fun u w' => ∃ μ', Done fB P μ F H w v H' u w' μ'
section
variable {P : Program}
theorem Runs.mono {F : Fence} {n : Nat} {r : Result Next} {p q : Value → World → Prop} (h : Runs F n P r p) (a : ∀ u w, p u w → q u w) : Runs F n P r q := by
 unfold Runs at *
 split at h
 ·exact a _ _ h
 ·exact h.mono fun e w ⟨u, h1, h2⟩ => ⟨u, h1, a _ _ h2⟩
 ·exact h.mono fun e w ⟨u, h1, h2⟩ => ⟨u, h1, a _ _ h2⟩
 ·exact h.elim
theorem FenceOK.fn {F : Fence} {rd : Bool} (h : FenceOK F rd) (f : FuncId) : F.fn f := by
 rcases h with ⟨_, rfl⟩ | ⟨_, l, rfl⟩ <;> trivial
theorem FenceOK.depth {F : Fence} {rd : Bool} (h : FenceOK F rd) (n : Nat) : F.depth.isSome = true → 1 ≤ n := by
 rcases h with ⟨_, rfl⟩ | ⟨_, l, rfl⟩ <;> intro h <;> cases h
theorem YL {fence : Fence} {rd : Bool} {n : Nat} {o : Oper} {a : Act} {w w' : World} {u : Value} {next : Act → World → Prop} {Q : Exit → Act → World → Prop} (hF : FenceOK fence rd) (hd : ∀ c, o.op ≠ .defer c)
  (h : qF P a w o u w') (hn : next (a.put o.dst u) w') : o.wpIn fence n P a w next Q := by
 refine ⟨fun f _ => hF.fn f, ?_⟩
 rw [Oper.semAt_eq _ _ _ hd]
 rcases h with h | ⟨h, rfl⟩
 ·rw [h]; exact hn
 ·rw [h]; exact hn
theorem anq {fence : Fence} {rd : Bool} {n : Nat} {o : Oper} {a : Act} {w : World} {next : Act → World → Prop} {Q : Exit → Act → World → Prop} (hF : FenceOK fence rd) (hd : ∀ c, o.op ≠ .defer c)
  (h : Runs fence (n - 1) P ((execOp a.eval o).run P w) fun u w' => next (a.put o.dst u) w') : o.wpIn fence n P a w next Q := by
 refine ⟨fun f _ => hF.fn f, ?_⟩
 rw [Oper.semAt_eq _ _ _ hd]
 generalize (execOp a.eval o).run P w = r at h
 unfold Runs at h
 split at h
 ·exact h
 ·exact ⟨hF.depth n, h.mono fun e w ⟨u, h1, h2⟩ => by subst h1; exact h2⟩
 ·exact ⟨hF.depth n, h.mono fun e w ⟨u, h1, h2⟩ => by subst h1; exact h2⟩
 ·exact h.elim
theorem agl {o : Oper} {a : AOp} (h : iA P o = some a) : ∀ c, o.op ≠ .defer c := by
 intro c hc
 unfold iA at h
 rw [hc] at h
 cases h
variable {μ : Mu} {F : Nat → Prop} {H : Heap} {w : World} {T : Tm} {a : Act}
theorem akm {a : dZ} (i : dQ P a) {f : AV} {args : List AV} {t : Task} {v : AV} {H' : Heap} {k : Value} {vs : List Value} (hf : VR μ F w f k) (hargs : LR μ F w args vs) (ht : qK f args = some t)
  (h : a t H = some (v, H')) (hH : HR P μ F H w) {fence : Fence} {rd : Bool} (hF : FenceOK fence rd) (n : Nat) {c : Call} {ty : TypeId} {ρ : Operand → Value} {g : Operand} (hc : c.callee = .value g) (hg : ρ g = k) (m : (c.args.map ρ).toList = vs) :
  Runs fence n P ((do let d ← resolve ρ c ty; invoke d.target d.args : Sem Next).run P w) fun u w' => ∃ μ', Done fB P μ F H w v H' u w' μ' := by
 have j : c.args.map ρ = vs.toArray := by rw [← m]
 cases f <;> simp only [qK] at ht <;> first | (cases ht; done) | skip
 ·rename_i fn first cap
  cases fn <;> simp only at ht <;> first | (cases ht; done) | skip
  rename_i l
  cases ht
  cases hf with
  | fn _ _ _ us o h1 h2 h3 h4 =>
  have hl := ((LR.of_agg h1 h2).append hargs).append (LR.of_agg h3 h4)
  have := (i _ _ _ _ h μ F w _ fence rd n hF hH hl (fun b args e => by cases e)).2
  simp only [xE] at this
  have e : (do let d ← resolve ρ c ty; invoke d.target d.args : Sem Next).run P w = (callFunc l (us.toList ++ vs ++ o.toList).toArray).run P w := by
   simp only [resolve, hc, hg, j, Deferred.ofValue, Sem.run_bind, Sem.run_pure, Result.andThen_ok, invoke]
   congr 2
   apply Array.ext'; simp
  rw [e]; exact this
 ·rename_i b
  cases ht
  cases hf with
  | loopv _ L hL =>
  have := (i _ _ _ _ h μ F w vs fence rd n hF hH hargs (fun b' p e => by cases e; exact ⟨L, hL⟩)).2
  simp only [xE, hL] at this
  have e : (do let d ← resolve ρ c ty; invoke d.target d.args : Sem Next).run P w = (Instr.yield L.blk vs.toArray).run P w := by
   simp only [resolve, hc, hg, j, Deferred.ofValue, Sem.run_bind, Sem.run_pure, Result.andThen_ok, invoke]
   congr 2
   apply Array.ext'; simp
  rw [e]; exact this
theorem XX {k : dZ} (q : dQ P k) {I : Nat → Prop} {o : Oper} {i : AOp} {v : AV} {H' : Heap} {id : Nat} (hc : iA P o = some i) (hp : gB k (Src.ev T) H id i = some (v, H')) (hT : LR μ F w T a.tmps.toList) (hH : HR P μ F H w)
  (z : μ id = none) (A : id < H.next) (p : I id) {fence : Fence} {rd : Bool} (hF : FenceOK fence rd) {n : Nat} {next : Act → World → Prop} {Q : Exit → Act → World → Prop}
  (hn : ∀ u w' μ', Done I P μ F H w v H' u w' μ' → next (a.put o.dst u) w') : o.wpIn fence n P a w next Q := by
 have hd := agl hc
 have l : (match bJ (Src.ev T) i with | some v => some (v, H) | none => bR (Src.ev T) H id i) = some (v, H') → o.wpIn fence n P a w next Q := by
  intro hp
  split at hp
  ·rename_i D B
   cases hp
   obtain ⟨u, h1, h2⟩ := alf hc B hT
   exact YL hF hd (.inl h1) (hn u w μ ⟨h2, hH, Stp.refl _ _ _ _ _ _⟩)
  ·obtain ⟨u, w', μ', h1, h2⟩ := akr hc hp hT hH z A p
   exact YL hF hd h1 (hn u w' μ' h2)
 cases i with
 | call f args =>
  simp only [gB, Option.bind_eq_bind, bN] at hp
  obtain ⟨t, ht, hp⟩ := hp
  -- the operation is a call of a function's value
  obtain ⟨g, e, argTypes, hop, hg, hargs⟩ : ∃ g e argTypes, o.op = .call ⟨.value g, e, argTypes⟩ ∧ cH g = some f ∧ e.toList.mapM cH = some args := by
   obtain ⟨dst, op, ty, pos, after, guard⟩ := o
   cases op <;> simp only [iA] at hc
   case next x C =>
    split at hc
    ·simp only [Option.map_eq_some_iff] at hc
     obtain ⟨_, _, hc⟩ := hc
     cases hc
    ·cases hc
   case call c =>
    simp only [Option.bind_eq_bind, bN] at hc
    obtain ⟨as, has, hc⟩ := hc
    obtain ⟨callee, e, argTypes⟩ := c
    cases callee with
    | value g =>
     simp only [bN] at hc
     obtain ⟨s, hs, hc⟩ := hc; cases hc
     exact ⟨g, e, argTypes, rfl, hs, has⟩
    | invoke r m => cases hc
    | builtin b =>
     simp only at hc
     split at hc
     all_goals (try simp only [bN] at hc)
     all_goals (repeat' (first | (cases hc; done) | (obtain ⟨_, _, hc⟩ := hc) | (simp only [bN] at hc) | (split at hc)))
   all_goals (try simp only [Option.bind_eq_bind, bN, Option.map_eq_some_iff] at hc)
   all_goals (repeat' (first | (cases hc; done) | (obtain ⟨_, _, hc⟩ := hc) | (simp only [bN] at hc) | (split at hc)))
  have hl := yn hT hargs
  refine anq hF hd ?_
  have y : execOp a.eval o = (do let d ← resolve a.eval ⟨.value g, e, argTypes⟩ o.type; invoke d.target d.args : Sem Next) := by
   unfold execOp; rw [hop]
  rw [y]
  have := akm q (fw hT hg) hl ht hp hH hF (n - 1) (c := ⟨.value g, e, argTypes⟩) (ty := o.type) (ρ := a.eval) (g := g) rfl rfl (by simp)
  exact this.mono fun u w' ⟨μ', j⟩ => hn u w' μ' ⟨j.val, j.heap, j.stp.mono fun _ h => h.elim⟩
 | _ => exact l hp
end
end Go.Proofs.YtopigipibioclaaGreatDoor.Ev

namespace Go.Proofs.YtopigipibioclaaGreatDoor.Ev
open Go
set_option linter.all false
section
variable {P : Program} {μ : Mu} {F : Nat → Prop} {H : Heap} {w : World} {T : Tm} {a : Act}
theorem B9 (hT : LR μ F w T a.tmps.toList) (d : Option Nat) {v : AV} {u : Value} (hv : VR μ F w v u) : LR μ F w (fL T d v) (a.put d u).tmps.toList := by
 cases d with
 | none => exact hT
 | some d => simp only [fL, Act.put, Array.toList_setIfInBounds]; exact hT.set d hv
theorem akw {μ : Mu} {F : Nat → Prop} {w : World} : VR μ F w (.tup []) undef := .tup _ _ rfl fun i c v h => by simp at h
theorem Ch (hT : LR μ F w T a.tmps.toList) {ops : Array Oper} {o : Oper} {g : Option (Nat × Bool)} {b : Bool}
  (hg : Xv ops o.guard = some g) (h : iv T g = some b) : Region.wanted o (yielded ops a.tmps) = b := by
 unfold Region.wanted
 cases e : o.guard with
 | none => rw [e] at hg; cases hg; cases h; rfl
 | some p =>
  obtain ⟨j, k⟩ := p
  rw [e] at hg
  simp only [Xv] at hg
  split at hg
  ·cases hg
  rename_i i f
  split at hg
  ·cases hg
  rename_i d hd
  cases hg
  simp only [iv] at h
  have hy : yielded ops a.tmps j = match a.tmps[d]? with | some (.bool b) => some b | _ => none := by
   unfold yielded
   rw [f]; simp [hd]; rfl
  simp only [hy]
  split at h
  ·rename_i c hc
   cases h
   obtain ⟨v, hv, hr⟩ := hT.get hc
   have : a.tmps[d]? = some v := by simpa using hv
   cases hr
   rw [this]
   simp
  ·rename_i hc
   cases h
   obtain ⟨v, hv, hr⟩ := hT.get hc
   have : a.tmps[d]? = some v := by simpa using hv
   cases hr
   rw [this]
   simp
  ·cases h
theorem Y5 {D : dZ} (L : dQ P D) {fence : Fence} {rd : Bool} (hF : FenceOK fence rd) {n : Nat} {ops : Array Oper} {Q : Exit → Act → World → Prop} {C : Tm} {H' : Heap} {base top : Nat} {tail : List Nat} :
  ∀ (os : List Oper) (rs : List ROp) (i id : Nat) (μ : Mu) (H : Heap) (w : World) (T : Tm) (a : Act), (∀ (k : Nat) (o : Oper), os[k]? = some o → ops[i + k]? = some o) → os.mapM (jj P ops) = some rs → fN D id rs T H = some (C, H') → base ≤ id → id + os.length ≤ top → id + os.length ≤ H.next →
  (∀ j, id ≤ j → j < id + os.length → μ j = none) → LR μ F w T a.tmps.toList → HR P μ F H w →
  (∀ d w' μ', d.defers = a.defers → LR μ' F w' C d.tmps.toList → HR P μ' F H' w' → Stp (fun b => base ≤ b ∧ b < top) P μ F H w μ' F H' w' → wpOpsIn fence n P ops Q tail d w') →
  wpOpsIn fence n P ops Q (List.range' i os.length ++ tail) a w := by
 intro os
 induction os with
 | nil =>
  intro rs i id μ H w T a z e c _ _ _ _ hT hH m
  simp at e; subst e
  cases c
  exact m a w μ rfl hT hH (Stp.refl _ _ _ _ _ _)
 | cons o os ih =>
  intro rs i id μ H w T a z e c K R O p hT hH m
  simp only [List.mapM_cons, Option.pure_def, Option.bind_eq_bind, bN] at e
  obtain ⟨r, hr, J, G, e⟩ := e
  cases e
  have hoi : ops[i]? = some o := z 0 o rfl
  have E : ∀ (k : Nat) (o : Oper), os[k]? = some o → ops[i + 1 + k]? = some o := fun k o h => by
   have := z (k + 1) o (by simpa using h)
   rwa [show i + (k + 1) = i + 1 + k by omega] at this
  simp only [jj, Option.map_eq_some_iff] at hr
  obtain ⟨g, hg, hr⟩ := hr
  cases hr
  simp only [List.length_cons] at R O p ⊢
  simp only [fN] at c
  simp only [List.range'_succ, List.cons_append, wpOpsIn, hoi]
  split at c
  ·rename_i A
   have B := Ch (o := o) hT hg A
   rw [if_pos B]
   split at c
   ·rename_i v H1 hop
    have N : iA P o = some ((iA P o).getD .bad) := by
     cases M : iA P o with
     | some x => rfl
     | none => rw [M] at hop; simp [gB, bJ, bR] at hop
    refine XX L (I := fun b => b = id) N hop hT hH (p id (Nat.le_refl _) (by omega)) (by omega) rfl hF fun u w' μ' l => ?_
    refine ih J (i + 1) (id + 1) μ' H1 w' _ _ E G c (by omega) (by omega) (by have := l.stp.next; omega) (fun j h1 h2 => ?_) (B9 (l.stp.lr hH hT) _ l.val) l.heap fun d w2 μ2 y t q s => ?_
    ·exact l.stp.new j (by omega) (by omega) (p j (by omega) (by omega))
    ·refine m d w2 μ2 (y.trans ?_) t q ((l.stp.mono fun b hb => ?_).trans s)
     ·cases o.dst <;> rfl
     ·subst hb; exact ⟨K, by omega⟩
   ·cases c
  ·rename_i A
   have B := Ch (o := o) hT hg A
   rw [if_neg (by rw [B]; decide)]
   refine ⟨fun f _ => hF.fn f, ?_⟩
   refine ih J (i + 1) (id + 1) μ H w _ _ E G c (by omega) (by omega) (by omega) (fun j h1 h2 => p j (by omega) (by omega)) (B9 hT _ akw) hH fun d w2 μ2 y t q s => ?_
   refine m d w2 μ2 (y.trans ?_) t q s
   cases o.dst <;> rfl
  ·cases c
theorem HR.bump {H : Heap} (h : HR P μ F H w) (k : Nat) : HR P μ F { H with next := H.next + k } w :=
 ⟨fun b L hb => ⟨Nat.lt_of_lt_of_le (h.dom b L hb).1 (Nat.le_add_right _ _), (h.dom b L hb).2⟩, h.fb, h.ent, h.inj, h.gl⟩
theorem pB {H : Heap} (h : HR P μ F H w) {j : Nat} (hj : H.next ≤ j) : μ j = none := by
 cases hm : μ j with
 | none => rfl
 | some L => have := (h.dom j L hm).1; omega
theorem ajm {g : dZ} (s : dQ P g) {fence : Fence} {rd : Bool} (hF : FenceOK fence rd) {n id : Nat} {ops : Array Oper} {rs : List ROp} {Q : Exit → Act → World → Prop} {f : Tm} {H' : Heap}
  (i : ops.toList.mapM (jj P ops) = some rs) (u : fN g H.next rs T { H with next := H.next + rs.length } = some (f, H')) (hT : LR μ F w T a.tmps.toList) (hH : HR P μ F H w)
  (p : ∀ d w' μ', d.defers = a.defers → LR μ' F w' f d.tmps.toList → HR P μ' F H' w' → Stp fB P μ F H w μ' F H' w' → Q .normal d w') :
  (Code.region id ops false).wpIn fence n P Q a w := by
 refine wpIn_region ?_
 have hlen : rs.length = ops.toList.length := by
  have key : ∀ (l : List Oper) (rs : List ROp), l.mapM (jj P ops) = some rs → rs.length = l.length := by
   intro l
   induction l with
   | nil => intro rs h; simp at h; subst h; rfl
   | cons o l ih =>
    intro rs h
    simp only [List.mapM_cons, Option.pure_def, Option.bind_eq_bind, bN] at h
    obtain ⟨r, hr, v, t, h⟩ := h
    cases h
    simp [ih v t]
  exact key _ _ i
 have := Y5 s hF (n := n) (ops := ops) (Q := Q) (base := H.next) (top := H.next + rs.length) (tail := []) ops.toList rs 0 H.next μ _ w T a (fun k o h => by simpa using h) i u (Nat.le_refl _) (by simp [hlen]) (by simp [hlen]) (fun j h1 _ => pB hH h1) hT (hH.bump _) (fun d w' μ' hd q m c => ?_)
 ·rw [List.range_eq_range']; simpa using this
 ·refine p d w' μ' hd q m ⟨c.mu, c.fr, c.size, c.keep, c.rw, Nat.le_trans (Nat.le_add_right _ _) c.next, fun b hb _ hn => c.new b (Nat.lt_of_lt_of_le hb (Nat.le_add_right _ _)) (by omega) hn, c.rng, fun b e hb hl _ => c.old b e hb (Nat.lt_of_lt_of_le hl (Nat.le_add_right _ _)) (by omega), c.alv, c.tape, c.os, c.out⟩
end
end Go.Proofs.YtopigipibioclaaGreatDoor.Ev

namespace Go.Proofs.YtopigipibioclaaGreatDoor.Ev
open Go
set_option linter.all false
/-! ### Equality that is told is equality -/
mutual
theorem AV.beq_eq : ∀ (a b : AV), AV.beq a b = true → a = b
 | .undef, b, h => by cases b <;> simp [AV.beq] at h ⊢
 | .bool a, b, h => by cases b <;> simp [AV.beq] at h ⊢; exact h
 | .int k a, b, h => by cases b <;> simp [AV.beq] at h ⊢; exact h
 | .str a, b, h => by cases b <;> simp [AV.beq] at h ⊢; exact h
 | .nilPtr, b, h => by cases b <;> simp [AV.beq] at h ⊢
 | .nilSl, b, h => by cases b <;> simp [AV.beq] at h ⊢
 | .nilFn, b, h => by cases b <;> simp [AV.beq] at h ⊢
 | .nilIf, b, h => by cases b <;> simp [AV.beq] at h ⊢
 | .nilMap, b, h => by cases b <;> simp [AV.beq] at h ⊢
 | .agg a, b, h => by cases b <;> simp [AV.beq] at h ⊢; exact AV.beqs_eq _ _ h
 | .tup a, b, h => by cases b <;> simp [AV.beq] at h ⊢; exact AV.beqs_eq _ _ h
 | .sl a n, b, h => by cases b <;> simp [AV.beq] at h ⊢; exact ⟨AV.beqs_eq _ _ h.1, h.2⟩
 | .dp a n, b, h => by cases b <;> simp [AV.beq] at h ⊢; exact ⟨AV.beqs_eq _ _ h.1, h.2⟩
 | .own .., b, h => by cases b <;> simp [AV.beq] at h ⊢; simpa [and_assoc] using h
 | .ptr .., b, h => by cases b <;> simp [AV.beq] at h ⊢; exact h
 | .fn f a c, b, h => by cases b <;> simp [AV.beq] at h ⊢; exact ⟨h.1.1, AV.beqs_eq _ _ h.1.2, AV.beqs_eq _ _ h.2⟩
 | .ifc t a, b, h => by cases b <;> simp [AV.beq] at h ⊢; exact ⟨h.1, AV.beq_eq _ _ h.2⟩
 | .map a, b, h => by cases b <;> simp [AV.beq] at h ⊢; exact h
 | .loopv a, b, h => by cases b <;> simp [AV.beq] at h ⊢; exact h
theorem AV.beqs_eq : ∀ (a b : List AV), AV.beqs a b = true → a = b
 | [], b, h => by cases b <;> simp [AV.beqs] at h ⊢
 | x :: a, b, h => by cases b <;> simp [AV.beqs] at h ⊢; exact ⟨AV.beq_eq _ _ h.1, AV.beqs_eq _ _ h.2⟩
end
/-! ### Small heaps -/
theorem CL (base : Nat) (Es : List (Option Ent)) : ∀ (adds : List Nat) (C : Heap) (b : Nat),
  (dU base Es C adds).get b = match (if base ≤ b ∧ (b - base) ∈ adds then Es.getD (b - base) none else none) with | some e => some e | none => C.get b := by
 intro adds
 induction adds with
 | nil => intro C b; simp [dU]
 | cons a adds ih =>
  intro C b
  have d : dU base Es C (a :: adds) = dU base Es (match Es.getD a none with | some e => C.put (base + a) e | none => C) adds := rfl
  rw [d, ih]
  by_cases hb : base ≤ b
  ·by_cases hm : b - base ∈ adds
   ·rw [if_pos ⟨hb, hm⟩, if_pos ⟨hb, List.mem_cons_of_mem _ hm⟩]
    cases he : Es.getD (b - base) none with
    | some e => rfl
    | none =>
     simp only
     by_cases c : b - base = a
     ·subst c; rw [he]
     ·cases Es.getD a none with
      | none => rfl
      | some e => simp only [Heap.get_put]; rw [if_neg (by omega)]
   ·rw [if_neg (fun h => hm h.2)]
    by_cases c : b - base = a
    ·rw [if_pos ⟨hb, by rw [c]; exact List.mem_cons_self ..⟩]
     have : b = base + a := by omega
     subst this
     simp only [Nat.add_sub_cancel_left]
     cases Es.getD a none with
     | none => rfl
     | some e => simp only [Heap.get_put, if_true]
    ·rw [if_neg (fun h => (List.mem_cons.1 h.2).elim c hm)]
     cases Es.getD a none with
     | none => rfl
     | some e => simp only [Heap.get_put]; rw [if_neg (by omega)]
  ·rw [if_neg (fun h => hb h.1), if_neg (fun h => hb h.1)]
   cases Es.getD a none with
   | none => rfl
   | some e => simp only [Heap.get_put]; rw [if_neg (by omega)]
theorem qO (base : Nat) (Es : List (Option Ent)) : ∀ (adds : List Nat) (C : Heap), (dU base Es C adds).next = C.next := by
 intro adds
 induction adds with
 | nil => intro C; rfl
 | cons a adds ih =>
  intro C
  have b : dU base Es C (a :: adds) = dU base Es (match Es.getD a none with | some e => C.put (base + a) e | none => C) adds := rfl
  rw [b, ih]
  cases Es.getD a none <;> rfl
theorem ahd (base : Nat) {Es b : List (Option Ent)} : ∀ (adds : List Nat) (C : Heap), (∀ a ∈ adds, Es.getD a none = b.getD a none) → dU base Es C adds = dU base b C adds := by
 intro adds
 induction adds with
 | nil => intro C _; rfl
 | cons a adds ih =>
  intro C h
  have c : ∀ Es, dU base Es C (a :: adds) = dU base Es (match Es.getD a none with | some e => C.put (base + a) e | none => C) adds := fun _ => rfl
  rw [c, c, h a (List.mem_cons_self ..), ih _ (fun x hx => h x (List.mem_cons_of_mem _ hx))]
/-! ### Slots -/
theorem amw {T0 : Tm} {Vs Vs' : List AV} {us : List (Nat × Option Nat)} (h : ∀ u ∈ us, ∀ j, u.2 = some j → Vs.getD j .undef = Vs'.getD j .undef) : cF T0 Vs us = cF T0 Vs' us := by
 unfold cF
 generalize (List.replicate T0.length AV.undef) = T
 induction us generalizing T with
 | nil => rfl
 | cons u us ih =>
  have a : ie T0 Vs u = ie T0 Vs' u := by
   unfold ie
   cases hj : u.2 with
   | none => rfl
   | some j => exact h u (List.mem_cons_self ..) j hj
  simp only [List.foldl_cons, a]
  exact ih (fun c b => h c (List.mem_cons_of_mem _ b)) _
theorem Yw (T0 : Tm) (Vs : List AV) (us : List (Nat × Option Nat)) : (cF T0 Vs us).length = T0.length ∧
  ∀ (t : Nat) (c : AV), (cF T0 Vs us)[t]? = some c → c = .undef ∨ ∃ u ∈ us, u.1 = t ∧ c = ie T0 Vs u := by
 have key : ∀ (us : List (Nat × Option Nat)) (T : Tm), (us.foldl (fun T u => T.set u.1 (ie T0 Vs u)) T).length = T.length ∧
   ∀ (t : Nat) (c : AV), (us.foldl (fun T u => T.set u.1 (ie T0 Vs u)) T)[t]? = some c → T[t]? = some c ∨ ∃ u ∈ us, u.1 = t ∧ c = ie T0 Vs u := by
  intro us
  induction us with
  | nil => intro T; exact ⟨rfl, fun t c h => .inl h⟩
  | cons u us ih =>
   intro T
   obtain ⟨h1, h2⟩ := ih (T.set u.1 (ie T0 Vs u))
   refine ⟨by rw [List.foldl_cons, h1, List.length_set], fun t c h => ?_⟩
   rw [List.foldl_cons] at h
   rcases h2 t c h with h | ⟨b, a, h⟩
   ·by_cases e : u.1 = t
    ·subst e
     rw [List.getElem?_set_self'] at h
     cases hc : T[u.1]? with
     | none => rw [hc] at h; cases h
     | some x => rw [hc] at h; cases h; exact .inr ⟨u, List.mem_cons_self .., rfl, rfl⟩
    ·rw [List.getElem?_set_ne e] at h; exact .inl h
   ·exact .inr ⟨b, List.mem_cons_of_mem _ a, h⟩
 obtain ⟨h1, h2⟩ := key us (List.replicate T0.length .undef)
 refine ⟨by rw [cF, h1, List.length_replicate], fun t c h => ?_⟩
 rcases h2 t c h with h | h
 ·rw [List.getElem?_replicate] at h
  split at h
  ·cases h; exact .inl rfl
  ·cases h
 ·exact .inr h
/-! ### The evaluator's trace -/
def Pre (s a : DS) : Prop := s.Vs <+: a.Vs ∧ s.Cs <+: a.Cs ∧ s.Es <+: a.Es
theorem Pre.refl (s : DS) : Pre s s := ⟨List.prefix_rfl, List.prefix_rfl, List.prefix_rfl⟩
theorem Pre.trans {a b c : DS} (h : Pre a b) (h' : Pre b c) : Pre a c := ⟨h.1.trans h'.1, h.2.1.trans h'.2.1, h.2.2.trans h'.2.2⟩
theorem xK {α : Type} {a b : List α} (h : a <+: b) {i : Nat} (hi : i < a.length) (d : α) : b.getD i d = a.getD i d := by
 obtain ⟨c, rfl⟩ := h
 rw [List.getD_eq_getElem?_getD, List.getD_eq_getElem?_getD, List.getElem?_append_left hi]
theorem YI {α : Type} {a b : List α} {x : α} (h : a ++ [x] <+: b) (d : α) : b.getD a.length d = x := by
 rw [xK h (by simp), List.getD_eq_getElem?_getD]; simp
theorem Y4 {e : dZ} {base : Nat} {T0 : Tm} {i : Nat} {d : DOp} {s a : DS} (h : lG e base T0 i d s = some a) (hcl : d.cls = 0 ∨ d.cls = 1 ∨ d.cls = 2) :
  Pre s a ∧ a.Vs.length = s.Vs.length + 1 ∧ a.Es.length = s.Es.length + 1 ∧ a.Cs.length = s.Cs.length + (if d.cls = 2 then 1 else 0) := by
 unfold lG at h
 cases c : iv (cF T0 s.Vs d.uses) d.guard with
 | none => simp only [c] at h; cases h
 | some b =>
  cases b <;> simp only [c] at h <;> rcases hcl with hcl | hcl | hcl <;> simp only [hcl] at h <;> (repeat' (split at h)) <;> first | (cases h; done) | skip
  all_goals (first | (exfalso; rename_i h0 _; exact h0 rfl) | (exfalso; rename_i h0; exact h0 rfl) | skip)
  all_goals (first | (cases h; exact ⟨⟨List.prefix_append _ _, by first | exact List.prefix_append _ _ | exact List.prefix_rfl, List.prefix_append _ _⟩, by simp, by simp, by simp [hcl]⟩) | skip)
theorem af3 {f : dZ} {base : Nat} {T0 : Tm} : ∀ (ds : List DOp) (i : Nat) (a s : DS), (∀ d ∈ ds, d.cls = 0 ∨ d.cls = 1 ∨ d.cls = 2) → qB f base T0 i ds a = some s →
  Pre a s ∧ s.Vs.length = a.Vs.length + ds.length ∧ s.Es.length = a.Es.length + ds.length ∧ s.Cs.length = a.Cs.length + (ds.filter fun d => d.cls == 2).length ∧
  ∀ (q : Nat) (d : DOp), ds[q]? = some d → ∃ b c, lG f base T0 (i + q) d b = some c ∧ Pre c s ∧ b.Vs.length = a.Vs.length + q ∧ b.Es.length = a.Es.length + q ∧
   b.Cs.length = a.Cs.length + ((ds.take q).filter fun d => d.cls == 2).length := by
 intro ds
 induction ds with
 | nil => intro i a s _ h; cases h; exact ⟨Pre.refl _, rfl, rfl, rfl, fun q d h => by simp at h⟩
 | cons d ds ih =>
  intro i a s hcl h
  simp only [qB] at h
  split at h
  ·rename_i b h1
   obtain ⟨j, p, r, t⟩ := Y4 h1 (hcl d (List.mem_cons_self ..))
   obtain ⟨k1, k2, k3, k4, k5⟩ := ih (i + 1) b s (fun e k => hcl e (List.mem_cons_of_mem _ k)) h
   have g : ∀ (x : List DOp), ((d :: x).filter fun d => d.cls == 2).length = (if d.cls = 2 then 1 else 0) + (x.filter fun d => d.cls == 2).length := by
    intro x
    rw [List.filter_cons]
    by_cases hd : d.cls = 2
    ·simp [hd]; omega
    ·simp [hd]
   refine ⟨j.trans k1, by simp; omega, by simp; omega, by rw [g]; omega, fun q e hq => ?_⟩
   cases q with
   | zero => simp at hq; subst hq; exact ⟨a, b, h1, k1, rfl, rfl, rfl⟩
   | succ q =>
    obtain ⟨c, l, e1, e2, m, n, o⟩ := k5 q e (by simpa using hq)
    refine ⟨c, l, by rw [show i + (q + 1) = i + 1 + q by omega]; exact e1, e2, by omega, by omega, ?_⟩
    rw [List.take_succ_cons, g]; omega
  ·cases h
def qE (a : dZ) (base : Nat) (T0 : Tm) (s : DS) (i : Nat) (d : DOp) : Prop :=
 (iv (cF T0 s.Vs d.uses) d.guard = some false ∧ s.Vs.getD i .undef = .tup [] ∧ s.Es.getD i none = none ∧
  (d.cls = 2 → ∀ k adds, d.looks = [(k, adds)] → s.Cs.getD (k + 1) default = dU base s.Es (s.Cs.getD k default) adds)) ∨
 (iv (cF T0 s.Vs d.uses) d.guard = some true ∧
  ((d.cls = 0 ∧ s.Es.getD i none = none ∧ (bJ (Src.ev (cF T0 s.Vs d.uses)) d.op = some (s.Vs.getD i .undef) ∨ (bJ (Src.ev (cF T0 s.Vs d.uses)) d.op = none ∧ d.op.looks = true))) ∨
   (d.cls = 1 ∧ d.op.makes = true ∧ ∃ H', bR (Src.ev (cF T0 s.Vs d.uses)) (Heap.nil 0) (base + i) d.op = some (s.Vs.getD i .undef, H') ∧ s.Es.getD i none = H'.get (base + i)) ∨
   (d.cls = 2 ∧ s.Es.getD i none = none ∧ ∀ k adds, d.looks = [(k, adds)] → ∃ H', gB a (Src.ev (cF T0 s.Vs d.uses)) (dU base s.Es (s.Cs.getD k default) adds) (base + i) d.op = some (s.Vs.getD i .undef, H') ∧ H'.next = (s.Cs.getD (k + 1) default).next ∧ ∀ b, H'.get b = (s.Cs.getD (k + 1) default).get b)))
theorem aon {w : dZ} {base : Nat} {T0 : Tm} {i : Nat} {d : DOp} {c l s : DS} (h : lG w base T0 i d c = some l) (hs : Pre l s) (hcl : d.cls = 0 ∨ d.cls = 1 ∨ d.cls = 2)
  (hV : c.Vs.length = i) (x : c.Es.length = i) (C : ∀ u ∈ d.uses, ∀ j, u.2 = some j → j < i)
  (n : d.cls = 2 → ∀ k adds, d.looks = [(k, adds)] → c.Cs.length = k + 1 ∧ ∀ a ∈ adds, a < i) : qE w base T0 s i d := by
 have hg := Y4 h hcl
 have o : Pre c s := hg.1.trans hs
 have hT : cF T0 c.Vs d.uses = cF T0 s.Vs d.uses := amw fun u B j hj => (xK o.1 (by rw [hV]; exact C u B j hj) _).symm
 have y : d.cls = 2 → ∀ k adds, d.looks = [(k, adds)] → dU base c.Es (c.Cs.getD k default) adds = dU base s.Es (s.Cs.getD k default) adds := by
  intro h2 k adds hl
  obtain ⟨hk, ha⟩ := n h2 k adds hl
  rw [xK o.2.1 (by omega) default]
  exact ahd _ _ _ fun a hm => (xK o.2.2 (by rw [x]; exact ha a hm) _).symm
 have g : ∀ v, l.Vs = c.Vs ++ [v] → s.Vs.getD i .undef = v := fun v e => by
  have := hs.1; rw [e] at this; rw [← hV]; exact YI this _
 have f : ∀ v, l.Es = c.Es ++ [v] → s.Es.getD i none = v := fun v e => by
  have := hs.2.2; rw [e] at this; rw [← x]; exact YI this _
 have t : ∀ k v, c.Cs.length = k + 1 → l.Cs = c.Cs ++ [v] → s.Cs.getD (k + 1) default = v := fun k v hk e => by
  have := hs.2.1; rw [e] at this; rw [← hk]; exact YI this _
 unfold lG at h
 rw [hT] at h
 unfold qE
 cases q : iv (cF T0 s.Vs d.uses) d.guard with
 | none => simp only [q] at h; cases h
 | some b =>
 cases b
 ·simp only [q] at h
  refine .inl ⟨rfl, ?_⟩
  rcases hcl with hcl | hcl | hcl
  ·simp only [hcl] at h; cases h; exact ⟨g _ rfl, f _ rfl, fun h2 => by omega⟩
  ·simp only [hcl] at h; cases h; exact ⟨g _ rfl, f _ rfl, fun h2 => by omega⟩
  ·simp only [hcl] at h
   cases hl : d.looks with
   | nil => simp only [hl] at h; cases h
   | cons p r =>
    cases r with
    | cons E r => simp only [hl] at h; cases h
    | nil =>
     obtain ⟨k, adds⟩ := p
     simp only [hl] at h
     cases h
     refine ⟨g _ rfl, f _ rfl, fun _ D z m => ?_⟩
     cases m
     rw [← y hcl _ _ hl]
     exact t k _ (n hcl _ _ hl).1 rfl
 ·simp only [q] at h
  refine .inr ⟨rfl, ?_⟩
  rcases hcl with hcl | hcl | hcl <;> simp only [hcl] at h
  ·refine .inl ⟨hcl, ?_⟩
   cases hv : bJ (Src.ev (cF T0 s.Vs d.uses)) d.op with
   | some v =>
    simp only [hv] at h
    cases h
    exact ⟨f _ rfl, .inl (by rw [g v rfl])⟩
   | none =>
    simp only [hv] at h
    split at h
    ·split at h
     ·rename_i A
      split at h
      ·cases h; exact ⟨f _ rfl, .inr ⟨rfl, A⟩⟩
      ·cases h
     ·cases h
    ·cases h
  ·refine .inr (.inl ⟨hcl, ?_⟩)
   split at h
   ·rename_i hm
    split at h
    ·rename_i v H' hv
     cases h
     exact ⟨hm, H', by rw [g v rfl]; exact hv, f _ rfl⟩
    ·cases h
   ·cases h
  ·refine .inr (.inr ⟨hcl, ?_⟩)
   cases hl : d.looks with
   | nil => simp only [hl] at h; cases h
   | cons p r =>
    cases r with
    | cons E r => simp only [hl] at h; cases h
    | nil =>
     obtain ⟨k, adds⟩ := p
     simp only [hl] at h
     split at h
     ·rename_i v H' hv
      cases h
      refine ⟨f _ rfl, fun D z m => ?_⟩
      cases m
      refine ⟨H', ?_, ?_⟩
      ·rw [← y hcl _ _ hl, g v rfl]; exact hv
      ·rw [t k _ (n hcl _ _ hl).1 rfl]; exact ⟨rfl, fun _ => rfl⟩
     ·cases h
end Go.Proofs.YtopigipibioclaaGreatDoor.Ev

namespace Go.Proofs.YtopigipibioclaaGreatDoor.Ev
open Go
set_option linter.all false
def nJ (S : Nat → Bool) : Nat → Nat
 | 0 => 0
 | n + 1 => nJ S n + (if S n = true then 0 else 1)
def add (S : Nat → Bool) (i : Nat) (j : Nat) : Bool := if j = i then true else S j
theorem ago {S S' : Nat → Bool} : ∀ (n : Nat), (∀ j, j < n → S j = S' j) → nJ S n = nJ S' n
 | 0, _ => rfl
 | n + 1, h => by simp only [nJ]; rw [ago n (fun j hj => h j (by omega)), h n (by omega)]
theorem XI {S : Nat → Bool} {i : Nat} (a : S i = false) : ∀ (n : Nat), i < n → nJ (add S i) n + 1 = nJ S n
 | 0, h => by omega
 | n + 1, h => by
  simp only [nJ]
  by_cases e : i = n
  ·subst e
   rw [ago (S := add S i) (S' := S) i (fun j hj => by simp [add]; omega)]
   simp [add, a]
  ·have := XI a n (by omega)
   have : add S i n = S n := by simp [add]; omega
   rw [this]; omega
theorem XO {S : Nat → Bool} : ∀ (n : Nat), nJ S n = 0 → ∀ j, j < n → S j = true
 | 0, _, j, h => by omega
 | n + 1, h0, j, h => by
  simp only [nJ] at h0
  by_cases e : j = n
  ·subst e
   cases a : S j with
   | true => rfl
   | false => rw [a] at h0; simp at h0
  ·exact XO n (by omega) j (by omega)
theorem Yn {S : Nat → Bool} : ∀ (n : Nat), (∀ j, j < n → S j = false) → nJ S n = n
 | 0, _ => rfl
 | n + 1, h => by simp only [nJ]; rw [Yn n (fun j hj => h j (by omega)), h n (by omega)]; simp
section
variable (l : List DI) (T0 : Tm) (s : DS)
def dr (i : Nat) : Option Nat := (l.getD i default).dst
def fM (i : Nat) : List Nat := (l.getD i default).preds
def dE (i : Nat) : Nat := (l.getD i default).cls
def tv (S : Nat → Bool) : Nat → Nat → AV
 | 0, t => eQ T0 t
 | n + 1, t => if S n = true ∧ dr l n = some t then s.Vs.getD n .undef else tv S n t
variable {l T0 s}
theorem XP {S S' : Nat → Bool} {t : Nat} : ∀ (n : Nat), (∀ j, j < n → S j = S' j) → tv l T0 s S n t = tv l T0 s S' n t
 | 0, _ => rfl
 | n + 1, h => by simp only [tv]; rw [XP n (fun j hj => h j (by omega)), h n (by omega)]
theorem ra {S : Nat → Bool} {i t : Nat} (a : S i = false) : ∀ (n : Nat), i < n → (∀ j, i < j → j < n → S j = true → dr l i ≠ none → dr l i ≠ dr l j) →
  tv l T0 s (add S i) n t = if dr l i = some t then s.Vs.getD i .undef else tv l T0 s S n t
 | 0, h, _ => by omega
 | n + 1, h, hd => by
  simp only [tv]
  by_cases e : i = n
  ·subst e
   rw [XP (S := add S i) (S' := S) i (fun j hj => by simp [add]; omega)]
   simp [add, a]
  ·have h1 : add S i n = S n := by simp [add]; omega
   rw [h1, ra a n (by omega) (fun j h1 h2 => hd j h1 (by omega))]
   by_cases hc : S n = true ∧ dr l n = some t
   ·rw [if_pos hc, if_neg]
    ·rw [if_pos hc]
    ·intro hi
     exact hd n (by omega) (by omega) hc.1 (by rw [hi]; simp) (by rw [hi, hc.2])
   ·rw [if_neg hc, if_neg hc]
theorem apa {S : Nat → Bool} {j t : Nat} (a : S j = true) (hd : dr l j = some t) : ∀ (n : Nat), j < n → (∀ j', j < j' → j' < n → dr l j' = some t → S j' = false) →
  tv l T0 s S n t = s.Vs.getD j .undef
 | 0, h, _ => by omega
 | n + 1, h, hn => by
  simp only [tv]
  by_cases e : j = n
  ·subst e; rw [if_pos ⟨a, hd⟩]
  ·rw [if_neg (fun hc => by have := hn n (by omega) (by omega) hc.2; rw [this] at hc; exact absurd hc.1 (by simp))]
   exact apa a hd n (by omega) (fun j' h1 h2 => hn j' h1 (by omega))
theorem XH {S : Nat → Bool} {t : Nat} : ∀ (n : Nat), (∀ j', j' < n → dr l j' = some t → S j' = false) → tv l T0 s S n t = eQ T0 t
 | 0, _ => rfl
 | n + 1, hn => by
  simp only [tv]
  rw [if_neg (fun hc => by have := hn n (by omega) hc.2; rw [this] at hc; exact absurd hc.1 (by simp))]
  exact XH n (fun j' h1 => hn j' (by omega))
variable (l T0 s)
def TS (S : Nat → Bool) : Tm := (List.range T0.length).map (tv l T0 s S l.length)
variable {l T0 s}
theorem XW {S : Nat → Bool} : (TS l T0 s S).length = T0.length := by simp [TS]
theorem amh : TS l T0 s (fun _ => false) = T0 := by
 apply List.ext_getElem? 
 intro t
 by_cases ht : t < T0.length
 ·unfold TS
  rw [List.getElem?_map, List.getElem?_range ht]
  simp only [Option.map_some]
  rw [XH _ (fun _ _ _ => rfl), eQ, List.getD_eq_getElem?_getD, List.getElem?_eq_getElem ht]
  rfl
 ·rw [List.getElem?_eq_none (by rw [XW]; omega), List.getElem?_eq_none (by omega)]
theorem Cl {S : Nat → Bool} {i : Nat} (c : S i = false) (hi : i < l.length) (hd : ∀ j, i < j → j < l.length → S j = true → dr l i ≠ none → dr l i ≠ dr l j) :
  TS l T0 s (add S i) = fL (TS l T0 s S) (dr l i) (s.Vs.getD i .undef) := by
 apply List.ext_getElem?
 intro t
 have a : ∀ S, (TS l T0 s S)[t]? = if t < T0.length then some (tv l T0 s S l.length t) else none := by
  intro S
  unfold TS
  split
  ·rename_i ht; rw [List.getElem?_map, List.getElem?_range ht]; rfl
  ·rename_i ht; exact List.getElem?_eq_none (by simp; omega)
 rw [a, ra c _ hi hd]
 cases he : dr l i with
 | none => simp only [fL]; rw [a]; simp
 | some d =>
  simp only [fL]
  by_cases b : d = t
  ·subst b
   rw [List.getElem?_set_self', a]
   split <;> simp
  ·rw [List.getElem?_set_ne b, a]
   have : ¬ (some d = some t) := fun h => b (by injection h)
   rw [if_neg this]
theorem Y3 : ∀ (ds : List DOp) (Vs : List AV) (T : Tm) (d : DOp) (v : AV), ds.length = Vs.length → kb T (ds ++ [d]) (Vs ++ [v]) = fL (kb T ds Vs) d.dst v
 | [], [], T, d, v, _ => rfl
 | [], _ :: _, _, _, _, h => by simp at h
 | _ :: _, [], _, _, _, h => by simp at h
 | a :: ds, b :: Vs, T, d, v, h => by
  simp only [List.cons_append, kb]
  exact Y3 ds Vs _ d v (by simpa using h)
theorem XY : ∀ (ds : List DOp) (Vs : List AV) (T : Tm), (kb T ds Vs).length = T.length
 | [], [], T => rfl
 | [], _ :: _, T => rfl
 | _ :: _, [], T => rfl
 | d :: ds, v :: Vs, T => by
  simp only [kb]
  rw [XY ds Vs]
  cases d.dst <;> simp [fL]
theorem ai4 {ds : List DOp} (hlen : ds.length = l.length) (hv : s.Vs.length = l.length) (hd : ∀ i, i < l.length → (ds.getD i default).dst = dr l i) :
  kb T0 ds s.Vs = TS l T0 s (fun _ => true) := by
 have key : ∀ n, n ≤ l.length → ∀ t, t < T0.length → (kb T0 (ds.take n) (s.Vs.take n))[t]? = some (tv l T0 s (fun _ => true) n t) := by
  intro n
  induction n with
  | zero => intro _ t ht; simp [kb, tv, eQ, List.getElem?_eq_getElem ht]
  | succ n ih =>
   intro hn t ht
   have h1 : ds.take (n + 1) = ds.take n ++ [ds.getD n default] := by
    rw [List.take_succ_eq_append_getElem (by omega), List.getD_eq_getElem?_getD, List.getElem?_eq_getElem (by omega)]; rfl
   have h2 : s.Vs.take (n + 1) = s.Vs.take n ++ [s.Vs.getD n .undef] := by
    rw [List.take_succ_eq_append_getElem (by omega), List.getD_eq_getElem?_getD, List.getElem?_eq_getElem (by omega)]; rfl
   rw [h1, h2, Y3 _ _ _ _ _ (by simp; omega), hd n (by omega)]
   have ih := ih (by omega) t ht
   simp only [tv, true_and]
   cases he : dr l n with
   | none => simp only [fL]; rw [ih]; simp
   | some d =>
    simp only [fL]
    by_cases a : d = t
    ·subst a; rw [List.getElem?_set_self', ih]; simp
    ·have : ¬ (some d = some t) := fun h => a (by injection h)
     rw [List.getElem?_set_ne a, ih, if_neg this]
 apply List.ext_getElem?
 intro t
 by_cases ht : t < T0.length
 ·have := key l.length (Nat.le_refl _) t ht
  rw [List.take_of_length_le (by omega), List.take_of_length_le (by omega)] at this
  rw [this]
  unfold TS
  rw [List.getElem?_map, List.getElem?_range ht]
  rfl
 ·rw [List.getElem?_eq_none (by rw [XY]; omega), List.getElem?_eq_none (by rw [XW]; omega)]
/-! ### The acts -/
theorem ala {q a : Nat} (h : q < a) (hq : a < (dR l).length) : (dR l).getD q 0 < (dR l).getD a 0 := by
 have hp : List.Pairwise (· < ·) (dR l) := List.Pairwise.filter _ List.pairwise_lt_range
 rw [List.pairwise_iff_getElem] at hp
 rw [List.getD_eq_getElem?_getD, List.getD_eq_getElem?_getD, List.getElem?_eq_getElem (by omega), List.getElem?_eq_getElem hq]
 exact hp q a (by omega) hq h
theorem uB {q : Nat} (hq : q < (dR l).length) : (dR l).getD q 0 < l.length ∧ dE l ((dR l).getD q 0) = 2 := by
 have : (dR l).getD q 0 ∈ dR l := by
  rw [List.getD_eq_getElem?_getD, List.getElem?_eq_getElem hq]; exact List.getElem_mem hq
 have key : ∀ x, x ∈ dR l → x < l.length ∧ dE l x = 2 := by
  intro x hx
  unfold dR at hx
  rw [List.mem_filter] at hx
  exact ⟨by simpa using hx.1, by simpa [dE] using hx.2⟩
 exact key _ this
theorem aio {i : Nat} (hi : i < l.length) (hc : dE l i = 2) : ((List.range i).filter fun i => (l.getD i default).cls == 2).length < (dR l).length ∧
  (dR l).getD ((List.range i).filter fun i => (l.getD i default).cls == 2).length 0 = i := by
 have a : List.range l.length = List.range i ++ (i :: (List.range' (i + 1) (l.length - i - 1))) := by
  rw [List.range_eq_range', List.range_eq_range', show l.length = i + ((l.length - i - 1) + 1) by omega, ← List.range'_append_1, Nat.zero_add, List.range'_succ]
  congr 3
  omega
 have : dR l = (List.range i).filter (fun i => (l.getD i default).cls == 2) ++ (i :: (List.range' (i + 1) (l.length - i - 1)).filter (fun i => (l.getD i default).cls == 2)) := by
  unfold dR
  rw [a, List.filter_append, List.filter_cons, if_pos (by simpa [dE] using hc)]
 rw [this]
 exact ⟨by simp, by rw [List.getD_eq_getElem?_getD, List.getElem?_append_right (Nat.le_refl _)]; simp⟩
theorem YC {q a : Nat} (hq : q < (dR l).length) (b : a < (dR l).length) (h : (dR l).getD q 0 = (dR l).getD a 0) : q = a := by
 rcases Nat.lt_trichotomy q a with h1 | h1 | h1
 ·have := ala h1 b; omega
 ·exact h1
 ·have := ala h1 hq; omega
theorem rU {k a : Nat} (h : a ∈ lF l (k + 1)) : a ∈ fM l ((dR l).getD k 0) ∧ dE l a = 1 := by
 simp only [lF, List.mem_filter, Bool.and_eq_true] at h
 exact ⟨by simpa [fM] using h.2.2, by simpa [dE] using h.2.1⟩
variable (l) in
def kj (S : Nat → Bool) (k : Nat) : List Nat := (List.range l.length).filter fun a => S a && dE l a == 1 && !(lF l k).contains a
theorem mem_lst {S : Nat → Bool} {k a : Nat} : a ∈ kj l S k ↔ a < l.length ∧ S a = true ∧ dE l a = 1 ∧ a ∉ lF l k := by
 simp [kj, List.mem_filter, and_assoc]
theorem ao9 : kj l (fun _ => true) (dR l).length = xD l := by
 simp [kj, xD, dE]
end
end Go.Proofs.YtopigipibioclaaGreatDoor.Ev

namespace Go.Proofs.YtopigipibioclaaGreatDoor.Ev
open Go
set_option linter.all false
section
variable {P : Program} {μ μ' : Mu} {F : Nat → Prop} {w w' : World}
theorem HR.sub {A D : Heap} (hH : HR P μ F A w) (a : ∀ b e, D.get b = some e → A.get b = some e) (hn : D.next = A.next) : HR P μ F D w :=
 ⟨fun b L hb => hn ▸ hH.dom b L hb, hH.fb, fun b e hb => hH.ent b e (a b e hb), fun b b' e e' L L' h1 h2 => hH.inj b b' e e' L L' (a _ _ h1) (a _ _ h2), hH.gl⟩
theorem rc {I : Nat → Prop} {A D D' A' : Heap} (hH : HR P μ F A w) (l : ∀ b e, D.get b = some e → A.get b = some e) (n : D.next = A.next) (hr : HR P μ' F D' w')
  (st : Stp I P μ F D w μ' F D' w') (q : A'.next = D'.next) (h' : ∀ b e, A'.get b = some e → D'.get b = some e ∨ (D.get b = none ∧ A.get b = some e)) :
  HR P μ' F A' w' ∧ Stp I P μ F A w μ' F A' w' := by
 have r : ∀ b, D.rwAt b → A.rwAt b := fun b ⟨e, h1, h2⟩ => ⟨e, l b e h1, h2⟩
 -- what stands beside the part is not touched
 have s : ∀ b e L, D.get b = none → A.get b = some e → μ b = some L → w'.heap[L.blk]? = w.heap[L.blk]? := by
  intro b e L hD hA hL
  refine st.keep _ (hH.dom b L hL).2 fun b0 L0 v f he => ?_
  obtain ⟨e0, h1, _⟩ := v
  have := hH.inj b0 b e0 e L0 L (l _ _ h1) hA f hL he
  subst this
  rw [hD] at h1; cases h1
 have o : ∀ b1 e1 m b2 e2 i, D'.get b1 = some e1 → μ' b1 = some m → D.get b2 = none → A.get b2 = some e2 → μ b2 = some i → m.blk ≠ i.blk := by
  intro b1 e1 m b2 e2 i h1 k hD h2 h he
  rcases st.alv b1 e1 m h1 k with hge | ⟨b0, e0, L0, h0, f, hq⟩
  ·have := (hH.dom b2 i h).2; omega
  ·have := hH.inj b0 b2 e0 e2 L0 i (l _ _ h0) h2 f h (hq.trans he)
   subst this
   rw [hD] at h0; cases h0
 have j : ∀ b e L', A.get b = some e → μ' b = some L' → μ b = some L' := by
  intro b e L' hA hL'
  obtain ⟨L, hL, _⟩ := hH.ent b e hA
  have := st.mu b L hL
  rw [hL'] at this; cases this
  exact hL
 refine ⟨⟨fun b L hb => q ▸ hr.dom b L hb, hr.fb, fun b e hb => ?_, fun b1 b2 e1 e2 m i h1 h2 k h he => ?_, hr.gl⟩, ⟨st.mu, st.fr, st.size, fun c hc hn => st.keep c hc fun b L hb hL => hn b L (r b hb) hL, fun b L hb hL => ?_, ?_, fun b hb hi hn => st.new b (n ▸ hb) hi hn, st.rng, fun b e hb hl hi => ?_, fun b e L hb hL => ?_, st.tape, st.os, st.out⟩⟩
 ·rcases h' b e hb with h1 | ⟨hD, hA⟩
  ·exact hr.ent b e h1
  ·obtain ⟨L, hL, p⟩ := hH.ent b e hA
   have x : ∀ c, F c → w'.heap[c]? = w.heap[c]? := (st.keepF (hH.sub l n))
   exact ⟨L, st.mu b L hL, p.mono st.mu st.fr x (s b e L hD hA hL) (fun y => p.notF y)⟩
 ·rcases h' b1 e1 h1 with a | ⟨t, a⟩ <;> rcases h' b2 e2 h2 with d | ⟨u, d⟩
  ·exact hr.inj _ _ _ _ _ _ a d k h he
  ·exact absurd he (o _ _ _ _ _ _ a k u d (j _ _ _ d h))
  ·exact absurd he.symm (o _ _ _ _ _ _ d h t a (j _ _ _ a k))
  ·exact hH.inj _ _ _ _ _ _ a d (j _ _ _ a k) (j _ _ _ d h) he
 ·obtain ⟨e, h1, h2⟩ := hb
  rcases h' b e h1 with g | ⟨_, g⟩
  ·rcases st.rw b L ⟨e, g, h2⟩ hL with hge | ⟨b0, L0, h0, f, hq⟩
   ·exact .inl hge
   ·exact .inr ⟨b0, L0, r _ h0, f, hq⟩
  ·exact .inr ⟨b, L, ⟨e, g, h2⟩, j _ _ _ g hL, rfl⟩
 ·rw [← n, q]; exact st.next
 ·rcases h' b e hb with g | ⟨_, g⟩
  ·obtain ⟨e0, h0⟩ := st.old b e g (n ▸ hl) hi
   exact ⟨e0, l _ _ h0⟩
  ·exact ⟨e, g⟩
 ·rcases h' b e hb with g | ⟨_, g⟩
  ·rcases st.alv b e L g hL with hge | ⟨b0, e0, L0, h0, f, hq⟩
   ·exact .inl hge
   ·exact .inr ⟨b0, e0, L0, l _ _ h0, f, hq⟩
  ·exact .inr ⟨b, e, L, g, j _ _ _ g hL, rfl⟩
end
/-! ### Operations that look, and those that make -/
theorem an8 {D A : Heap} (a : ∀ b e, D.get b = some e → A.get b = some e) {x : AV} {es : List (AV × AV)} (h : kX D x = some es) : kX A x = some es := by
 cases x <;> simp only [kX] at h ⊢ <;> first | exact h | (cases h; done) | skip
 split at h
 ·rename_i c he
  cases h
  rw [a _ _ he]
 ·rename_i c he
  cases h
  rw [a _ _ he]
 ·cases h
theorem ajb {T : Tm} {D A D' : Heap} {op : AOp} {v : AV} {i j : Nat} (c : ∀ b e, D.get b = some e → A.get b = some e) (hl : op.looks = true) (h : bR (Src.ev T) D i op = some (v, D')) : bR (Src.ev T) A j op = some (v, A) := by
 cases op <;> simp only [AOp.looks] at hl <;> first | (cases hl; done) | skip
 case load k x =>
  simp only [bR, Option.map_eq_some_iff] at h ⊢
  obtain ⟨u, a, h⟩ := h
  cases h
  refine ⟨v, ?_, rfl⟩
  generalize x.ev T = y at a ⊢
  cases y <;> simp only [jJ] at a ⊢ <;> first | exact a | (cases a; done) | skip
  split at a
  ·rename_i cs ty rw he
   rw [c _ _ he]; exact a
  ·cases a
 case globIdx cs len size i =>
  simp only [bR] at h ⊢
  split at h
  ·split at h
   ·rename_i d
    cases h
    rw [if_pos d]
   ·cases h
  ·cases h
 case globLoad k cs =>
  simp only [bR, Option.map_eq_some_iff] at h ⊢
  obtain ⟨u, a, h⟩ := h
  cases h
  exact ⟨v, a, rfl⟩
 case lookup kd zero x i ok =>
  simp only [bR, Option.map_eq_some_iff] at h ⊢
  obtain ⟨u, a, h⟩ := h
  cases h
  refine ⟨v, ?_, rfl⟩
  unfold pf at a ⊢
  split at a
  ·cases a
  ·rename_i hk
   rw [if_neg hk]
   cases hm : kX D (x.ev T) with
   | none => rw [hm] at a; cases a
   | some es => rw [hm] at a; rw [an8 c hm]; exact a
 case lenMap x =>
  simp only [bR] at h ⊢
  generalize x.ev T = y at h ⊢
  cases y <;> simp only at h ⊢ <;> first | (cases h; done) | skip
  ·cases h; rfl
  ·split at h
   ·rename_i es he
    cases h
    rw [c _ _ he]
   ·rename_i es he
    cases h
    rw [c _ _ he]
   ·cases h
theorem aom {T : Tm} {H0 H1 A : Heap} {op : AOp} {v : AV} {id : Nat} (hl : op.makes = true) (h : bR (Src.ev T) H0 id op = some (v, H1)) :
  ∃ e, H1.get id = some e ∧ bR (Src.ev T) A id op = some (v, A.put id e) ∧ bJ (Src.ev T) op = none := by
 cases op <;> simp only [AOp.makes] at hl <;> first | (cases hl; done) | skip
 case alloc ty z => cases h; exact ⟨_, by rw [Heap.get_put, if_pos rfl], rfl, rfl⟩
 case mkmap => cases h; exact ⟨_, by rw [Heap.get_put, if_pos rfl], rfl, rfl⟩
 case box ty x =>
  simp only [bR] at h ⊢
  split at h
  ·rename_i hc
   cases h
   exact ⟨_, by rw [Heap.get_put, if_pos rfl], by rw [if_pos hc], rfl⟩
  ·cases h
 case buildSlice ty size zeros len parts =>
  simp only [bR] at h ⊢
  split at h
  ·cases h
  ·rename_i cs hc
   cases h
   exact ⟨_, by rw [Heap.get_put, if_pos rfl], rfl, rfl⟩
 case mksl ty size bytes zero l c =>
  simp only [bR] at h ⊢
  split at h
  ·rename_i a c' h1 h2
   split at h
   ·rename_i hc
    cases h
    exact ⟨_, by rw [Heap.get_put, if_pos rfl], by rw [if_pos hc], rfl⟩
   ·cases h
  ·cases h
theorem rA {a : dZ} {T : Tm} {H : Heap} {id : Nat} {op : AOp} {v : AV} (h : bJ (Src.ev T) op = some v) : gB a (Src.ev T) H id op = some (v, H) := by
 cases op <;> first | (simp only [gB, h]; done) | (simp [bJ] at h; done)
theorem al6 {a : dZ} {T : Tm} {H : Heap} {id : Nat} {op : AOp} {r : AV × Heap} (h : bJ (Src.ev T) op = none) (hh : bR (Src.ev T) H id op = some r) : gB a (Src.ev T) H id op = some r := by
 cases op <;> first | (simp only [gB, h]; exact hh) | (simp [bR] at hh; done)
theorem afq {base : Nat} {T0 : Tm} {s : DS} : ∀ (ds : List DOp) (i : Nat), Cg base T0 s i ds = true → ∀ (q : Nat) (d : DOp), ds[q]? = some d → xH base T0 s (i + q) d = true := by
 intro ds
 induction ds with
 | nil => intro i _ q d h; simp at h
 | cons d ds ih =>
  intro i h q a hq
  simp only [Cg, Bool.and_eq_true] at h
  cases q with
  | zero => simp at hq; subst hq; exact h.1
  | succ q => rw [show i + (q + 1) = i + 1 + q by omega]; exact ih (i + 1) h.2 q a (by simpa using hq)
end Go.Proofs.YtopigipibioclaaGreatDoor.Ev

namespace Go.Proofs.YtopigipibioclaaGreatDoor.Ev
open Go
set_option linter.all false
structure DrawOK (P : Program) (ops : Array Oper) (l : List DI) (ds : List DOp) : Prop where
 len : l.length ≤ ops.size
 dlen : ds.length = l.length
 op : ∀ i, i < l.length → ∃ o, ops[i]? = some o ∧ o.dst = dr l i ∧ Xv ops o.guard = some (l.getD i default).guard ∧ (l.getD i default).op = (iA P o).getD .bad
 dso : ∀ i, i < l.length → (ds.getD i default).dst = dr l i ∧ (ds.getD i default).op = (l.getD i default).op ∧ (ds.getD i default).guard = (l.getD i default).guard ∧ (ds.getD i default).cls = dE l i
 cl : ∀ i, i < l.length → dE l i = 0 ∨ dE l i = 1 ∨ dE l i = 2
 back : ∀ i o, i < l.length → ops[i]? = some o → ∀ j ∈ kG o, j < i
 pre : ∀ i o, i < l.length → ops[i]? = some o → ∀ p ∈ fM l i, ∃ j ∈ kG o, p = j ∨ p ∈ fM l j
 same : ∀ i j, i < j → j < l.length → dr l i ≠ none → dr l i = dr l j → i ∈ fM l j
 acts : ∀ i j, i < j → j < l.length → dE l i = 2 → dE l j = 2 → i ∈ fM l j
 useS : ∀ i, i < l.length → ∀ t j, (t, some j) ∈ (ds.getD i default).uses → j ∈ fM l i ∧ dr l j = some t ∧ j < i ∧ ∀ j', j' < l.length → dr l j' = some t → j' ≤ j ∨ i ∈ fM l j' ∨ j' = i
 useN : ∀ i, i < l.length → ∀ t, (t, none) ∈ (ds.getD i default).uses → ∀ j', j' < l.length → dr l j' = some t → j' = i ∨ i ∈ fM l j'
 look : ∀ i, i < l.length → ∀ k adds, (k, adds) ∈ (ds.getD i default).looks → ∀ a ∈ adds, a ∈ fM l i ∧ dE l a = 1 ∧ a ∉ lF l k ∧ a < i
 seen : ∀ i, i < l.length → dE l i = 0 → ∀ k, k ≤ (dR l).length → (∃ q, q < (dR l).length ∧ (dR l).getD q 0 ∈ fM l i ∧ k ≤ q) ∨ (∃ q, q < (dR l).length ∧ i ∈ fM l ((dR l).getD q 0) ∧ q < k) ∨
  ∃ adds, (k, adds) ∈ (ds.getD i default).looks
 act : ∀ i, i < l.length → dE l i = 2 → ∃ k adds, (ds.getD i default).looks = [(k, adds)] ∧ k < (dR l).length ∧ (dR l).getD k 0 = i ∧ ∀ a, a < l.length → (a ∈ lF l (k + 1) ↔ a ∈ lF l k ∨ a ∈ adds)
section
variable {P : Program} {ops : Array Oper} {l : List DI} {ds : List DOp} {T0 : Tm} {s : DS} {base : Nat} {F : Nat → Prop} {μ0 : Mu} {H0 : Heap} {w0 : World} {df : List Deferred}
variable (l s base) in
def Hh (S : Nat → Bool) (k : Nat) : Heap := dU base s.Es (s.Cs.getD k default) (kj l S k)
variable (P l T0 s base F μ0 H0 w0 df) in
structure Inv (S : Nat → Bool) (k : Nat) (μ : Mu) (a : Act) (w : World) : Prop where
 cl : ∀ j, j < l.length → S j = true → ∀ p ∈ fM l j, S p = true
 kle : k ≤ (dR l).length
 act : ∀ q, q < (dR l).length → (S ((dR l).getD q 0) = true ↔ q < k)
 tm : LR μ F w (TS l T0 s S) a.tmps.toList
 hr : HR P μ F (Hh l s base S k) w
 noC : ∀ j, j < l.length → dE l j = 1 → j ∉ lF l k → (s.Cs.getD k default).get (base + j) = none
 nx : base + l.length ≤ (s.Cs.getD k default).next
 un : ∀ j, j < l.length → S j = false → μ (base + j) = none
 st : Stp (fun b => base ≤ b) P μ0 F H0 w0 μ F (Hh l s base S k) w
 df : a.defers = df
theorem Inv.next {S : Nat → Bool} {k d i : Nat} {μ μ' : Mu} {a : Act} {w w' : World} {D D' : Heap} {o : Oper} {u : Value} (J : Inv P l T0 s base F μ0 H0 w0 df S k μ a w) (G : DrawOK P ops l ds)
  (hi : i < l.length) (h : S i = false) (z : ∀ p ∈ fM l i, S p = true) (y : o.dst = dr l i) (hv : VR μ' F w' (s.Vs.getD i .undef) u)
  (A : ∀ b e, D.get b = some e → (Hh l s base S k).get b = some e) (x : D.next = (Hh l s base S k).next) (hr : HR P μ' F D' w') (st : Stp (fun b => b = base + i) P μ F D w μ' F D' w')
  (r : (Hh l s base (add S i) d).next = D'.next) (h' : ∀ b e, (Hh l s base (add S i) d).get b = some e → D'.get b = some e ∨ (D.get b = none ∧ (Hh l s base S k).get b = some e))
  (hk : d ≤ (dR l).length) (n : ∀ q, q < (dR l).length → (add S i ((dR l).getD q 0) = true ↔ q < d))
  (v : ∀ j, j < l.length → dE l j = 1 → j ∉ lF l d → (s.Cs.getD d default).get (base + j) = none) : Inv P l T0 s base F μ0 H0 w0 df (add S i) d μ' (a.put o.dst u) w' := by
 obtain ⟨m, f⟩ := rc J.hr A x hr st r h'
 have g : ∀ S k, (Hh l s base S k).next = (s.Cs.getD k default).next := fun S k => qO _ _ _ _
 refine ⟨fun j hj c p hp => ?_, hk, n, ?_, m, v, ?_, fun j hj c => ?_, J.st.trans (f.mono fun b hb => ?_), ?_⟩
 ·simp only [add] at c ⊢
  by_cases e : p = i
  ·simp [e]
  ·simp only [e, if_false]
   by_cases e' : j = i
   ·subst e'; exact z p hp
   ·simp only [e', if_false] at c; exact J.cl j hj c p hp
 ·rw [Cl h hi, y]
  ·have := B9 (a := a) (f.lr J.hr J.tm) (dr l i) hv
   exact this
  ·intro j h1 h2 h3 h4 h5
   have := J.cl j h2 h3 i (G.same i j h1 h2 h4 h5)
   rw [h] at this; cases this
 ·have := f.next
  rw [g, g] at this
  exact Nat.le_trans J.nx this
 ·simp only [add] at c
  split at c
  ·cases c
  ·rename_i t
   have hn := J.nx
   refine f.new (base + j) (by rw [g]; omega) (fun e => t (by have e : base + j = base + i := e; omega)) (J.un j hj c)
 ·have : b = base + i := hb
  omega
 ·rw [← J.df]; cases o.dst <;> rfl
theorem qM (S : Nat → Bool) (k b : Nat) : (Hh l s base S k).get b = match (if base ≤ b ∧ (b - base) ∈ kj l S k then s.Es.getD (b - base) none else none) with | some e => some e | none => (s.Cs.getD k default).get b := CL _ _ _ _ _
theorem uo {S : Nat → Bool} {k i : Nat} (hi : i < l.length) (hc : dE l i ≠ 1 ∨ s.Es.getD i none = none) (b : Nat) : (Hh l s base (add S i) k).get b = (Hh l s base S k).get b := by
 rw [qM, qM]
 by_cases hb : base ≤ b
 ·by_cases a : b - base = i
  ·rw [a]
   rcases hc with hc | hc
   ·rw [if_neg (fun h => hc (mem_lst.1 h.2).2.2.1), if_neg (fun h => hc (mem_lst.1 h.2).2.2.1)]
   ·rw [hc]; simp
  ·have : (b - base ∈ kj l (add S i) k) ↔ (b - base ∈ kj l S k) := by
    simp only [mem_lst, add, a, if_false]
   by_cases hm : b - base ∈ kj l S k
   ·rw [if_pos ⟨hb, this.2 hm⟩, if_pos ⟨hb, hm⟩]
   ·rw [if_neg (fun h => hm (this.1 h.2)), if_neg (fun h => hm h.2)]
 ·rw [if_neg (fun h => hb h.1), if_neg (fun h => hb h.1)]
theorem ai8 {S : Nat → Bool} {k i : Nat} (h : ∀ q, q < (dR l).length → (S ((dR l).getD q 0) = true ↔ q < k)) (hc : dE l i ≠ 2) :
  ∀ q, q < (dR l).length → (add S i ((dR l).getD q 0) = true ↔ q < k) := by
 intro q hq
 have : (dR l).getD q 0 ≠ i := fun e => hc (e ▸ (uB hq).2)
 simp only [add, this, if_false]
 exact h q hq
theorem t7 {S : Nat → Bool} {k i a : Nat} (G : DrawOK P ops l ds) (hi : i < l.length) (g : S i = false) (j : ∀ p ∈ fM l i, S p = true) (m : k ≤ (dR l).length)
  (h : ∀ q, q < (dR l).length → (S ((dR l).getD q 0) = true ↔ q < k)) (hc : dE l i = 2) (c : a < (dR l).length) (b : (dR l).getD a 0 = i) :
  a = k ∧ ∀ q, q < (dR l).length → (add S i ((dR l).getD q 0) = true ↔ q < k + 1) := by
 have e : a = k := by
  have h1 : ¬ a < k := fun d => by have := (h a c).2 d; rw [b, g] at this; cases this
  have h2 : ¬ k < a := fun d => by
   have hk : k < (dR l).length := by omega
   have hm := uB hk
   have := j _ (G.acts _ i (b ▸ ala d c) hi hm.2 hc)
   have := (h k hk).1 this
   omega
  omega
 refine ⟨e, fun q hq => ?_⟩
 subst e
 by_cases f : q = a
 ·subst f; rw [b]; simp [add]
 ·have : (dR l).getD q 0 ≠ i := fun h => f (YC hq c (h.trans b.symm))
  simp only [add, this, if_false]
  rw [h q hq]; omega
def CC (base : Nat) (T0 : Tm) (s : DS) (i k : Nat) (d : DOp) : Prop := d.cls = 0 → iv (cF T0 s.Vs d.uses) d.guard = some true → bJ (Src.ev (cF T0 s.Vs d.uses)) d.op = none → ∀ adds, (k, adds) ∈ d.looks →
 ∃ v D', bR (Src.ev (cF T0 s.Vs d.uses)) (dU base s.Es (s.Cs.getD k default) adds) 0 d.op = some (v, D') ∧ AV.beq v (s.Vs.getD i .undef) = true
theorem ajh {base : Nat} {T0 : Tm} {s : DS} {i : Nat} {d : DOp} (h : xH base T0 s i d = true) (k : Nat) : CC base T0 s i k d := by
 intro h0 a hp adds hm
 unfold xH at h
 rw [h0, a, hp] at h
 simp only [List.all_eq_true] at h
 have hx := h _ hm
 split at hx
 ·rename_i v D' hv; exact ⟨v, D', hv, hx⟩
 ·cases hx
theorem an4 {S : Nat → Bool} {k i : Nat} {μ : Mu} {a : Act} {w : World} (J : Inv P l T0 s base F μ0 H0 w0 df S k μ a w) (G : DrawOK P ops l ds) (hi : i < l.length) (d : S i = false) (q : ∀ p ∈ fM l i, S p = true) :
  LR μ F w (cF T0 s.Vs (ds.getD i default).uses) a.tmps.toList := by
 obtain ⟨h1, h2⟩ := Yw T0 s.Vs (ds.getD i default).uses
 refine ⟨by rw [h1, ← J.tm.1, XW], fun t c v hc hv => ?_⟩
 rcases h2 t c hc with rfl | ⟨⟨t', u⟩, g, rfl, rfl⟩
 ·exact .undef v
 ·have ht : t' < T0.length := by rw [← h1]; exact (List.getElem?_eq_some_iff.1 hc).1
  have o : (TS l T0 s S)[t']? = some (tv l T0 s S l.length t') := by
   unfold TS; rw [List.getElem?_map, List.getElem?_range ht]; rfl
  have r : ie T0 s.Vs (t', u) = tv l T0 s S l.length t' := by
   have f : ∀ j', j' < l.length → i ∈ fM l j' → S j' = false := fun j' h1 h2 => by
    cases hb : S j' with
    | false => rfl
    | true => have := J.cl j' h1 hb i h2; rw [d] at this; cases this
   cases u with
   | none =>
    refine (XH _ fun j' b hd => ?_).symm
    rcases G.useN i hi t' g j' b hd with e | e
    ·rw [e]; exact d
    ·exact f j' b e
   | some j =>
    obtain ⟨h, m, x, n⟩ := G.useS i hi t' j g
    refine (apa (q j h) m _ (by omega) fun j' y b hd => ?_).symm
    rcases n j' b hd with e | e | e
    ·omega
    ·exact f j' b e
    ·rw [e]; exact d
  rw [r]
  exact J.tm.2 t' _ v o hv
theorem YQ {D : dZ} (R : dQ P D) {fence : Fence} {rd : Bool} (hF : FenceOK fence rd) {n : Nat} {Q : Exit → Act → World → Prop} {S : Nat → Bool} {k i : Nat} {μ : Mu} {a : Act} {w : World}
  (J : Inv P l T0 s base F μ0 H0 w0 df S k μ a w) (G : DrawOK P ops l ds) (hop : qE D base T0 s i (ds.getD i default)) (aD : CC base T0 s i k (ds.getD i default))
  (hi : i < l.length) (t : S i = false) (C : ∀ p ∈ fM l i, S p = true) {K : Act → World → Prop}
  (O : ∀ a' w' μ' g, Inv P l T0 s base F μ0 H0 w0 df (add S i) g μ' a' w' → K a' w') : wpOpIn fence n P ops Q i K a w := by
 obtain ⟨o, hoi, Z, al, aB⟩ := G.op i hi
 obtain ⟨aG, ao, ae, aJ⟩ := G.dso i hi
 have hT := an4 J G hi t C
 have V : μ (base + i) = none := J.un i hi t
 have d : ∀ S k, (Hh l s base S k).next = (s.Cs.getD k default).next := fun S k => qO _ _ _ _
 have X : base + i < (Hh l s base S k).next := by have := J.nx; rw [d]; omega
 have L : ∀ g adds, (g, adds) ∈ (ds.getD i default).looks → g = k → ∀ b e, (dU base s.Es (s.Cs.getD g default) adds).get b = some e → (Hh l s base S k).get b = some e := by
  intro g adds hm aw b e hb
  subst aw
  have ha := G.look i hi g adds hm
  rw [CL] at hb
  rw [qM]
  by_cases hc : base ≤ b ∧ (b - base) ∈ adds
  ·rw [if_pos hc] at hb
   obtain ⟨q1, q2, q3, q4⟩ := ha _ hc.2
   have hq : base ≤ b ∧ b - base ∈ kj l S g := ⟨hc.1, mem_lst.2 ⟨by omega, C _ q1, q2, q3⟩⟩
   rw [if_pos hq]; exact hb
  ·rw [if_neg hc] at hb
   simp only at hb
   by_cases aj : base ≤ b ∧ b - base ∈ kj l S g
   ·have Y := mem_lst.1 aj.2
    have := J.noC (b - base) Y.1 Y.2.2.1 Y.2.2.2
    rw [show base + (b - base) = b by omega, hb] at this
    cases this
   ·rw [if_neg aj]; exact hb
 have U : ∀ {T : Tm} {H : Heap} {id : Nat} {r : AV × Heap}, gB D (Src.ev T) H id (ds.getD i default).op = some r → iA P o = some (ds.getD i default).op := by
  intro T H id r h
  rw [ao, aB] at h ⊢
  cases av : iA P o with
  | some x => rfl
  | none => rw [av] at h; simp [gB, bJ, bR] at h
 unfold Go.wpOpIn
 simp only [hoi]
 -- a value, no change of the heap, and no act
 have plain : dE l i ≠ 2 → (dE l i ≠ 1 ∨ s.Es.getD i none = none) → ∀ {u w' μ'}, Done (fun b => b = base + i) P μ F (Hh l s base S k) w (s.Vs.getD i .undef) (Hh l s base S k) u w' μ' → K (a.put o.dst u) w' := by
  intro h2 h1 u w' μ' hd
  refine O _ _ μ' k (J.next G hi t C Z hd.val (fun _ _ h => h) rfl hd.heap hd.stp (by rw [d, d]) (fun b e hb => .inl ?_) J.kle (ai8 J.act h2) J.noC)
  rw [← uo hi h1]; exact hb
 -- an act
 have acts : dE l i = 2 → s.Es.getD i none = none → ∀ c adds, (ds.getD i default).looks = [(c, adds)] → c = k → (∀ q, q < (dR l).length → (add S i ((dR l).getD q 0) = true ↔ q < k + 1)) → c < (dR l).length →
   (∀ a, a < l.length → (a ∈ lF l (c + 1) ↔ a ∈ lF l c ∨ a ∈ adds)) →
   ∀ {u w' μ'}, Done (fun b => b = base + i) P μ F (dU base s.Es (s.Cs.getD c default) adds) w (s.Vs.getD i .undef) (s.Cs.getD (c + 1) default) u w' μ' → K (a.put o.dst u) w' := by
  intro h2 m c adds hl ax z hlen B u w' μ' hd
  subst ax
  have az : (c, adds) ∈ (ds.getD i default).looks := by rw [hl]; exact List.mem_cons_self ..
  have hD : (dU base s.Es (s.Cs.getD c default) adds).next = (Hh l s base S c).next := by rw [qO, d]
  have ah : ∀ j, j < l.length → dE l j = 1 → j ∉ lF l (c + 1) → (dU base s.Es (s.Cs.getD c default) adds).get (base + j) = none := by
   intro j hj W aH
   rw [CL, if_neg]
   ·exact J.noC j hj W (fun h => aH ((B j hj).2 (.inl h)))
   ·intro h; rw [Nat.add_sub_cancel_left] at h; exact aH ((B j hj).2 (.inr h.2))
  refine O _ _ μ' (c + 1) (J.next G hi t C Z hd.val (L c adds az rfl) hD hd.heap hd.stp (d _ _) (fun b e hb => ?_) (by omega) z (fun j hj W aH => ?_))
  ·rw [qM] at hb
   by_cases hc : base ≤ b ∧ b - base ∈ kj l (add S i) (c + 1)
   ·rw [if_pos hc] at hb
    obtain ⟨m1, m2, m3, m4⟩ := mem_lst.1 hc.2
    cases N : s.Es.getD (b - base) none with
    | none => rw [N] at hb; exact .inl hb
    | some e' =>
     rw [N] at hb
     cases hb
     have E : b - base ≠ i := fun h => by rw [h] at m3; omega
     refine .inr ⟨?_, ?_⟩
     ·have := ah _ m1 m3 m4
      rwa [show base + (b - base) = b by omega] at this
     ·rw [qM, if_pos ⟨hc.1, mem_lst.2 ⟨m1, by simpa [add, E] using m2, m3, fun h => m4 ((B _ m1).2 (.inl h))⟩⟩, N]
   ·rw [if_neg hc] at hb
    exact .inl hb
  ·cases hg : (s.Cs.getD (c + 1) default).get (base + j) with
   | none => rfl
   | some e =>
    have E : j ≠ i := fun h => by subst h; omega
    obtain ⟨e0, h0⟩ := hd.stp.old (base + j) e hg (by rw [qO]; have := J.nx; omega) (fun h => E (by have h : base + j = base + i := h; omega))
    rw [ah j hj W aH] at h0; cases h0
 have ad : dE l i = 2 → ∃ c adds, (ds.getD i default).looks = [(c, adds)] ∧ c = k ∧ (∀ q, q < (dR l).length → (add S i ((dR l).getD q 0) = true ↔ q < k + 1)) ∧ c < (dR l).length ∧
   (∀ a, a < l.length → (a ∈ lF l (c + 1) ↔ a ∈ lF l c ∨ a ∈ adds)) := by
  intro h2
  obtain ⟨c, adds, hl, h3, h4, h5⟩ := G.act i hi h2
  obtain ⟨e, z⟩ := t7 G hi t C J.kle J.act h2 h3 h4
  exact ⟨c, adds, hl, e, z, h3, h5⟩
 rcases hop with ⟨M, hV, m, hC⟩ | ⟨M, aC⟩
 ·-- not wanted
  have ab := Ch (o := o) hT (ae ▸ al) M
  rw [if_neg (by rw [ab]; decide)]
  refine ⟨fun f _ => hF.fn f, ?_⟩
  have hu : VR μ F w (s.Vs.getD i .undef) undef := by rw [hV]; exact akw
  by_cases h2 : dE l i = 2
  ·obtain ⟨c, adds, hl, e, z, hlen, B⟩ := ad h2
   refine acts h2 m c adds hl e z hlen B (μ' := μ) (u := undef) ?_
   rw [hC (aJ.trans h2) c adds hl]
   exact ⟨hu, J.hr.sub (L c adds (by rw [hl]; exact List.mem_cons_self ..) e) (by rw [qO, d, e]), Stp.refl _ _ _ _ _ _⟩
  ·exact plain h2 (.inr m) (μ' := μ) ⟨hu, J.hr, Stp.refl _ _ _ _ _ _⟩
 ·have ab := Ch (o := o) hT (ae ▸ al) M
  rw [if_pos ab]
  rcases aC with ⟨h0, m, aF⟩ | ⟨h1, hm, H', hh, m⟩ | ⟨h2, m, z⟩
  ·have ar : dE l i = 0 := aJ ▸ h0
   have y : gB D (Src.ev (cF T0 s.Vs (ds.getD i default).uses)) (Hh l s base S k) (base + i) (ds.getD i default).op = some (s.Vs.getD i .undef, Hh l s base S k) := by
    rcases aF with hv | ⟨hp, ay⟩
    ·exact rA hv
    ·-- the look that fits
     obtain ⟨adds, hm⟩ : ∃ adds, (k, adds) ∈ (ds.getD i default).looks := by
      rcases G.seen i hi ar k J.kle with ⟨q, hq, aa, am⟩ | ⟨q, hq, aa, am⟩ | h
      ·have := (J.act q hq).1 (C _ aa); omega
      ·have hx := J.cl _ (uB hq).1 ((J.act q hq).2 am) i aa
       rw [t] at hx; cases hx
      ·exact h
     obtain ⟨v, D', hv, hx⟩ := aD h0 M hp adds hm
     have := AV.beq_eq _ _ hx
     subst this
     exact al6 hp (ajb (L k adds hm rfl) ay hv)
   exact XX R (I := fun b => b = base + i) (U y) y hT J.hr V X rfl hF fun u w' μ' hd => plain (by omega) (.inl (by omega)) hd
  ·have au : dE l i = 1 := aJ ▸ h1
   obtain ⟨e, he, aq, hp⟩ := aom (A := Hh l s base S k) hm hh
   have y : gB D (Src.ev (cF T0 s.Vs (ds.getD i default).uses)) (Hh l s base S k) (base + i) (ds.getD i default).op = some (s.Vs.getD i .undef, (Hh l s base S k).put (base + i) e) := al6 hp aq
   refine XX R (I := fun b => b = base + i) (U y) y hT J.hr V X rfl hF fun u w' μ' hd => ?_
   have aA : i ∉ lF l k := by
    cases k with
    | zero => simp [lF]
    | succ k =>
     intro h
     have h1 := (rU h).1
     have hq : k < (dR l).length := by have := J.kle; omega
     have hx := J.cl _ (uB hq).1 ((J.act k hq).2 (by omega)) i h1
     rw [t] at hx; cases hx
   refine O _ _ μ' k (J.next G hi t C Z hd.val (fun _ _ h => h) rfl hd.heap hd.stp (by rw [Heap.next_put, d, d]) (fun b e' hb => .inl ?_) J.kle (ai8 J.act (by omega)) J.noC)
   rw [Heap.get_put]
   rw [qM] at hb
   by_cases ai : b = base + i
   ·subst ai
    rw [Nat.add_sub_cancel_left, if_pos ⟨Nat.le_add_right _ _, mem_lst.2 ⟨hi, by simp [add], au, aA⟩⟩, m, he] at hb
    rw [if_pos rfl]; exact hb
   ·rw [if_neg ai, qM]
    by_cases aI : base ≤ b
    ·have E : b - base ≠ i := by omega
     have : (b - base ∈ kj l (add S i) k) ↔ (b - base ∈ kj l S k) := by
      simp only [mem_lst, add, E, if_false]
     by_cases hm : b - base ∈ kj l S k
     ·rw [if_pos ⟨aI, this.2 hm⟩] at hb; rw [if_pos ⟨aI, hm⟩]; exact hb
     ·rw [if_neg (fun h => hm (this.1 h.2))] at hb; rw [if_neg (fun h => hm h.2)]; exact hb
    ·rw [if_neg (fun h => aI h.1)] at hb; rw [if_neg (fun h => aI h.1)]; exact hb
  ·have ak : dE l i = 2 := aJ ▸ h2
   obtain ⟨c, adds, hl, e, ap, hlen, B⟩ := ad ak
   obtain ⟨HA, y, ag, af⟩ := z c adds hl
   have aE := L c adds (by rw [hl]; exact List.mem_cons_self ..) e
   have hn : (dU base s.Es (s.Cs.getD c default) adds).next = (Hh l s base S k).next := by rw [qO, d, e]
   refine XX R (I := fun b => b = base + i) (U y) y hT (J.hr.sub aE hn) V (by rw [hn]; exact X) rfl hF fun u w' μ' hd => ?_
   exact acts ak m c adds hl e ap hlen B ⟨hd.val, hd.heap.congr ag af, hd.stp.congr ag fun x e' he => ⟨e', by rw [af]; exact he, rfl⟩⟩
end
end Go.Proofs.YtopigipibioclaaGreatDoor.Ev

namespace Go.Proofs.YtopigipibioclaaGreatDoor.Ev
open Go
set_option linter.all false
theorem CE {α β : Type} {f : α → Option β} : ∀ (xs : List α) (a : List β), xs.mapM f = some a → a.length = xs.length ∧ ∀ (i : Nat) (x : α), xs[i]? = some x → ∃ y, a[i]? = some y ∧ f x = some y
 | [], a, h => by simp at h; subst h; exact ⟨rfl, fun i x h => by simp at h⟩
 | x :: xs, a, h => by
  simp only [List.mapM_cons, Option.pure_def, Option.bind_eq_bind, bN] at h
  obtain ⟨y, hy, d, b, h⟩ := h
  cases h
  obtain ⟨h1, h2⟩ := CE xs d b
  refine ⟨by simp [h1], fun i c hx => ?_⟩
  cases i with
  | zero => simp at hx; subst hx; exact ⟨y, rfl, hy⟩
  | succ i => simpa using h2 i c (by simpa using hx)
theorem xG {α : Type} {l : List α} {i : Nat} {x d : α} (h : l[i]? = some x) : l.getD i d = x := by rw [List.getD_eq_getElem?_getD, h]; rfl
def To (l : List DI) (i : Nat) : DOp :=
 let d := l.getD i default
 { dst := d.dst, op := d.op, guard := d.guard, uses := ((d.op.slots ++ (match d.guard with | some (t, _) => [t] | none => [])).eraseDups).map fun t => (t, Yv l i d.preds t), cls := d.cls, looks := ak6 l i : DOp }
theorem ahf {P : Program} {ops : Array Oper} {os : List Oper} {C : List (List Nat)} {l : List DI} {ds : List DOp} (r : ∀ (i : Nat) (o : Oper), os[i]? = some o → ops[i]? = some o)
  (hl : os.zipIdx.mapM (fun (o, i) => Cv P ops C o i) = some l) (w : (List.range l.length).map (To l) = ds) (hok : Yb os l ds = true) : DrawOK P ops l ds ∧ l.length = os.length := by
 obtain ⟨h1, h2⟩ := CE _ _ hl
 have hlen : l.length = os.length := by simpa using h1
 simp only [Yb, Bool.and_eq_true] at hok
 obtain ⟨⟨⟨u, v⟩, ok3⟩, ok4⟩ := hok
 have D : ds.length = l.length := by rw [← w]; simp
 have B : ∀ i, i < l.length → ∃ o, os[i]? = some o := fun i hi => ⟨os[i]'(hlen ▸ hi), List.getElem?_eq_getElem _⟩
 have hop : ∀ i, i < l.length → ∃ o, ops[i]? = some o ∧ Cv P ops C o i = some (l.getD i default) := by
  intro i hi
  have hx : os.zipIdx[i]? = some (os[i]'(hlen ▸ hi), i) := by simp [hlen ▸ hi]
  obtain ⟨y, hy, hf⟩ := h2 i _ hx
  exact ⟨_, r i _ (List.getElem?_eq_getElem (hlen ▸ hi)), by rw [xG hy]; exact hf⟩
 have A : ∀ i o, i < l.length → ops[i]? = some o → os.getD i default = o := by
  intro i o hi b
  obtain ⟨E, z⟩ := B i hi
  have := r i E z
  rw [b] at this; cases this
  exact xG z
 have hsz : l.length ≤ ops.size := by
  rcases Nat.eq_zero_or_pos l.length with h | h
  ·omega
  ·obtain ⟨o, b⟩ := B (l.length - 1) (by omega)
   have := (Array.getElem?_eq_some_iff.1 (r _ _ b)).1
   omega
 simp only [anx, List.all_eq_true, List.mem_range, Bool.and_eq_true, List.any_eq_true, Bool.or_eq_true, beq_iff_eq, decide_eq_true_eq, List.contains_iff_mem] at u
 simp only [aod, List.all_eq_true, List.mem_range, Bool.and_eq_true, Bool.or_eq_true, Bool.not_eq_true', bne_iff_ne, ne_eq, List.contains_iff_mem, Option.isNone_iff_eq_none] at v
 simp only [rB, List.all_eq_true, List.mem_range] at ok3
 simp only [aoq, List.all_eq_true, List.mem_range, Bool.and_eq_true] at ok4
 refine ⟨⟨hsz, D, fun i hi => ?_, fun i hi => ?_, fun i hi => ?_, fun i o hi b j hj => ?_, fun i o hi b p hp => ?_, fun i j m hj h1 h2 => ?_, fun i j m hj h1 h2 => ?_, fun i hi t j s => ?_, fun i hi t s j' n hd => ?_, fun i hi k adds hm a ha => ?_, fun i hi hc k hk => ?_, fun i hi hc => ?_⟩, hlen⟩
 ·obtain ⟨o, b, hd⟩ := hop i hi
  simp only [Cv, Option.map_eq_some_iff] at hd
  obtain ⟨g, hg, hd⟩ := hd
  exact ⟨o, b, by unfold dr; rw [← hd], by rw [← hd]; exact hg, by rw [← hd]⟩
 ·obtain ⟨x, hx, he⟩ : ∃ x, ds[i]? = some x ∧ x.dst = dr l i ∧ x.op = (l.getD i default).op ∧ x.guard = (l.getD i default).guard ∧ x.cls = dE l i := by
   rw [← w, List.getElem?_map, List.getElem?_range hi]
   exact ⟨_, rfl, rfl, rfl, rfl, rfl⟩
  rw [xG hx]
  exact he
 ·obtain ⟨o, b, hd⟩ := hop i hi
  simp only [Cv, Option.map_eq_some_iff] at hd
  obtain ⟨g, hg, hd⟩ := hd
  unfold dE
  rw [← hd]
  simp only [yf]
  split
  ·exact .inl rfl
  ·split
   ·exact .inr (.inl rfl)
   ·exact .inr (.inr rfl)
 ·have he := A i o hi b
  exact (u i hi).1 j (by rw [he]; exact hj)
 ·have he := A i o hi b
  obtain ⟨j, hj, hh⟩ := (u i hi).2 p hp
  rw [he] at hj
  exact ⟨j, hj, hh⟩
 ·rcases (v j hj i m).1 with (h | h) | h
  ·exact absurd h h1
  ·exact absurd h2 h
  ·exact h
 ·rcases (v j hj i m).2 with h | h
  ·rw [show (l.getD i default).cls = 2 from h1, show (l.getD j default).cls = 2 from h2] at h; simp at h
  ·exact h
 ·have := ok3 i hi (t, some j) s
  simp only [rC, Bool.and_eq_true, List.all_eq_true, List.mem_range, Bool.or_eq_true, beq_iff_eq, decide_eq_true_eq, List.contains_iff_mem, bne_iff_ne, ne_eq] at this
  obtain ⟨⟨⟨c, d⟩, e⟩, f⟩ := this
  refine ⟨c, d, e, fun j' n hd => ?_⟩
  rcases f j' n with ((h | h) | h) | h
  ·exact absurd hd h
  ·exact .inl h
  ·exact .inr (.inl h)
  ·exact .inr (.inr h)
 ·have := ok3 i hi (t, none) s
  simp only [rC, List.all_eq_true, List.mem_range, Bool.or_eq_true, beq_iff_eq, List.contains_iff_mem, bne_iff_ne, ne_eq] at this
  rcases this j' n with (h | h) | h
  ·exact absurd hd h
  ·exact .inl h
  ·exact .inr h
 ·have := (ok4 i hi).1 (k, adds) hm
  simp only [rE, List.all_eq_true, Bool.and_eq_true, beq_iff_eq, decide_eq_true_eq, List.contains_iff_mem, Bool.not_eq_true', ] at this
  obtain ⟨⟨⟨c, d⟩, e⟩, f⟩ := this a ha
  exact ⟨c, d, by simpa using e, f⟩
 ·have := (ok4 i hi).2
  rw [if_pos (show (l.getD i default).cls = 0 from hc)] at this
  simp only [rD, List.all_eq_true, List.mem_range, Bool.or_eq_true, List.any_eq_true, Bool.and_eq_true, beq_iff_eq, decide_eq_true_eq, List.contains_iff_mem] at this
  rcases this k (by omega) with ⟨q, hq, h | h⟩ | ⟨p, hp, rfl⟩
  ·exact .inl ⟨q, hq, h.1, h.2⟩
  ·exact .inr (.inl ⟨q, hq, h.1, h.2⟩)
  ·exact .inr (.inr ⟨p.2, hp⟩)
 ·have := (ok4 i hi).2
  rw [if_neg (show ¬ (l.getD i default).cls = 0 by have : (l.getD i default).cls = 2 := hc; omega), if_neg (show ¬ (l.getD i default).cls = 1 by have : (l.getD i default).cls = 2 := hc; omega)] at this
  unfold xY at this
  split at this
  ·rename_i p hp
   simp only [Bool.and_eq_true, List.all_eq_true, List.mem_range, beq_iff_eq, decide_eq_true_eq] at this
   obtain ⟨⟨c, d⟩, e⟩ := this
   refine ⟨p.1, p.2, hp, c, d, fun a ha => ?_⟩
   have := e a ha
   have h1 : (a ∈ lF l (p.1 + 1)) ↔ (lF l (p.1 + 1)).contains a = true := by simp
   rw [h1, this]
   simp
  ·cases this
theorem afo {P : Program} {ops : Array Oper} {ds : List DOp} {late : List Nat} (h : px P ops = some (ds, late)) : ∃ l, DrawOK P ops l ds ∧ l.length = ops.size ∧ late = xD l := by
 simp only [px] at h
 split at h
 ·cases h
 rename_i l hl
 split at h
 rotate_left
 ·cases h
 rename_i hok
 simp only [Option.some.injEq, Prod.mk.injEq] at h
 obtain ⟨a, hlate⟩ := h
 rw [a] at hok
 obtain ⟨G, hlen⟩ := ahf (ops := ops) (os := ops.toList) (fun i o h => by simpa using h) hl a hok
 exact ⟨l, G, by simpa using hlen, hlate.symm⟩
theorem XT {l : List DI} {ds : List DOp} (hlen : ds.length = l.length) (hc : ∀ i, i < l.length → (ds.getD i default).cls = dE l i) :
  ∀ q, q ≤ l.length → ((ds.take q).filter fun d => d.cls == 2).length = ((List.range q).filter fun i => (l.getD i default).cls == 2).length
 | 0, _ => rfl
 | q + 1, h => by
  rw [List.take_succ_eq_append_getElem (by omega), List.range_succ, List.filter_append, List.filter_append, List.length_append, List.length_append, XT hlen hc q (by omega)]
  have := hc q (by omega)
  rw [List.getD_eq_getElem?_getD, List.getElem?_eq_getElem (by omega), Option.getD_some] at this
  congr 1
  simp only [List.filter_cons, List.filter_nil]
  rw [this, show (l.getD q default).cls = dE l q from rfl]
  split <;> rfl
section
variable {P : Program} {ops : Array Oper} {l : List DI} {ds : List DOp} {T0 : Tm} {s : DS} {base : Nat} {F : Nat → Prop} {μ0 : Mu} {H0 : Heap} {w0 : World} {df : List Deferred}
theorem sq {g : dZ} (x : dQ P g) {fence : Fence} {rd : Bool} (hF : FenceOK fence rd) {n : Nat} {Q : Exit → Act → World → Prop} (G : DrawOK P ops l ds) (hlen : l.length = ops.size)
  (hop : ∀ i, i < l.length → qE g base T0 s i (ds.getD i default)) (z : ∀ i, i < l.length → xH base T0 s i (ds.getD i default) = true)
  (m : ∀ S k μ a w, (∀ j, j < l.length → S j = true) → Inv P l T0 s base F μ0 H0 w0 df S k μ a w → Q .normal a w) :
  ∀ (fuel : Nat) (listed : Array Bool) (k : Nat) (μ : Mu) (a : Act) (w : World), listed.size = l.length → nJ (fun j => listed.getD j false) l.length = fuel →
   Inv P l T0 s base F μ0 H0 w0 df (fun j => listed.getD j false) k μ a w → wpAnyIn fence n P .any ops Q fuel listed a w := by
 intro fuel
 induction fuel with
 | zero =>
  intro listed k μ a w hsz r J
  have f := XO _ r
  refine ⟨?_, m _ k μ a w f J⟩
  apply List.eq_nil_iff_forall_not_mem.2
  intro j hj
  have h0 := (mem_ready.1 hj).1
  have b : j < listed.size := by
   rcases Nat.lt_or_ge j listed.size with h | h
   ·exact h
   ·simp [Array.getElem?_eq_none h] at h0
  have := f j (hsz ▸ b)
  simp [b] at h0 this
  rw [h0] at this; cases this
 | succ fuel ih =>
  intro listed k μ a w hsz r J
  refine ⟨fun hr => ?_, fun i hi => ?_⟩
  ·refine m _ k μ a w ?_ J
   intro j
   induction j using Nat.strongRecOn with
   | _ j hj =>
    intro b
    cases c : listed.getD j false with
    | true => rfl
    | false =>
     exfalso
     obtain ⟨o, d, _⟩ := G.op j b
     have : j ∈ Region.ready .any ops listed := by
      refine mem_ready.2 ⟨?_, o, d, fun e he hb => ?_⟩
      ·have : j < listed.size := by omega
       simp [this] at c ⊢; exact c
      ·have hm : e.on ∈ kG o := by
        unfold kG
        exact List.mem_map.2 ⟨e, List.mem_filter.2 ⟨by simpa using he, hb⟩, rfl⟩
       have y := G.back j o b d _ hm
       exact hj e.on y (by omega)
     rw [hr] at this; cases this
  ·obtain ⟨h0, o, d, f⟩ := mem_ready.1 hi
   have b : i < listed.size := by
    rcases Nat.lt_or_ge i listed.size with h | h
    ·exact h
    ·simp [Array.getElem?_eq_none h] at h0
   have c : listed.getD i false = false := by simp [b] at h0 ⊢; exact h0
   have t : (fun j => (listed.setIfInBounds i true).getD j false) = add (fun j => listed.getD j false) i := by
    funext j
    by_cases e : j = i
    ·subst e; simp [add, b]
    ·rw [getD_set_ne false (Ne.symm e)]; simp [add, e]
   refine YQ x hF J G (hop i (hsz ▸ b)) (ajh (z i (hsz ▸ b)) k) (hsz ▸ b) c (fun p hp => ?_) fun v w' μ' A u => ?_
   ·obtain ⟨j, hj, hh⟩ := G.pre i o (hsz ▸ b) d p hp
    unfold kG at hj
    obtain ⟨e, he, rfl⟩ := List.mem_map.1 hj
    rw [List.mem_filter] at he
    have q := f e (by simpa using he.1) he.2
    rcases hh with rfl | hh
    ·exact q
    ·refine J.cl e.on ?_ q p hh
     have := G.back i o (hsz ▸ b) d e.on (by unfold kG; exact List.mem_map.2 ⟨e, List.mem_filter.2 he, rfl⟩)
     omega
   ·refine ih _ A μ' v w' (by simp [hsz]) ?_ (t ▸ u)
    rw [t]
    have := XI (S := fun j => listed.getD j false) c l.length (hsz ▸ b)
    omega
theorem HR.of_heap {μ : Mu} {H : Heap} {w w' : World} (h : HR P μ F H w) (a : w'.heap = w.heap) : HR P μ F H w' :=
 ⟨fun b L hb => a ▸ h.dom b L hb, fun c hc => a ▸ h.fb c hc, fun b e hb => let ⟨L, hL, d⟩ := h.ent b e hb; ⟨L, hL, d.mono (fun _ _ h => h) (fun _ h => h) (fun c _ => by rw [a]) (by rw [a]) (fun hr => d.notF hr)⟩, h.inj, fun g cs hg => (h.gl g cs hg).mono (fun _ _ h => h) (fun _ h => h) fun c _ => by rw [a]⟩
theorem am3 {o : dZ} (X : dQ P o) (hm : P.follows .mixedOrders = true) {fence : Fence} {rd : Bool} (hF : FenceOK fence rd) {n id : Nat} {late : List Nat} {Q : Exit → Act → World → Prop} {T v : Tm} {H H' : Heap} {μ : Mu} {a : Act} {w : World}
  (hc : px P ops = some (ds, late)) (c : jo o ds late T H = some (v, H')) (hT : LR μ F w T a.tmps.toList) (hH : HR P μ F H w)
  (U : ∀ f w' μ', f.defers = a.defers → LR μ' F w' v f.tmps.toList → HR P μ' F H' w' → Stp fB P μ F H w μ' F H' w' → Q .normal f w') :
  (Code.region id ops true).wpIn fence n P Q a w := by
 obtain ⟨l, G, hlen, rfl⟩ := afo hc
 unfold jo at c
 split at c
 ·cases c
 rename_i s hs
 split at c
 rotate_left
 ·cases c
 rename_i aa
 cases c
 have hcls : ∀ d ∈ ds, d.cls = 0 ∨ d.cls = 1 ∨ d.cls = 2 := by
  intro d hd
  obtain ⟨i, hi, rfl⟩ := List.getElem_of_mem hd
  have A : i < l.length := by rw [← G.dlen]; exact hi
  have h1 := G.cl i A
  rw [← (G.dso i A).2.2.2, xG (List.getElem?_eq_getElem hi)] at h1
  exact h1
 obtain ⟨k1, k2, k3, k4, k5⟩ := af3 ds 0 _ _ hcls hs
 have hcl : ∀ i, i < l.length → (ds.getD i default).cls = dE l i := fun i hi => (G.dso i hi).2.2.2
 have r : ∀ i, i < l.length → ds[i]? = some (ds.getD i default) := by
  intro i hi
  have : i < ds.length := by rw [G.dlen]; exact hi
  rw [List.getElem?_eq_getElem this]
  simp [List.getD_eq_getElem?_getD, List.getElem?_eq_getElem this]
 have W : s.Vs.length = l.length := by rw [k2, G.dlen]; simp
 have hop : ∀ i, i < l.length → qE o H.next T s i (ds.getD i default) := by
  intro i hi
  obtain ⟨s1, s2, e1, e2, E, e4, I⟩ := k5 i _ (r i hi)
  rw [Nat.zero_add] at e1
  refine aon e1 e2 (hcls _ (List.mem_of_getElem? (r i hi))) (by simpa using E) (by simpa using e4) (fun u hu j hj => ?_) (fun h2 k adds hl => ?_)
  ·obtain ⟨t, u⟩ := u
   have hj : u = some j := hj
   subst hj
   exact (G.useS i hi t j hu).2.2.1
  ·have y : dE l i = 2 := (hcl i hi) ▸ h2
   obtain ⟨kk, ad, B, g1, K, _⟩ := G.act i hi y
   rw [hl] at B; cases B
   refine ⟨?_, fun a ha => (G.look i hi k adds (by rw [hl]; exact List.mem_cons_self ..) a ha).2.2.2⟩
   rw [I, XT G.dlen hcl i (by omega)]
   obtain ⟨q1, q2⟩ := aio hi y
   have := YC q1 g1 (q2.trans K.symm)
   rw [this]
   simp; omega
 have g : s.Cs.getD 0 default = { H with next := H.next + ds.length } := by rw [xK k1.2.1 (by simp)]; rfl
 have N : s.Cs.length = (dR l).length + 1 := by
  have := XT G.dlen hcl l.length (Nat.le_refl _)
  rw [List.take_of_length_le (by rw [G.dlen]; exact Nat.le_refl _)] at this
  rw [k4, this]; simp [dR]; omega
 obtain ⟨w1, m⟩ : ∃ w1, w1 = { w with drawn := w.drawn + 1 } := ⟨_, rfl⟩
 have O : HR P μ F H w1 := hH.of_heap (by rw [m])
 have M : HR P μ F (s.Cs.getD 0 default) w1 := by rw [g]; exact O.bump _
 have ab : Stp fB P μ F H w μ F H w1 := by
  subst m
  exact ⟨fun _ _ h => h, fun _ h => h, Nat.le_refl _, fun _ _ _ => rfl, fun b L hb hL => .inr ⟨b, L, hb, hL, rfl⟩, Nat.le_refl _, fun _ _ _ h => h, fun b L h => .inl ⟨b, L, h, rfl⟩, fun b e h _ _ => ⟨e, h⟩, fun b e L h hL => .inr ⟨b, e, L, h, hL, rfl⟩, rfl, rfl, rfl⟩
 have hz : Hh l s H.next (fun _ => false) 0 = s.Cs.getD 0 default := by
  unfold Hh
  have : kj l (fun _ => false) 0 = [] := by simp [kj]
  rw [this]; rfl
 have C : ∀ j, (Array.replicate ops.size false).getD j false = false := by
  intro j
  rcases Nat.lt_or_ge j ops.size with h | h
  ·simp [h]
  ·simp [Array.getElem?_eq_none (show (Array.replicate ops.size false).size ≤ j by simpa using h)]
 have D : Inv P l T s H.next F μ (s.Cs.getD 0 default) w1 a.defers (fun j => (Array.replicate ops.size false).getD j false) 0 μ a w1 := by
  have hf : (fun j => (Array.replicate ops.size false).getD j false) = fun _ => false := funext C
  rw [hf]
  refine ⟨fun j _ h => (by cases h), Nat.zero_le _, fun q _ => (by simp), ?_, by rw [hz]; exact M, fun j hj _ _ => ?_, ?_, fun j hj _ => pB hH (Nat.le_add_right _ _), by rw [hz]; exact Stp.refl _ _ _ _ _ _, rfl⟩
  ·rw [amh]; exact LR.mono (w := w) (w' := w1) (fun _ _ h => h) (fun _ h => h) (fun _ _ => by rw [m]) hT
  ·rw [g]
   cases hg : H.get (H.next + j) with
   | none => exact hg
   | some e =>
    obtain ⟨L, hL, _⟩ := hH.ent _ e hg
    rw [pB hH (Nat.le_add_right _ _)] at hL; cases hL
  ·rw [g, G.dlen]; exact Nat.le_refl _
 refine wpIn_region_any hm ?_
 rw [← m]
 refine sq X hF G hlen hop (fun i hi => ?_) (fun S k μ' f w' p J => ?_) ops.size _ 0 μ a w1 (by simp [hlen]) ?_ D
 ·have := afq ds 0 aa i _ (r i hi)
  rwa [Nat.zero_add] at this
 ·have hk : k = (dR l).length := by
   rcases Nat.lt_or_ge k (dR l).length with h | h
   ·have := (J.act k h).1 (p _ (uB h).1); omega
   ·have := J.kle; omega
  subst hk
  have V : TS l T s S = kb T ds s.Vs := by
   rw [ai4 G.dlen W (fun i hi => (G.dso i hi).1)]
   unfold TS
   apply List.map_congr_left
   intro t _
   exact XP _ p
  have Z : kj l S (dR l).length = xD l := by
   rw [← ao9]
   unfold kj
   apply List.filter_congr
   intro x hx
   rw [p x (by simpa using hx)]
  have Y : s.Cs.getLastD default = s.Cs.getD (dR l).length default := by
   rw [List.getLastD_eq_getLast?, List.getLast?_eq_getElem?, N, List.getD_eq_getElem?_getD]; rfl
  have R : Hh l s H.next S (dR l).length = dU H.next s.Es (s.Cs.getLastD default) (xD l) := by
   unfold Hh; rw [Z, Y]
  have z := J.hr
  have hst := J.st
  rw [R] at z hst
  refine U f w' μ' J.df (V ▸ J.tm) z (ab.trans ?_)
  rw [g] at hst
  exact ⟨hst.mu, hst.fr, hst.size, hst.keep, hst.rw, Nat.le_trans (Nat.le_add_right _ _) hst.next, fun b hb _ hn => hst.new b (Nat.lt_of_lt_of_le hb (Nat.le_add_right _ _)) (by omega) hn, hst.rng, fun b e hb hl _ => hst.old b e hb (Nat.lt_of_lt_of_le hl (Nat.le_add_right _ _)) (by omega), hst.alv, hst.tape, hst.os, hst.out⟩
 ·rw [Yn _ (fun j _ => C j), hlen]
end
end Go.Proofs.YtopigipibioclaaGreatDoor.Ev
