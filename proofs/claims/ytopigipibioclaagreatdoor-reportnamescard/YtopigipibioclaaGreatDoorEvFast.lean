/- The evaluator, a part. -/
import Derived.Test.YtopigipibioclaaGreatDoorEvDefs
namespace Go.Proofs.YtopigipibioclaaGreatDoor.Ev
open Go
set_option linter.all false
noncomputable section
abbrev Tq := Q (Q (Q AV))
abbrev R := Option (AV × Heap)
abbrev K1 := Tq → Heap → R
abbrev KV := AV → Heap → R
abbrev KA := AV → R
abbrev iw := Task → Heap → KV → R
abbrev gY := iw → Tq → Heap → K1 → (Nat → K1) → R
abbrev jA := iw → Nat → Tq → Heap → K1 → R
abbrev Gt := Tq → AV
abbrev Pt := AV → Tq → Tq
abbrev PV := Tq → (AV → R) → R
def Tq.get (n : Nat) (T : Tq) : AV := Q.at (D8.of n) (Q.at (D8.of (Nat.div n 8)) (Q.at (D8.of (Nat.div n 64)) T))
def Tq.set (n : Nat) (v : AV) (T : Tq) : Tq := Q.up (D8.of (Nat.div n 64)) (Q.up (D8.of (Nat.div n 8)) (Q.up (D8.of n) (fun _ => v))) T
def kc (v : AV) : Gt := fun _ => v
def np : Pt := fun _ T => T
def pL (n : Nat) : Gt := if n < 512 then Tq.get n else kc .undef
def lY (nt : Nat) (d : Option Nat) : Pt := match d with
 | none => np
 | some d => if d < nt then Tq.set d else np
def co : Src → Gt
 | .t n => pL n
 | .c v => kc v
def evq (T : Tq) (s : Src) : AV := co s T
def ga {α : Type} (o : Option α) : (α → R) → R := @Option.rec α (fun _ => (α → R) → R) (fun _ => none) (fun v k => k v) o
def nV {α β : Type} (o : α × β) : (α → β → R) → R := @Prod.rec α β (fun _ => (α → β → R) → R) (fun a b k => k a b) o
/-! Operations. -/
def oq (a b : jA) : jA := fun c x T H n => a c x T H fun T H => b c x T H n
def o0 : jA := fun _ _ T H n => n T H
def oP (f : PV) (p : Pt) : jA := fun _ _ T H n => f T fun v => n (p v T) H
def om (g : Gt) (p : Pt) : jA := fun _ _ T H n => n (p (g T) T) H
def oe (op : AOp) (i : Nat) (p : Pt) : jA := fun _ x T H n => ga (match bJ (evq T) op with | some v => some (v, H) | none => bR (evq T) H (Nat.add x i) op) fun r => nV r fun v H' => n (p v T) H'
def aA (f : Nat) (args : Tq → List AV) (p : Pt) : jA := fun a _ T H n => a (.fn f (args T)) H fun v H' => n (p v T) H'
def b5 (f : Gt) (args : Tq → List AV) (p : Pt) : jA := fun a _ T H n => ga (qK (f T) (args T)) fun t => a t H fun v H' => n (p v T) H'
def zC (v : AV) : Bool → R → R → R := @AV.rec (fun _ => Bool → R → R → R) (fun _ => PUnit) (fun _ _ _ => none) (fun c => fun w y n => @Bool.rec (fun _ => R) (@Bool.rec (fun _ => R) y n w) (@Bool.rec (fun _ => R) n y w) c) (fun _ _ => fun _ _ _ => none) (fun _ => fun _ _ _ => none) (fun _ _ _ => none) (fun _ _ _ => none) (fun _ _ _ => none) (fun _ _ _ => none) (fun _ _ _ => none) (fun _ _ => fun _ _ _ => none) (fun l _ => fun _ _ n => @List.rec AV (fun _ => R) n (fun _ _ _ => none) l) (fun _ _ _ => fun _ _ _ => none) (fun _ _ _ => fun _ _ _ => none) (fun _ _ _ _ _ _ => fun _ _ _ => none) (fun _ _ => fun _ _ _ => none) (fun _ _ _ _ _ => fun _ _ _ => none) (fun _ _ _ => fun _ _ _ => none) (fun _ => fun _ _ _ => none) (fun _ => fun _ _ _ => none) PUnit.unit (fun _ _ _ _ => PUnit.unit) v
def og (g : Gt) (b : Bool) (p : Pt) (o : jA) : jA := fun a x T H n => zC (g T) b (o a x T H n) (n (p (.tup []) T) H)
/-! Operations of their own: closed cases, as the kernel likes them. -/
def tV (v : AV) : (IntKind → Int → R) → R := @AV.rec (fun _ => (IntKind → Int → R) → R) (fun _ => PUnit) (fun _ => none) (fun _ => fun _ => none) (fun a b => fun k => k a b) (fun _ => fun _ => none) (fun _ => none) (fun _ => none) (fun _ => none) (fun _ => none) (fun _ => none) (fun _ _ => fun _ => none) (fun _ _ => fun _ => none) (fun _ _ _ => fun _ => none) (fun _ _ _ => fun _ => none) (fun _ _ _ _ _ _ => fun _ => none) (fun _ _ => fun _ => none) (fun _ _ _ _ _ => fun _ => none) (fun _ _ _ => fun _ => none) (fun _ => fun _ => none) (fun _ => fun _ => none) PUnit.unit (fun _ _ _ _ => PUnit.unit) v
def Xt (v : AV) : KA → R := @AV.rec (fun _ => KA → R) (fun _ => PUnit) (fun _ => none) (fun _ => fun _ => none) (fun _ _ => fun _ => none) (fun _ => fun _ => none) (fun _ => none) (fun k => k (.int .i64 (.ofNat 0))) (fun _ => none) (fun _ => none) (fun _ => none) (fun _ _ => fun _ => none) (fun _ _ => fun _ => none) (fun _ n _ => fun k => k (.int .i64 (.ofNat n))) (fun _ _ _ => fun _ => none) (fun _ _ n _ _ _ => fun k => k (.int .i64 (.ofNat n))) (fun _ _ => fun _ => none) (fun _ _ _ _ _ => fun _ => none) (fun _ _ _ => fun _ => none) (fun _ => fun _ => none) (fun _ => fun _ => none) PUnit.unit (fun _ _ _ _ => PUnit.unit) v
def yg (v : AV) : (Nat → R) → R := @AV.rec (fun _ => (Nat → R) → R) (fun _ => PUnit) (fun _ => none) (fun _ => fun _ => none) (fun _ b => fun k => @Int.rec (fun _ => R) (fun n => k n) (fun _ => none) b) (fun _ => fun _ => none) (fun _ => none) (fun _ => none) (fun _ => none) (fun _ => none) (fun _ => none) (fun _ _ => fun _ => none) (fun _ _ => fun _ => none) (fun _ _ _ => fun _ => none) (fun _ _ _ => fun _ => none) (fun _ _ _ _ _ _ => fun _ => none) (fun _ _ => fun _ => none) (fun _ _ _ _ _ => fun _ => none) (fun _ _ _ => fun _ => none) (fun _ => fun _ => none) (fun _ => fun _ => none) PUnit.unit (fun _ _ _ _ => PUnit.unit) v
def Xu (v : AV) : Nat → Nat → KA → R := @AV.rec (fun _ => Nat → Nat → KA → R) (fun _ => PUnit) (fun _ _ _ => none) (fun _ => fun _ _ _ => none) (fun _ _ => fun _ _ _ => none) (fun _ => fun _ _ _ => none) (fun _ _ _ => none) (fun _ _ _ => none) (fun _ _ _ => none) (fun _ _ _ => none) (fun _ _ _ => none) (fun _ _ => fun _ _ _ => none) (fun _ _ => fun _ _ _ => none) (fun cs n _ => fun size i k => @Bool.rec (fun _ => R) none (k (.dp cs (Nat.mul i size))) (Nat.ble (Nat.succ i) n)) (fun _ _ _ => fun _ _ _ => none) (fun b off n _ sz _ => fun size i k => @Bool.rec (fun _ => R) none (@Bool.rec (fun _ => R) none (k (.ptr b (Nat.add off (Nat.mul i size)))) (Nat.beq sz size)) (Nat.ble (Nat.succ i) n)) (fun _ _ => fun _ _ _ => none) (fun _ _ _ _ _ => fun _ _ _ => none) (fun _ _ _ => fun _ _ _ => none) (fun _ => fun _ _ _ => none) (fun _ => fun _ _ _ => none) PUnit.unit (fun _ _ _ _ => PUnit.unit) v
def avFA (v : AV) : Nat → KA → R := @AV.rec (fun _ => Nat → KA → R) (fun _ => PUnit) (fun _ _ => none) (fun _ => fun _ _ => none) (fun _ _ => fun _ _ => none) (fun _ => fun _ _ => none) (fun _ _ => none) (fun _ _ => none) (fun _ _ => none) (fun _ _ => none) (fun _ _ => none) (fun _ _ => fun _ _ => none) (fun _ _ => fun _ _ => none) (fun _ _ _ => fun _ _ => none) (fun cs o _ => fun off k => k (.dp cs (Nat.add o off))) (fun _ _ _ _ _ _ => fun _ _ => none) (fun b o => fun off k => k (.ptr b (Nat.add o off))) (fun _ _ _ _ _ => fun _ _ => none) (fun _ _ _ => fun _ _ => none) (fun _ => fun _ _ => none) (fun _ => fun _ _ => none) PUnit.unit (fun _ _ _ _ => PUnit.unit) v
def vz (l : List AV) : Nat → KA → R := @List.rec AV (fun _ => Nat → KA → R) (fun _ _ => none) (fun a _ ih n k => @Nat.rec (fun _ => R) (k a) (fun m _ => ih m k) n) l
def Xs (v : AV) : Nat → KA → R := @AV.rec (fun _ => Nat → KA → R) (fun _ => PUnit) (fun _ _ => none) (fun _ => fun _ _ => none) (fun _ _ => fun _ _ => none) (fun _ => fun _ _ => none) (fun _ _ => none) (fun _ _ => none) (fun _ _ => none) (fun _ _ => none) (fun _ _ => none) (fun _ _ => fun _ _ => none) (fun vs _ => vz vs) (fun _ _ _ => fun _ _ => none) (fun _ _ _ => fun _ _ => none) (fun _ _ _ _ _ _ => fun _ _ => none) (fun _ _ => fun _ _ => none) (fun _ _ _ _ _ => fun _ _ => none) (fun _ _ _ => fun _ _ => none) (fun _ => fun _ _ => none) (fun _ => fun _ _ => none) PUnit.unit (fun _ _ _ _ => PUnit.unit) v
def XK (e : Ent) : (List AV → Nat → Bool → R) → R := @Ent.rec (fun _ => (List AV → Nat → Bool → R) → R) (fun cs ty rw k => k cs ty rw) (fun _ _ => none) (fun _ _ _ _ _ _ _ => none) (fun _ _ _ => none) (fun _ _ => none) e
def tU (v : AV) : Heap → KA → R := @AV.rec (fun _ => Heap → KA → R) (fun _ => PUnit) (fun _ _ => none) (fun _ => fun _ _ => none) (fun _ _ => fun _ _ => none) (fun _ => fun _ _ => none) (fun _ _ => none) (fun _ _ => none) (fun _ _ => none) (fun _ _ => none) (fun _ _ => none) (fun _ _ => fun _ _ => none) (fun _ _ => fun _ _ => none) (fun _ _ _ => fun _ _ => none) (fun cs o _ => fun _ k => vz cs o k) (fun _ _ _ _ _ _ => fun _ _ => none) (fun b o => fun H k => ga (H.get b) fun e => XK e fun cs _ _ => vz cs o k) (fun _ _ _ _ _ => fun _ _ => none) (fun _ _ _ => fun _ _ => none) (fun _ => fun _ _ => none) (fun _ => fun _ _ => none) PUnit.unit (fun _ _ _ _ => PUnit.unit) v
def mn (l : List AV) : Nat := @List.rec AV (fun _ => Nat) 0 (fun _ _ n => Nat.succ n) l
def yF (l : List AV) : Nat → AV → List AV := @List.rec AV (fun _ => Nat → AV → List AV) (fun _ _ => []) (fun a l ih n v => @Nat.rec (fun _ => List AV) (v :: l) (fun m _ => a :: ih m v) n) l
def vw (v : AV) : Bool := @AV.rec (fun _ => Bool) (fun _ => PUnit) (false) (fun _ => true) (fun _ _ => true) (fun _ => true) (true) (true) (true) (true) (true) (fun _ _ => false) (fun _ _ => false) (fun _ _ _ => true) (fun _ _ _ => true) (fun _ _ _ _ _ _ => true) (fun _ _ => true) (fun _ _ _ _ _ => true) (fun _ _ _ => true) (fun _ => true) (fun _ => true) PUnit.unit (fun _ _ _ _ => PUnit.unit) v
def an1 (v : AV) : AV → Heap → (Heap → R) → R := @AV.rec (fun _ => AV → Heap → (Heap → R) → R) (fun _ => PUnit) (fun _ _ _ => none) (fun _ => fun _ _ _ => none) (fun _ _ => fun _ _ _ => none) (fun _ => fun _ _ _ => none) (fun _ _ _ => none) (fun _ _ _ => none) (fun _ _ _ => none) (fun _ _ _ => none) (fun _ _ _ => none) (fun _ _ => fun _ _ _ => none) (fun _ _ => fun _ _ _ => none) (fun _ _ _ => fun _ _ _ => none) (fun _ _ _ => fun _ _ _ => none) (fun _ _ _ _ _ _ => fun _ _ _ => none) (fun b o => fun x H k => ga (H.get b) fun e => XK e fun cs ty rw => @Bool.rec (fun _ => R) none (@Bool.rec (fun _ => R) none (@Bool.rec (fun _ => R) none (k (H.put b (.cells (yF cs o x) ty true))) (Nat.ble (Nat.succ o) (mn cs))) (vw x)) rw) (fun _ _ _ _ _ => fun _ _ _ => none) (fun _ _ _ => fun _ _ _ => none) (fun _ => fun _ _ _ => none) (fun _ => fun _ _ _ => none) PUnit.unit (fun _ _ _ _ => PUnit.unit) v
def x1 (a b : IntKind) : R → R := @IntKind.rec (fun _ => IntKind → R → R)
 (fun b r => @IntKind.rec (fun _ => R) r none none none none none none none b)
 (fun b r => @IntKind.rec (fun _ => R) none r none none none none none none b)
 (fun b r => @IntKind.rec (fun _ => R) none none r none none none none none b)
 (fun b r => @IntKind.rec (fun _ => R) none none none r none none none none b)
 (fun b r => @IntKind.rec (fun _ => R) none none none none r none none none b)
 (fun b r => @IntKind.rec (fun _ => R) none none none none none r none none b)
 (fun b r => @IntKind.rec (fun _ => R) none none none none none none r none b)
 (fun b r => @IntKind.rec (fun _ => R) none none none none none none none r b)
 a b
def XQ (a : Int) : Int → Int := @Int.rec (fun _ => Int → Int) (fun m b => @Int.rec (fun _ => Int) (fun n => .ofNat (Nat.add m n)) (fun n => Int.add (.ofNat m) (.negSucc n)) b) (fun m b => Int.add (.negSucc m) b) a
def KU (a : Int) : Int → Int := @Int.rec (fun _ => Int → Int) (fun m b => @Int.rec (fun _ => Int) (fun n => @Bool.rec (fun _ => Int) (Int.sub (.ofNat m) (.ofNat n)) (.ofNat (Nat.sub m n)) (Nat.ble n m)) (fun n => Int.sub (.ofNat m) (.negSucc n)) b) (fun m b => Int.sub (.negSucc m) b) a
def MM (a : Int) : Int → Int := @Int.rec (fun _ => Int → Int) (fun m b => @Int.rec (fun _ => Int) (fun n => .ofNat (Nat.mul m n)) (fun n => Int.mul (.ofNat m) (.negSucc n)) b) (fun m b => Int.mul (.negSucc m) b) a
def MN (a : Int) : Int → Bool := @Int.rec (fun _ => Int → Bool) (fun m b => @Int.rec (fun _ => Bool) (fun n => Nat.ble (Nat.succ m) n) (fun _ => false) b) (fun m b => @Int.rec (fun _ => Bool) (fun _ => true) (fun n => Nat.ble (Nat.succ n) m) b) a
def eqI (a : Int) : Int → Bool := @Int.rec (fun _ => Int → Bool) (fun m b => @Int.rec (fun _ => Bool) (fun n => Nat.beq m n) (fun _ => false) b) (fun m b => @Int.rec (fun _ => Bool) (fun _ => false) (fun n => Nat.beq m n) b) a
def notF (b : Bool) : Bool := @Bool.rec (fun _ => Bool) true false b
def o7 (k : IntKind) : Int → Int := @IntKind.rec (fun _ => Int → Int) (IntKind.wrap .i8) (IntKind.wrap .i16) (IntKind.wrap .i32)
 (fun x => @Int.rec (fun _ => Int) (fun n => @Bool.rec (fun _ => Int) (IntKind.wrap .i64 (.ofNat n)) (.ofNat n) (Nat.ble n 9223372036854775807)) (fun n => @Bool.rec (fun _ => Int) (IntKind.wrap .i64 (.negSucc n)) (.negSucc n) (Nat.ble n 9223372036854775807)) x)
 (IntKind.wrap .u8) (IntKind.wrap .u16) (IntKind.wrap .u32)
 (fun x => @Int.rec (fun _ => Int) (fun n => .ofNat (Nat.mod n 18446744073709551616)) (fun n => IntKind.wrap .u64 (.negSucc n)) x) k
def kM (f : IntKind → Int → Int → AV) (g h : Gt) : PV := fun T k => tV (g T) fun a x => tV (h T) fun b y => x1 a b (k (f a x y))
def iL (g h : Gt) : PV := kM (fun k x y => .int k (o7 k (XQ x y))) g h
def fH (g h : Gt) : PV := kM (fun k x y => .int k (o7 k (KU x y))) g h
def iC (g h : Gt) : PV := kM (fun k x y => .int k (o7 k (MM x y))) g h
def bF (g h : Gt) : PV := kM (fun _ x y => .bool (MN x y)) g h
def cY (g h : Gt) : PV := kM (fun _ x y => .bool (MN y x)) g h
def fC (g h : Gt) : PV := kM (fun _ x y => .bool (notF (MN y x))) g h
def e6 (g h : Gt) : PV := kM (fun _ x y => .bool (notF (MN x y))) g h
def bk (g h : Gt) : PV := kM (fun _ x y => .bool (eqI x y)) g h
def cJ (g h : Gt) : PV := kM (fun _ x y => .bool (notF (eqI x y))) g h
def eN (g : Gt) : PV := fun T k => Xt (g T) k
def bU (size : Nat) (g h : Gt) : PV := fun T k => yg (h T) fun i => Xu (g T) size i k
def bX (off : Nat) (g : Gt) : PV := fun T k => avFA (g T) off k
def cA (i : Nat) (g : Gt) : PV := fun T k => Xs (g T) i k
def ol (g : Gt) (p : Pt) : jA := fun _ _ T H n => tU (g T) H fun v => n (p v T) H
def dk (g h : Gt) (p : Pt) : jA := fun _ _ T H n => an1 (g T) (h T) H fun H' => n (p .undef T) H'
def oa (ty : Nat) (zero : List AV) (i : Nat) (p : Pt) : jA := fun _ x T H n => n (p (.ptr (Nat.add x i) 0) T) (H.put (Nat.add x i) (.cells zero ty true))
def pv (v : AV) : R → R → R := @AV.rec (fun _ => R → R → R) (fun _ => PUnit) (fun _ _ => none) (fun c => fun a b => @Bool.rec (fun _ => R) b a c) (fun _ _ => fun _ _ => none) (fun _ => fun _ _ => none) (fun _ _ => none) (fun _ _ => none) (fun _ _ => none) (fun _ _ => none) (fun _ _ => none) (fun _ _ => fun _ _ => none) (fun _ _ => fun _ _ => none) (fun _ _ _ => fun _ _ => none) (fun _ _ _ => fun _ _ => none) (fun _ _ _ _ _ _ => fun _ _ => none) (fun _ _ => fun _ _ => none) (fun _ _ _ _ _ => fun _ _ => none) (fun _ _ _ => fun _ _ => none) (fun _ => fun _ _ => none) (fun _ => fun _ _ => none) PUnit.unit (fun _ _ _ _ => PUnit.unit) v
def ba (c a b : Gt) : PV := fun T k => pv (c T) (k (a T)) (k (b T))
def pm (n : Nat) : List AV → List AV := @Nat.rec (fun _ => List AV → List AV) (fun l => l) (fun _ ih l => @List.rec AV (fun _ => List AV) [] (fun _ a _ => ih a) l) n
def pa (n : Nat) : List AV → List AV := @Nat.rec (fun _ => List AV → List AV) (fun _ => []) (fun _ ih l => @List.rec AV (fun _ => List AV) [] (fun a b _ => a :: ih b) l) n
def xz (l : List AV) : List AV → List AV := @List.rec AV (fun _ => List AV → List AV) (fun m => m) (fun a _ ih m => a :: ih m) l
def Yd (l : List AV) : Bool := @List.rec AV (fun _ => Bool) true (fun a _ ih => @Bool.rec (fun _ => Bool) false ih (vw a)) l
def Cx (v : AV) : List AV := @AV.rec (fun _ => AV → List AV) (fun _ => PUnit) (fun v => [v]) (fun _ => fun v => [v]) (fun _ _ => fun v => [v]) (fun _ => fun v => [v]) (fun v => [v]) (fun v => [v]) (fun v => [v]) (fun v => [v]) (fun v => [v]) (fun cs _ => fun _ => cs) (fun _ _ => fun v => [v]) (fun _ _ _ => fun v => [v]) (fun _ _ _ => fun v => [v]) (fun _ _ _ _ _ _ => fun v => [v]) (fun _ _ => fun v => [v]) (fun _ _ _ _ _ => fun v => [v]) (fun _ _ _ => fun v => [v]) (fun _ => fun v => [v]) (fun _ => fun v => [v]) PUnit.unit (fun _ _ _ _ => PUnit.unit) v v
def o9 (n : Nat) (cs : List AV) (o : Nat) (k : KA) : R := @Bool.rec (fun _ => R) none (k (.agg (pa n (pm o cs)))) (Nat.ble (Nat.add o n) (mn cs))
def XJ (n o : Nat) (a cs : List AV) (k : List AV → R) : R := @Bool.rec (fun _ => R) none (@Bool.rec (fun _ => R) none (@Bool.rec (fun _ => R) none (k (xz (pa o cs) (xz a (pm (Nat.add o n) cs)))) (Yd a)) (Nat.ble (Nat.add o n) (mn cs))) (Nat.beq (mn a) n)
def aob (v : AV) : Nat → Heap → KA → R := @AV.rec (fun _ => Nat → Heap → KA → R) (fun _ => PUnit) (fun _ _ _ => none) (fun _ => fun _ _ _ => none) (fun _ _ => fun _ _ _ => none) (fun _ => fun _ _ _ => none) (fun _ _ _ => none) (fun _ _ _ => none) (fun _ _ _ => none) (fun _ _ _ => none) (fun _ _ _ => none) (fun _ _ => fun _ _ _ => none) (fun _ _ => fun _ _ _ => none) (fun _ _ _ => fun _ _ _ => none) (fun cs o _ => fun m _ k => o9 m cs o k) (fun _ _ _ _ _ _ => fun _ _ _ => none) (fun b o => fun m H k => ga (H.get b) fun e => XK e fun cs _ _ => o9 m cs o k) (fun _ _ _ _ _ => fun _ _ _ => none) (fun _ _ _ => fun _ _ _ => none) (fun _ => fun _ _ _ => none) (fun _ => fun _ _ _ => none) PUnit.unit (fun _ _ _ _ => PUnit.unit) v
def alx (v : AV) : Nat → AV → Heap → (Heap → R) → R := @AV.rec (fun _ => Nat → AV → Heap → (Heap → R) → R) (fun _ => PUnit) (fun _ _ _ _ => none) (fun _ => fun _ _ _ _ => none) (fun _ _ => fun _ _ _ _ => none) (fun _ => fun _ _ _ _ => none) (fun _ _ _ _ => none) (fun _ _ _ _ => none) (fun _ _ _ _ => none) (fun _ _ _ _ => none) (fun _ _ _ _ => none) (fun _ _ => fun _ _ _ _ => none) (fun _ _ => fun _ _ _ _ => none) (fun _ _ _ => fun _ _ _ _ => none) (fun _ _ _ => fun _ _ _ _ => none) (fun _ _ _ _ _ _ => fun _ _ _ _ => none) (fun b o => fun m x H k => ga (H.get b) fun e => XK e fun cs ty rw => @Bool.rec (fun _ => R) none (XJ m o (Cx x) cs fun cs => k (H.put b (.cells cs ty true))) rw) (fun _ _ _ _ _ => fun _ _ _ _ => none) (fun _ _ _ => fun _ _ _ _ => none) (fun _ => fun _ _ _ _ => none) (fun _ => fun _ _ _ _ => none) PUnit.unit (fun _ _ _ _ => PUnit.unit) v
def bM (m : Nat) (g : Gt) (p : Pt) : jA := fun _ _ T H n => aob (g T) m H fun v => n (p v T) H
def ot (m : Nat) (g h : Gt) (p : Pt) : jA := fun _ _ T H n => alx (g T) m (h T) H fun H' => n (p .undef T) H'
def ox (ty : Nat) (g : Gt) (i : Nat) (p : Pt) : jA := fun _ x T H n => @Bool.rec (fun _ => R) none (n (p (.ptr (Nat.add x i) 0) T) (H.put (Nat.add x i) (.cells (Cx (g T)) ty true))) (Yd (Cx (g T)))
def pi (ps : List ((Nat × Nat) × Gt)) : Tq → List AV → (List AV → R) → R := @List.rec ((Nat × Nat) × Gt) (fun _ => Tq → List AV → (List AV → R) → R) (fun _ cs k => k cs) (fun p _ ih T cs k => XJ p.1.2 p.1.1 (Cx (p.2 T)) cs fun cs => ih T cs k) ps
def cT (zero : List AV) (ps : List ((Nat × Nat) × Gt)) : PV := fun T k => pi ps T zero fun cs => k (.agg cs)
def ob (ty size : Nat) (zeros : List AV) (len : Nat) (ps : List ((Nat × Nat) × Gt)) (i : Nat) (p : Pt) : jA := fun _ x T H n => pi ps T zeros fun cs => n (p (.own (Nat.add x i) 0 len len size true) T) (H.put (Nat.add x i) (.cells cs ty true))
/-! Regions whose order is open: the heaps behind each act (the last one first), the new blocks (the last one first). -/
abbrev DK := Tq → List Heap → List (Option Ent) → R
abbrev mG := iw → Nat → Tq → List Heap → List (Option Ent) → DK → R
abbrev uF := iw → Nat → Tq → List Heap → List (Option Ent) → R → R
def pK (Cs : List Heap) : Nat → Heap := @List.rec Heap (fun _ => Nat → Heap) (fun _ => default) (fun a _ ih n => @Nat.rec (fun _ => Heap) a (fun m _ => ih m) n) Cs
def vA (Es : List (Option Ent)) : Nat → Option Ent := @List.rec (Option Ent) (fun _ => Nat → Option Ent) (fun _ => none) (fun a _ ih n => @Nat.rec (fun _ => Option Ent) a (fun m _ => ih m) n) Es
def qA (x : Nat) (Es : List (Option Ent)) (adds : List (Nat × Nat)) : Heap → Heap :=
 @List.rec (Nat × Nat) (fun _ => Heap → Heap) (fun H => H) (fun p _ ih H => ih (@Option.rec Ent (fun _ => Heap) H (fun e => H.put (Nat.add x p.1) e) (vA Es p.2))) adds
def nQ (k : Nat) (adds : List (Nat × Nat)) (x : Nat) (Cs : List Heap) (Es : List (Option Ent)) : Heap := qA x Es adds (pK Cs k)
def dl (k : Nat) (adds : List (Nat × Nat)) (o : jA) : mG := fun b x T Cs Es n => o b x T (nQ k adds x Cs Es) fun a _ => n a Cs (none :: Es)
def dm (i : Nat) (o : jA) : mG := fun b x T Cs Es n => o b x T (Heap.nil 0) fun a H' => n a Cs (H'.get (Nat.add x i) :: Es)
def da (k : Nat) (adds : List (Nat × Nat)) (o : jA) : mG := fun b x T Cs Es n => o b x T (nQ k adds x Cs Es) fun a H' => n a (H' :: Cs) (none :: Es)
def dq (a b : mG) : mG := fun c x T Cs Es n => a c x T Cs Es fun T Cs Es => b c x T Cs Es n
def cw : mG := fun _ _ T Cs Es n => n T Cs Es
def cn : uF := fun _ _ _ _ _ r => r
def cm (g : Gt) (k : Nat) (adds : List (Nat × Nat)) (o : jA) : uF := fun b x T Cs Es r => o b x T (nQ k adds x Cs Es) fun a _ => @Bool.rec (fun _ => R) none r (AV.beq (g a) (g T))
def cj (a b : uF) : uF := fun c x T Cs Es r => a c x T Cs Es (b c x T Cs Es r)
def aX (len : Nat) (d : mG) (c : uF) (late : List (Nat × Nat)) : gY := fun a T H n _ => d a H.next T [⟨Nat.add H.next len, H.tr, H.lim, H.ovr⟩] [] fun T Cs Es => c a H.next T Cs Es (n T (qA H.next Es late (pK Cs 0)))
/-! Code. -/
def cq (a b : gY) : gY := fun c T H n e => a c T H (fun T H => b c T H n e) e
def ck : gY := fun _ T H n _ => n T H
def aq (len : Nat) (o : jA) : gY := fun a T H n _ => o a H.next T ⟨Nat.add H.next len, H.tr, H.lim, H.ovr⟩ n
def ak (g : Gt) (a b : gY) : gY := fun c T H n e => pv (g T) (a c T H n e) (b c T H n e)
def aQ (i : Nat) (a : gY) : gY := fun b T H n e => a b T H n (fun j => @Bool.rec (fun _ => K1) (e j) n (Nat.beq j i))
def B5 (a : gY) : gY := fun b T H n e => a b T H n (fun j => @Bool.rec (fun _ => K1) (e j) (@Bool.rec (fun _ => K1) (fun _ _ => none) (e j) (Nat.beq j 0)) (Nat.beq (Nat.mod j 2) 0))
def cx (i : Nat) : gY := fun _ T H _ e => e i T H
def cE (m : Nat) (a : gY) : gY := fun b T H _ e => @Nat.rec (fun _ => K1) (fun _ _ => none) (fun _ ih T H => @Bool.rec (fun _ => R) (a b T H ih e) (a b T H ih e) (Nat.ble H.next 0)) m T H
def ym : Ex → Nat
 | .nrm => 0
 | .ret => 0
 | .exit i => 2 * i + 1
 | .goto l => 2 * l + 2
def kr (n : K1) (e : Nat → K1) : Ex → K1
 | .nrm => n
 | x => e (ym x)
def toL (nt : Nat) (T : Tq) : Tm := (List.range nt).map fun n => Tq.get n T
def nY : List AV → Nat → Tq → Tq
 | [], _, T => T
 | v :: l, i, T => nY l (i + 1) (Tq.set i v T)
def T0 : Tq := .all (.all (.all .undef))
def ofL (t : Tm) : Tq := nY t 0 T0
def iZ (a : iw) : dZ := fun t H => a t H fun v H => some (v, H)
def gq (m : Nat) (rd : Bool) (nt : Nat) (c : ACode) : gY := fun a T H n e => ga (aZ (iZ a) m rd c (toL nt T) H) fun r => kr n e r.1 (ofL r.2.1) r.2.2
/-! What a piece of code is. -/
def aov (f : Src) (args : Tq → List AV) (p : Pt) : jA := match f with
 | .c (.fn (.func f) [] []) => aA f args p
 | f => b5 (co f) args p
def Yg (i : Nat) (p : Pt) : AOp → jA
 | .mv x => om (co x) p
 | .bin op .int x y => match op with
  | .add => oP (iL (co x) (co y)) p
  | .sub => oP (fH (co x) (co y)) p
  | .mul => oP (iC (co x) (co y)) p
  | .lss => oP (bF (co x) (co y)) p
  | .gtr => oP (cY (co x) (co y)) p
  | .leq => oP (fC (co x) (co y)) p
  | .geq => oP (e6 (co x) (co y)) p
  | .eql => oP (bk (co x) (co y)) p
  | .neq => oP (cJ (co x) (co y)) p
  | op => oe (.bin op .int x y) i p
 | .len x => oP (eN (co x)) p
 | .indexAddr size x j => oP (bU size (co x) (co j)) p
 | .fieldAddr off x => oP (bX off (co x)) p
 | .extract j x => oP (cA j (co x)) p
 | .load none x => ol (co x) p
 | .store 1 x v => dk (co x) (co v) p
 | .alloc ty zero => oa ty zero i p
 | .pick c a b => oP (ba (co c) (co a) (co b)) p
 | .load (some m) x => bM m (co x) p
 | .store m x v => ot m (co x) (co v) p
 | .box ty x => ox ty (co x) i p
 | .build zero ps => oP (cT zero (ps.map fun q => (q.1, co q.2))) p
 | .buildSlice ty size zeros len ps => ob ty size zeros len (ps.map fun q => (q.1, co q.2)) i p
 | .call f args => aov f (fun T => args.map fun s => co s T) p
 | op => oe op i p
def iW (nt i : Nat) (o : ROp) : jA := match o.guard with
 | none => Yg i (lY nt o.dst) o.op
 | some (t, a) => og (pL t) a (lY nt o.dst) (Yg i (lY nt o.dst) o.op)
def Ye (nt : Nat) : Nat → List ROp → jA
 | _, [] => o0
 | i, [o] => iW nt i o
 | i, o :: os => oq (iW nt i o) (Ye nt (i + 1) os)
def o6 : List DOp → Nat → Option Nat
 | [], _ => none
 | d :: ds, n => match o6 ds n with
  | some j => some (j + 1)
  | none => if d.dst = some n then some 0 else none
def kf : List (Nat × Option Nat) → Nat → Option (Option Nat)
 | [], _ => none
 | u :: us, n => match kf us n with
  | some x => some x
  | none => if u.1 = n then some u.2 else none
def DOp.slots (d : DOp) : List Nat := d.op.slots ++ (match d.guard with | some (t, _) => [t] | none => [])
def Cn (acts i : Nat) (p : Nat × List Nat) : Bool := Nat.ble p.1 acts && p.2.all fun a => Nat.blt a i
def mm (nt : Nat) (ds : List DOp) (a acts i : Nat) (d : DOp) : Bool :=
 (d.slots.all fun n => Nat.blt n nt && decide (kf d.uses n = some (o6 (ds.take i) n))) &&
 match d.cls with
 | 0 => if d.op.looks = true then match d.looks with
   | [] => false
   | p :: ps => Cn acts i p && (ps.isEmpty || ((ps.all fun p => Cn a ds.length p) && (d.slots.all fun n => decide (o6 ds n = o6 (ds.take i) n)) &&
     (match d.dst with | some x => Nat.blt x nt && decide (o6 ds x = some i) | none => false)))
  else d.op.isPure
 | 1 => d.op.makes
 | 2 => match d.looks with
  | [p] => Cn acts i p
  | _ => false
 | _ => false
def nX (nt : Nat) (ds : List DOp) (a : Nat) : Nat → Nat → List DOp → Bool
 | _, _, [] => true
 | acts, i, d :: rest => mm nt ds a acts i d && nX nt ds a (if d.cls = 2 then acts + 1 else acts) (i + 1) rest
def lE (ds : List DOp) : Nat := (ds.filter fun d => d.cls == 2).length
def Xy (nt : Nat) (ds : List DOp) (late : List Nat) : Bool := nX nt ds (lE ds) 0 0 ds && late.all fun a => Nat.blt a ds.length
def uk (i : Nat) (adds : List Nat) : List (Nat × Nat) := adds.map fun a => (a, i - 1 - a)
def pn (nt acts i : Nat) (d : DOp) : mG := match d.cls with
 | 0 => if d.op.looks = true then match d.looks with
   | [] => cw
   | p :: _ => dl (acts - p.1) (uk i p.2) (iW nt i ⟨d.dst, d.op, d.guard⟩)
  else dl 0 [] (iW nt i ⟨d.dst, d.op, d.guard⟩)
 | 1 => dm i (iW nt i ⟨d.dst, d.op, d.guard⟩)
 | _ => match d.looks with
  | [p] => da (acts - p.1) (uk i p.2) (iW nt i ⟨d.dst, d.op, d.guard⟩)
  | _ => cw
def sr (nt : Nat) : Nat → Nat → List DOp → mG
 | _, _, [] => cw
 | acts, i, d :: ds => dq (pn nt acts i d) (sr nt (if d.cls = 2 then acts + 1 else acts) (i + 1) ds)
def Cw (nt a len i : Nat) (d : DOp) : List (Nat × List Nat) → uF → uF
 | [], c => c
 | p :: ps, c => cj (cm (pL (d.dst.getD 0)) (a - p.1) (uk len p.2) (iW nt i ⟨d.dst, d.op, d.guard⟩)) (Cw nt a len i d ps c)
def lk (nt a len : Nat) : Nat → List DOp → uF
 | _, [] => cn
 | i, d :: ds => if d.cls = 0 ∧ d.op.looks = true then Cw nt a len i d d.looks.tail (lk nt a len (i + 1) ds) else lk nt a len (i + 1) ds
def akb (nt : Nat) (ds : List DOp) (late : List Nat) : gY := aX ds.length (sr nt 0 0 ds) (lk nt (lE ds) ds.length 0 ds) (uk ds.length late)
def po (m : Nat) (rd : Bool) (nt : Nat) : ACode → gY
 | .skip => ck
 | .region ops => aq ops.length (Ye nt 0 ops)
 | .seq a b => cq (po m rd nt a) (po m rd nt b)
 | .cond c a b => ak (co c) (po m rd nt a) (po m rd nt b)
 | .block id a => aQ (2 * id + 1) (po m rd nt a)
 | .loop a => cE m (po m rd nt a)
 | .exit i => cx (2 * i + 1)
 | .goto l => cx (2 * l + 2)
 | .ret => cx 0
 | .scope a => B5 (po m rd nt a)
 | .draw ds late => if Xy nt ds late = true then akb nt ds late else gq m rd nt (.draw ds late)
 | c => gq m rd nt c
/-! Functions. -/
structure FFn where
 nparams : Nat
 ntmps : Nat
 results : List (Nat × Option (Option Nat))
 body : gY
def lO (l : List AV) : Nat → AV := @List.rec AV (fun _ => Nat → AV) (fun _ => .undef) (fun a _ ih n => @Nat.rec (fun _ => AV) a (fun m _ => ih m) n) l
def nF (args : List AV) : Tq := @Bool.rec (fun _ => Tq) (nY args 0 T0)
 ⟨⟨⟨lO args 0, lO args 1, lO args 2, lO args 3, lO args 4, lO args 5, lO args 6, lO args 7⟩, .all .undef, .all .undef, .all .undef, .all .undef, .all .undef, .all .undef, .all .undef⟩,
  .all (.all .undef), .all (.all .undef), .all (.all .undef), .all (.all .undef), .all (.all .undef), .all (.all .undef), .all (.all .undef)⟩ (Nat.ble (mn args) 8)
def ry (T : Tq) (H : Heap) (r : Nat × Option (Option Nat)) : Option AV := match r.2 with
 | none => some (pL r.1 T)
 | some k => match pL r.1 T with
  | .ptr b o => match H.get b with
   | some (.cells cs _ _) => pA cs o k
   | _ => none
  | _ => none
def nS (T : Tq) (H : Heap) (rs : List (Nat × Option (Option Nat))) : Option AV := match rs with
 | [(t, none)] => some (pL t T)
 | rs => do
  let vs ← rs.mapM (ry T H)
  match vs with
  | [v] => some v
  | vs => some (.tup vs)
def mO (fn : FFn) (a : iw) (args : List AV) (H : Heap) (k : KV) : R :=
 @Bool.rec (fun _ => R) none (fn.body a (nF args) H (fun T H => ga (nS T H fn.results) fun v => k v H) (fun j T H => @Bool.rec (fun _ => R) none (ga (nS T H fn.results) fun v => k v H) (Nat.beq j 0))) (Nat.beq (mn args) fn.nparams)
def Q4.get {α : Type} (t : Q (Q (Q (Q (Option α))))) (f : Nat) : Option α :=
 @Bool.rec (fun _ => Option α) none (Q.at (D8.of f) (Q.at (D8.of (Nat.div f 8)) (Q.at (D8.of (Nat.div f 64)) (Q.at (D8.of (Nat.div f 512)) t)))) (Nat.ble f 4095)
end
end Go.Proofs.YtopigipibioclaaGreatDoor.Ev
