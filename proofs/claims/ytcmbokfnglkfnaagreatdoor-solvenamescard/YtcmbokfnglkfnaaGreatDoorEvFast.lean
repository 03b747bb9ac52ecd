/- The evaluator, a part. -/
import Derived.Test.YtcmbokfnglkfnaaGreatDoorEvDefs
namespace Go.Proofs.YtcmbokfnglkfnaaGreatDoor.Ev
open Go
set_option linter.all false
noncomputable section
abbrev Tq := Q (Q (Q AV))
abbrev R := Option (AV × Heap)
abbrev K1 := Tq → Heap → R
abbrev KV := AV → Heap → R
abbrev KA := AV → R
abbrev CalK := Task → Heap → KV → R
abbrev Comp := CalK → Tq → Heap → K1 → (Nat → K1) → R
abbrev OpC := CalK → Nat → Tq → Heap → K1 → R
abbrev Gt := Tq → AV
abbrev Pt := AV → Tq → Tq
abbrev PV := Tq → (AV → R) → R
def Tq.get (n : Nat) (T : Tq) : AV := Q.at (D8.of n) (Q.at (D8.of (Nat.div n 8)) (Q.at (D8.of (Nat.div n 64)) T))
def Tq.set (n : Nat) (v : AV) (T : Tq) : Tq := Q.up (D8.of (Nat.div n 64)) (Q.up (D8.of (Nat.div n 8)) (Q.up (D8.of n) (fun _ => v))) T
def kc (v : AV) : Gt := fun _ => v
def np : Pt := fun _ T => T
def gtN (n : Nat) : Gt := if n < 512 then Tq.get n else kc .undef
def ptN (nt : Nat) (d : Option Nat) : Pt := match d with
 | none => np
 | some d => if d < nt then Tq.set d else np
def srcG : Src → Gt
 | .t n => gtN n
 | .c v => kc v
def evq (T : Tq) (s : Src) : AV := srcG s T
def optK {α : Type} (o : Option α) : (α → R) → R := @Option.rec α (fun _ => (α → R) → R) (fun _ => none) (fun v k => k v) o
def prK {α β : Type} (o : α × β) : (α → β → R) → R := @Prod.rec α β (fun _ => (α → β → R) → R) (fun a b k => k a b) o
/-! Operations. -/
def oq (a b : OpC) : OpC := fun cal x T H n => a cal x T H fun T H => b cal x T H n
def o0 : OpC := fun _ _ T H n => n T H
def oP (f : PV) (p : Pt) : OpC := fun _ _ T H n => f T fun v => n (p v T) H
def om (g : Gt) (p : Pt) : OpC := fun _ _ T H n => n (p (g T) T) H
def oe (op : AOp) (i : Nat) (p : Pt) : OpC := fun _ x T H n => optK (match pureA (evq T) op with | some v => some (v, H) | none => heapA (evq T) H (Nat.add x i) op) fun r => prK r fun v H' => n (p v T) H'
def ocz (f : Nat) (args : Tq → List AV) (p : Pt) : OpC := fun cal _ T H n => cal (.fn f (args T)) H fun v H' => n (p v T) H'
def oCall (f : Gt) (args : Tq → List AV) (p : Pt) : OpC := fun cal _ T H n => optK (aco (f T) (args T)) fun t => cal t H fun v H' => n (p v T) H'
def guardA (v : AV) : Bool → R → R → R := @AV.rec (fun _ => Bool → R → R → R) (fun _ => PUnit) (fun _ _ _ => none) (fun c => fun w y n => @Bool.rec (fun _ => R) (@Bool.rec (fun _ => R) y n w) (@Bool.rec (fun _ => R) n y w) c) (fun _ _ => fun _ _ _ => none) (fun _ => fun _ _ _ => none) (fun _ _ _ => none) (fun _ _ _ => none) (fun _ _ _ => none) (fun _ _ _ => none) (fun _ _ _ => none) (fun _ _ => fun _ _ _ => none) (fun l _ => fun _ _ n => @List.rec AV (fun _ => R) n (fun _ _ _ => none) l) (fun _ _ _ => fun _ _ _ => none) (fun _ _ _ => fun _ _ _ => none) (fun _ _ _ _ _ _ => fun _ _ _ => none) (fun _ _ => fun _ _ _ => none) (fun _ _ _ _ _ => fun _ _ _ => none) (fun _ _ _ => fun _ _ _ => none) (fun _ => fun _ _ _ => none) (fun _ => fun _ _ _ => none) PUnit.unit (fun _ _ _ _ => PUnit.unit) v
def og (g : Gt) (want : Bool) (p : Pt) (o : OpC) : OpC := fun cal x T H n => guardA (g T) want (o cal x T H n) (n (p (.tup []) T) H)
/-! Operations of their own: closed cases, as the kernel likes them. -/
def avInt (v : AV) : (IntKind → Int → R) → R := @AV.rec (fun _ => (IntKind → Int → R) → R) (fun _ => PUnit) (fun _ => none) (fun _ => fun _ => none) (fun a b => fun k => k a b) (fun _ => fun _ => none) (fun _ => none) (fun _ => none) (fun _ => none) (fun _ => none) (fun _ => none) (fun _ _ => fun _ => none) (fun _ _ => fun _ => none) (fun _ _ _ => fun _ => none) (fun _ _ _ => fun _ => none) (fun _ _ _ _ _ _ => fun _ => none) (fun _ _ => fun _ => none) (fun _ _ _ _ _ => fun _ => none) (fun _ _ _ => fun _ => none) (fun _ => fun _ => none) (fun _ => fun _ => none) PUnit.unit (fun _ _ _ _ => PUnit.unit) v
def avLen (v : AV) : KA → R := @AV.rec (fun _ => KA → R) (fun _ => PUnit) (fun _ => none) (fun _ => fun _ => none) (fun _ _ => fun _ => none) (fun _ => fun _ => none) (fun _ => none) (fun k => k (.int .i64 (.ofNat 0))) (fun _ => none) (fun _ => none) (fun _ => none) (fun _ _ => fun _ => none) (fun _ _ => fun _ => none) (fun _ n _ => fun k => k (.int .i64 (.ofNat n))) (fun _ _ _ => fun _ => none) (fun _ _ n _ _ _ => fun k => k (.int .i64 (.ofNat n))) (fun _ _ => fun _ => none) (fun _ _ _ _ _ => fun _ => none) (fun _ _ _ => fun _ => none) (fun _ => fun _ => none) (fun _ => fun _ => none) PUnit.unit (fun _ _ _ _ => PUnit.unit) v
def avNat (v : AV) : (Nat → R) → R := @AV.rec (fun _ => (Nat → R) → R) (fun _ => PUnit) (fun _ => none) (fun _ => fun _ => none) (fun _ b => fun k => @Int.rec (fun _ => R) (fun n => k n) (fun _ => none) b) (fun _ => fun _ => none) (fun _ => none) (fun _ => none) (fun _ => none) (fun _ => none) (fun _ => none) (fun _ _ => fun _ => none) (fun _ _ => fun _ => none) (fun _ _ _ => fun _ => none) (fun _ _ _ => fun _ => none) (fun _ _ _ _ _ _ => fun _ => none) (fun _ _ => fun _ => none) (fun _ _ _ _ _ => fun _ => none) (fun _ _ _ => fun _ => none) (fun _ => fun _ => none) (fun _ => fun _ => none) PUnit.unit (fun _ _ _ _ => PUnit.unit) v
def avIdx (v : AV) : Nat → Nat → KA → R := @AV.rec (fun _ => Nat → Nat → KA → R) (fun _ => PUnit) (fun _ _ _ => none) (fun _ => fun _ _ _ => none) (fun _ _ => fun _ _ _ => none) (fun _ => fun _ _ _ => none) (fun _ _ _ => none) (fun _ _ _ => none) (fun _ _ _ => none) (fun _ _ _ => none) (fun _ _ _ => none) (fun _ _ => fun _ _ _ => none) (fun _ _ => fun _ _ _ => none) (fun cs n _ => fun size i k => @Bool.rec (fun _ => R) none (k (.dp cs (Nat.mul i size))) (Nat.ble (Nat.succ i) n)) (fun _ _ _ => fun _ _ _ => none) (fun b off n _ sz _ => fun size i k => @Bool.rec (fun _ => R) none (@Bool.rec (fun _ => R) none (k (.ptr b (Nat.add off (Nat.mul i size)))) (Nat.beq sz size)) (Nat.ble (Nat.succ i) n)) (fun _ _ => fun _ _ _ => none) (fun _ _ _ _ _ => fun _ _ _ => none) (fun _ _ _ => fun _ _ _ => none) (fun _ => fun _ _ _ => none) (fun _ => fun _ _ _ => none) PUnit.unit (fun _ _ _ _ => PUnit.unit) v
def avFA (v : AV) : Nat → KA → R := @AV.rec (fun _ => Nat → KA → R) (fun _ => PUnit) (fun _ _ => none) (fun _ => fun _ _ => none) (fun _ _ => fun _ _ => none) (fun _ => fun _ _ => none) (fun _ _ => none) (fun _ _ => none) (fun _ _ => none) (fun _ _ => none) (fun _ _ => none) (fun _ _ => fun _ _ => none) (fun _ _ => fun _ _ => none) (fun _ _ _ => fun _ _ => none) (fun cs o _ => fun off k => k (.dp cs (Nat.add o off))) (fun _ _ _ _ _ _ => fun _ _ => none) (fun b o => fun off k => k (.ptr b (Nat.add o off))) (fun _ _ _ _ _ => fun _ _ => none) (fun _ _ _ => fun _ _ => none) (fun _ => fun _ _ => none) (fun _ => fun _ _ => none) PUnit.unit (fun _ _ _ _ => PUnit.unit) v
def nthK (l : List AV) : Nat → KA → R := @List.rec AV (fun _ => Nat → KA → R) (fun _ _ => none) (fun a _ ih n k => @Nat.rec (fun _ => R) (k a) (fun m _ => ih m k) n) l
def avTup (v : AV) : Nat → KA → R := @AV.rec (fun _ => Nat → KA → R) (fun _ => PUnit) (fun _ _ => none) (fun _ => fun _ _ => none) (fun _ _ => fun _ _ => none) (fun _ => fun _ _ => none) (fun _ _ => none) (fun _ _ => none) (fun _ _ => none) (fun _ _ => none) (fun _ _ => none) (fun _ _ => fun _ _ => none) (fun vs _ => nthK vs) (fun _ _ _ => fun _ _ => none) (fun _ _ _ => fun _ _ => none) (fun _ _ _ _ _ _ => fun _ _ => none) (fun _ _ => fun _ _ => none) (fun _ _ _ _ _ => fun _ _ => none) (fun _ _ _ => fun _ _ => none) (fun _ => fun _ _ => none) (fun _ => fun _ _ => none) PUnit.unit (fun _ _ _ _ => PUnit.unit) v
def adv (e : Ent) : (List AV → Nat → Bool → R) → R := @Ent.rec (fun _ => (List AV → Nat → Bool → R) → R) (fun cs ty rw k => k cs ty rw) (fun _ _ => none) (fun _ _ _ _ _ _ _ => none) (fun _ _ _ => none) (fun _ _ => none) e
def avLoad (v : AV) : Heap → KA → R := @AV.rec (fun _ => Heap → KA → R) (fun _ => PUnit) (fun _ _ => none) (fun _ => fun _ _ => none) (fun _ _ => fun _ _ => none) (fun _ => fun _ _ => none) (fun _ _ => none) (fun _ _ => none) (fun _ _ => none) (fun _ _ => none) (fun _ _ => none) (fun _ _ => fun _ _ => none) (fun _ _ => fun _ _ => none) (fun _ _ _ => fun _ _ => none) (fun cs o _ => fun _ k => nthK cs o k) (fun _ _ _ _ _ _ => fun _ _ => none) (fun b o => fun H k => optK (H.get b) fun e => adv e fun cs _ _ => nthK cs o k) (fun _ _ _ _ _ => fun _ _ => none) (fun _ _ _ => fun _ _ => none) (fun _ => fun _ _ => none) (fun _ => fun _ _ => none) PUnit.unit (fun _ _ _ _ => PUnit.unit) v
def lenF (l : List AV) : Nat := @List.rec AV (fun _ => Nat) 0 (fun _ _ n => Nat.succ n) l
def setF (l : List AV) : Nat → AV → List AV := @List.rec AV (fun _ => Nat → AV → List AV) (fun _ _ => []) (fun a l ih n v => @Nat.rec (fun _ => List AV) (v :: l) (fun m _ => a :: ih m v) n) l
def oneF (v : AV) : Bool := @AV.rec (fun _ => Bool) (fun _ => PUnit) (false) (fun _ => true) (fun _ _ => true) (fun _ => true) (true) (true) (true) (true) (true) (fun _ _ => false) (fun _ _ => false) (fun _ _ _ => true) (fun _ _ _ => true) (fun _ _ _ _ _ _ => true) (fun _ _ => true) (fun _ _ _ _ _ => true) (fun _ _ _ => true) (fun _ => true) (fun _ => true) PUnit.unit (fun _ _ _ _ => PUnit.unit) v
def ao9 (v : AV) : AV → Heap → (Heap → R) → R := @AV.rec (fun _ => AV → Heap → (Heap → R) → R) (fun _ => PUnit) (fun _ _ _ => none) (fun _ => fun _ _ _ => none) (fun _ _ => fun _ _ _ => none) (fun _ => fun _ _ _ => none) (fun _ _ _ => none) (fun _ _ _ => none) (fun _ _ _ => none) (fun _ _ _ => none) (fun _ _ _ => none) (fun _ _ => fun _ _ _ => none) (fun _ _ => fun _ _ _ => none) (fun _ _ _ => fun _ _ _ => none) (fun _ _ _ => fun _ _ _ => none) (fun _ _ _ _ _ _ => fun _ _ _ => none) (fun b o => fun x H k => optK (H.get b) fun e => adv e fun cs ty rw => @Bool.rec (fun _ => R) none (@Bool.rec (fun _ => R) none (@Bool.rec (fun _ => R) none (k (H.put b (.cells (setF cs o x) ty true))) (Nat.ble (Nat.succ o) (lenF cs))) (oneF x)) rw) (fun _ _ _ _ _ => fun _ _ _ => none) (fun _ _ _ => fun _ _ _ => none) (fun _ => fun _ _ _ => none) (fun _ => fun _ _ _ => none) PUnit.unit (fun _ _ _ _ => PUnit.unit) v
def kindK (a b : IntKind) : R → R := @IntKind.rec (fun _ => IntKind → R → R)
 (fun b r => @IntKind.rec (fun _ => R) r none none none none none none none b)
 (fun b r => @IntKind.rec (fun _ => R) none r none none none none none none b)
 (fun b r => @IntKind.rec (fun _ => R) none none r none none none none none b)
 (fun b r => @IntKind.rec (fun _ => R) none none none r none none none none b)
 (fun b r => @IntKind.rec (fun _ => R) none none none none r none none none b)
 (fun b r => @IntKind.rec (fun _ => R) none none none none none r none none b)
 (fun b r => @IntKind.rec (fun _ => R) none none none none none none r none b)
 (fun b r => @IntKind.rec (fun _ => R) none none none none none none none r b)
 a b
def addI (a : Int) : Int → Int := @Int.rec (fun _ => Int → Int) (fun m b => @Int.rec (fun _ => Int) (fun n => .ofNat (Nat.add m n)) (fun n => Int.add (.ofNat m) (.negSucc n)) b) (fun m b => Int.add (.negSucc m) b) a
def subI (a : Int) : Int → Int := @Int.rec (fun _ => Int → Int) (fun m b => @Int.rec (fun _ => Int) (fun n => @Bool.rec (fun _ => Int) (Int.sub (.ofNat m) (.ofNat n)) (.ofNat (Nat.sub m n)) (Nat.ble n m)) (fun n => Int.sub (.ofNat m) (.negSucc n)) b) (fun m b => Int.sub (.negSucc m) b) a
def mulI (a : Int) : Int → Int := @Int.rec (fun _ => Int → Int) (fun m b => @Int.rec (fun _ => Int) (fun n => .ofNat (Nat.mul m n)) (fun n => Int.mul (.ofNat m) (.negSucc n)) b) (fun m b => Int.mul (.negSucc m) b) a
def ltI (a : Int) : Int → Bool := @Int.rec (fun _ => Int → Bool) (fun m b => @Int.rec (fun _ => Bool) (fun n => Nat.ble (Nat.succ m) n) (fun _ => false) b) (fun m b => @Int.rec (fun _ => Bool) (fun _ => true) (fun n => Nat.ble (Nat.succ n) m) b) a
def eqI (a : Int) : Int → Bool := @Int.rec (fun _ => Int → Bool) (fun m b => @Int.rec (fun _ => Bool) (fun n => Nat.beq m n) (fun _ => false) b) (fun m b => @Int.rec (fun _ => Bool) (fun _ => false) (fun n => Nat.beq m n) b) a
def notF (b : Bool) : Bool := @Bool.rec (fun _ => Bool) true false b
def wrapI (k : IntKind) : Int → Int := @IntKind.rec (fun _ => Int → Int) (IntKind.wrap .i8) (IntKind.wrap .i16) (IntKind.wrap .i32)
 (fun x => @Int.rec (fun _ => Int) (fun n => @Bool.rec (fun _ => Int) (IntKind.wrap .i64 (.ofNat n)) (.ofNat n) (Nat.ble n 9223372036854775807)) (fun n => @Bool.rec (fun _ => Int) (IntKind.wrap .i64 (.negSucc n)) (.negSucc n) (Nat.ble n 9223372036854775807)) x)
 (IntKind.wrap .u8) (IntKind.wrap .u16) (IntKind.wrap .u32)
 (fun x => @Int.rec (fun _ => Int) (fun n => .ofNat (Nat.mod n 18446744073709551616)) (fun n => IntKind.wrap .u64 (.negSucc n)) x) k
def vInt (f : IntKind → Int → Int → AV) (g h : Gt) : PV := fun T k => avInt (g T) fun a x => avInt (h T) fun b y => kindK a b (k (f a x y))
def vAdd (g h : Gt) : PV := vInt (fun k x y => .int k (wrapI k (addI x y))) g h
def vSub (g h : Gt) : PV := vInt (fun k x y => .int k (wrapI k (subI x y))) g h
def vMul (g h : Gt) : PV := vInt (fun k x y => .int k (wrapI k (mulI x y))) g h
def vLss (g h : Gt) : PV := vInt (fun _ x y => .bool (ltI x y)) g h
def vGtr (g h : Gt) : PV := vInt (fun _ x y => .bool (ltI y x)) g h
def vLeq (g h : Gt) : PV := vInt (fun _ x y => .bool (notF (ltI y x))) g h
def vGeq (g h : Gt) : PV := vInt (fun _ x y => .bool (notF (ltI x y))) g h
def vEql (g h : Gt) : PV := vInt (fun _ x y => .bool (eqI x y)) g h
def vNeq (g h : Gt) : PV := vInt (fun _ x y => .bool (notF (eqI x y))) g h
def vLen (g : Gt) : PV := fun T k => avLen (g T) k
def vIdx (size : Nat) (g h : Gt) : PV := fun T k => avNat (h T) fun i => avIdx (g T) size i k
def vFA (off : Nat) (g : Gt) : PV := fun T k => avFA (g T) off k
def vExt (i : Nat) (g : Gt) : PV := fun T k => avTup (g T) i k
def ol (g : Gt) (p : Pt) : OpC := fun _ _ T H n => avLoad (g T) H fun v => n (p v T) H
def os1 (g h : Gt) (p : Pt) : OpC := fun _ _ T H n => ao9 (g T) (h T) H fun H' => n (p .undef T) H'
def oa (ty : Nat) (zero : List AV) (i : Nat) (p : Pt) : OpC := fun _ x T H n => n (p (.ptr (Nat.add x i) 0) T) (H.put (Nat.add x i) (.cells zero ty true))
def condA (v : AV) : R → R → R := @AV.rec (fun _ => R → R → R) (fun _ => PUnit) (fun _ _ => none) (fun c => fun a b => @Bool.rec (fun _ => R) b a c) (fun _ _ => fun _ _ => none) (fun _ => fun _ _ => none) (fun _ _ => none) (fun _ _ => none) (fun _ _ => none) (fun _ _ => none) (fun _ _ => none) (fun _ _ => fun _ _ => none) (fun _ _ => fun _ _ => none) (fun _ _ _ => fun _ _ => none) (fun _ _ _ => fun _ _ => none) (fun _ _ _ _ _ _ => fun _ _ => none) (fun _ _ => fun _ _ => none) (fun _ _ _ _ _ => fun _ _ => none) (fun _ _ _ => fun _ _ => none) (fun _ => fun _ _ => none) (fun _ => fun _ _ => none) PUnit.unit (fun _ _ _ _ => PUnit.unit) v
def vPick (c a b : Gt) : PV := fun T k => condA (c T) (k (a T)) (k (b T))
def dropF (n : Nat) : List AV → List AV := @Nat.rec (fun _ => List AV → List AV) (fun l => l) (fun _ ih l => @List.rec AV (fun _ => List AV) [] (fun _ tl _ => ih tl) l) n
def takeF (n : Nat) : List AV → List AV := @Nat.rec (fun _ => List AV → List AV) (fun _ => []) (fun _ ih l => @List.rec AV (fun _ => List AV) [] (fun a tl _ => a :: ih tl) l) n
def appF (l : List AV) : List AV → List AV := @List.rec AV (fun _ => List AV → List AV) (fun m => m) (fun a _ ih m => a :: ih m) l
def ama (l : List AV) : Bool := @List.rec AV (fun _ => Bool) true (fun a _ ih => @Bool.rec (fun _ => Bool) false ih (oneF a)) l
def agy (v : AV) : List AV := @AV.rec (fun _ => AV → List AV) (fun _ => PUnit) (fun v => [v]) (fun _ => fun v => [v]) (fun _ _ => fun v => [v]) (fun _ => fun v => [v]) (fun v => [v]) (fun v => [v]) (fun v => [v]) (fun v => [v]) (fun v => [v]) (fun cs _ => fun _ => cs) (fun _ _ => fun v => [v]) (fun _ _ _ => fun v => [v]) (fun _ _ _ => fun v => [v]) (fun _ _ _ _ _ _ => fun v => [v]) (fun _ _ => fun v => [v]) (fun _ _ _ _ _ => fun v => [v]) (fun _ _ _ => fun v => [v]) (fun _ => fun v => [v]) (fun _ => fun v => [v]) PUnit.unit (fun _ _ _ _ => PUnit.unit) v v
def takeK (n : Nat) (cs : List AV) (o : Nat) (k : KA) : R := @Bool.rec (fun _ => R) none (k (.agg (takeF n (dropF o cs)))) (Nat.ble (Nat.add o n) (lenF cs))
def ad8 (n o : Nat) (vc cs : List AV) (k : List AV → R) : R := @Bool.rec (fun _ => R) none (@Bool.rec (fun _ => R) none (@Bool.rec (fun _ => R) none (k (appF (takeF o cs) (appF vc (dropF (Nat.add o n) cs)))) (ama vc)) (Nat.ble (Nat.add o n) (lenF cs))) (Nat.beq (lenF vc) n)
def ao8 (v : AV) : Nat → Heap → KA → R := @AV.rec (fun _ => Nat → Heap → KA → R) (fun _ => PUnit) (fun _ _ _ => none) (fun _ => fun _ _ _ => none) (fun _ _ => fun _ _ _ => none) (fun _ => fun _ _ _ => none) (fun _ _ _ => none) (fun _ _ _ => none) (fun _ _ _ => none) (fun _ _ _ => none) (fun _ _ _ => none) (fun _ _ => fun _ _ _ => none) (fun _ _ => fun _ _ _ => none) (fun _ _ _ => fun _ _ _ => none) (fun cs o _ => fun m _ k => takeK m cs o k) (fun _ _ _ _ _ _ => fun _ _ _ => none) (fun b o => fun m H k => optK (H.get b) fun e => adv e fun cs _ _ => takeK m cs o k) (fun _ _ _ _ _ => fun _ _ _ => none) (fun _ _ _ => fun _ _ _ => none) (fun _ => fun _ _ _ => none) (fun _ => fun _ _ _ => none) PUnit.unit (fun _ _ _ _ => PUnit.unit) v
def amb (v : AV) : Nat → AV → Heap → (Heap → R) → R := @AV.rec (fun _ => Nat → AV → Heap → (Heap → R) → R) (fun _ => PUnit) (fun _ _ _ _ => none) (fun _ => fun _ _ _ _ => none) (fun _ _ => fun _ _ _ _ => none) (fun _ => fun _ _ _ _ => none) (fun _ _ _ _ => none) (fun _ _ _ _ => none) (fun _ _ _ _ => none) (fun _ _ _ _ => none) (fun _ _ _ _ => none) (fun _ _ => fun _ _ _ _ => none) (fun _ _ => fun _ _ _ _ => none) (fun _ _ _ => fun _ _ _ _ => none) (fun _ _ _ => fun _ _ _ _ => none) (fun _ _ _ _ _ _ => fun _ _ _ _ => none) (fun b o => fun m x H k => optK (H.get b) fun e => adv e fun cs ty rw => @Bool.rec (fun _ => R) none (ad8 m o (agy x) cs fun cs => k (H.put b (.cells cs ty true))) rw) (fun _ _ _ _ _ => fun _ _ _ _ => none) (fun _ _ _ => fun _ _ _ _ => none) (fun _ => fun _ _ _ _ => none) (fun _ => fun _ _ _ _ => none) PUnit.unit (fun _ _ _ _ => PUnit.unit) v
def onz (m : Nat) (g : Gt) (p : Pt) : OpC := fun _ _ T H n => ao8 (g T) m H fun v => n (p v T) H
def ot (m : Nat) (g h : Gt) (p : Pt) : OpC := fun _ _ T H n => amb (g T) m (h T) H fun H' => n (p .undef T) H'
def ox (ty : Nat) (g : Gt) (i : Nat) (p : Pt) : OpC := fun _ x T H n => @Bool.rec (fun _ => R) none (n (p (.ptr (Nat.add x i) 0) T) (H.put (Nat.add x i) (.cells (agy (g T)) ty true))) (ama (agy (g T)))
def fillK (ps : List ((Nat × Nat) × Gt)) : Tq → List AV → (List AV → R) → R := @List.rec ((Nat × Nat) × Gt) (fun _ => Tq → List AV → (List AV → R) → R) (fun _ cs k => k cs) (fun p _ ih T cs k => ad8 p.1.2 p.1.1 (agy (p.2 T)) cs fun cs => ih T cs k) ps
def vbz (zero : List AV) (ps : List ((Nat × Nat) × Gt)) : PV := fun T k => fillK ps T zero fun cs => k (.agg cs)
def ob (ty size : Nat) (zeros : List AV) (len : Nat) (ps : List ((Nat × Nat) × Gt)) (i : Nat) (p : Pt) : OpC := fun _ x T H n => fillK ps T zeros fun cs => n (p (.own (Nat.add x i) 0 len len size true) T) (H.put (Nat.add x i) (.cells cs ty true))
/-! Regions whose order is open: the heaps behind each act (the last one first), the new blocks (the last one first). -/
abbrev DK := Tq → List Heap → List (Option Ent) → R
abbrev DOpC := CalK → Nat → Tq → List Heap → List (Option Ent) → DK → R
abbrev CKC := CalK → Nat → Tq → List Heap → List (Option Ent) → R → R
def nthH (Cs : List Heap) : Nat → Heap := @List.rec Heap (fun _ => Nat → Heap) (fun _ => default) (fun a _ ih n => @Nat.rec (fun _ => Heap) a (fun m _ => ih m) n) Cs
def nthE (Es : List (Option Ent)) : Nat → Option Ent := @List.rec (Option Ent) (fun _ => Nat → Option Ent) (fun _ => none) (fun a _ ih n => @Nat.rec (fun _ => Option Ent) a (fun m _ => ih m) n) Es
def addF (x : Nat) (Es : List (Option Ent)) (adds : List (Nat × Nat)) : Heap → Heap :=
 @List.rec (Nat × Nat) (fun _ => Heap → Heap) (fun H => H) (fun p _ ih H => ih (@Option.rec Ent (fun _ => Heap) H (fun e => H.put (Nat.add x p.1) e) (nthE Es p.2))) adds
def selH (k : Nat) (adds : List (Nat × Nat)) (x : Nat) (Cs : List Heap) (Es : List (Option Ent)) : Heap := addF x Es adds (nthH Cs k)
def dl (k : Nat) (adds : List (Nat × Nat)) (o : OpC) : DOpC := fun cal x T Cs Es n => o cal x T (selH k adds x Cs Es) fun T' _ => n T' Cs (none :: Es)
def dm (i : Nat) (o : OpC) : DOpC := fun cal x T Cs Es n => o cal x T (Heap.nil 0) fun T' H' => n T' Cs (H'.get (Nat.add x i) :: Es)
def da (k : Nat) (adds : List (Nat × Nat)) (o : OpC) : DOpC := fun cal x T Cs Es n => o cal x T (selH k adds x Cs Es) fun T' H' => n T' (H' :: Cs) (none :: Es)
def dq (a b : DOpC) : DOpC := fun cal x T Cs Es n => a cal x T Cs Es fun T Cs Es => b cal x T Cs Es n
def d0n : DOpC := fun _ _ T Cs Es n => n T Cs Es
def cn : CKC := fun _ _ _ _ _ r => r
def c1z (g : Gt) (k : Nat) (adds : List (Nat × Nat)) (o : OpC) : CKC := fun cal x T Cs Es r => o cal x T (selH k adds x Cs Es) fun T' _ => @Bool.rec (fun _ => R) none r (AV.beq (g T') (g T))
def csz (a b : CKC) : CKC := fun cal x T Cs Es r => a cal x T Cs Es (b cal x T Cs Es r)
def cDrw (len : Nat) (d : DOpC) (c : CKC) (late : List (Nat × Nat)) : Comp := fun cal T H n _ => d cal H.next T [⟨Nat.add H.next len, H.tr, H.lim, H.ovr⟩] [] fun T Cs Es => c cal H.next T Cs Es (n T (addF H.next Es late (nthH Cs 0)))
/-! Code. -/
def cq (a b : Comp) : Comp := fun cal T H n e => a cal T H (fun T H => b cal T H n e) e
def ck : Comp := fun _ T H n _ => n T H
def crz (len : Nat) (o : OpC) : Comp := fun cal T H n _ => o cal H.next T ⟨Nat.add H.next len, H.tr, H.lim, H.ovr⟩ n
def ccz (g : Gt) (a b : Comp) : Comp := fun cal T H n e => condA (g T) (a cal T H n e) (b cal T H n e)
def cbz (i : Nat) (a : Comp) : Comp := fun cal T H n e => a cal T H n (fun j => @Bool.rec (fun _ => K1) (e j) n (Nat.beq j i))
def cScope (a : Comp) : Comp := fun cal T H n e => a cal T H n (fun j => @Bool.rec (fun _ => K1) (e j) (@Bool.rec (fun _ => K1) (fun _ _ => none) (e j) (Nat.beq j 0)) (Nat.beq (Nat.mod j 2) 0))
def cx (i : Nat) : Comp := fun _ T H _ e => e i T H
def clz (m : Nat) (a : Comp) : Comp := fun cal T H _ e => @Nat.rec (fun _ => K1) (fun _ _ => none) (fun _ ih T H => @Bool.rec (fun _ => R) (a cal T H ih e) (a cal T H ih e) (Nat.ble H.next 0)) m T H
def ae2 : Ex → Nat
 | .nrm => 0
 | .ret => 0
 | .exit i => 2 * i + 1
 | .goto l => 2 * l + 2
def kont (n : K1) (e : Nat → K1) : Ex → K1
 | .nrm => n
 | x => e (ae2 x)
def toL (nt : Nat) (T : Tq) : Tm := (List.range nt).map fun n => Tq.get n T
def ofLF : List AV → Nat → Tq → Tq
 | [], _, T => T
 | v :: l, i, T => ofLF l (i + 1) (Tq.set i v T)
def T0 : Tq := .all (.all (.all .undef))
def ofL (t : Tm) : Tq := ofLF t 0 T0
def calD (cal : CalK) : Cal := fun t H => cal t H fun v H => some (v, H)
def cSlow (m : Nat) (rd : Bool) (nt : Nat) (c : ACode) : Comp := fun cal T H n e => optK (codeA (calD cal) m rd c (toL nt T) H) fun r => kont n e r.1 (ofL r.2.1) r.2.2
/-! What a piece of code is. -/
def aod (f : Src) (args : Tq → List AV) (p : Pt) : OpC := match f with
 | .c (.fn (.func f) [] []) => ocz f args p
 | f => oCall (srcG f) args p
def amc (i : Nat) (p : Pt) : AOp → OpC
 | .mv x => om (srcG x) p
 | .bin op .int x y => match op with
  | .add => oP (vAdd (srcG x) (srcG y)) p
  | .sub => oP (vSub (srcG x) (srcG y)) p
  | .mul => oP (vMul (srcG x) (srcG y)) p
  | .lss => oP (vLss (srcG x) (srcG y)) p
  | .gtr => oP (vGtr (srcG x) (srcG y)) p
  | .leq => oP (vLeq (srcG x) (srcG y)) p
  | .geq => oP (vGeq (srcG x) (srcG y)) p
  | .eql => oP (vEql (srcG x) (srcG y)) p
  | .neq => oP (vNeq (srcG x) (srcG y)) p
  | op => oe (.bin op .int x y) i p
 | .len x => oP (vLen (srcG x)) p
 | .indexAddr size x j => oP (vIdx size (srcG x) (srcG j)) p
 | .fieldAddr off x => oP (vFA off (srcG x)) p
 | .extract j x => oP (vExt j (srcG x)) p
 | .load none x => ol (srcG x) p
 | .store 1 x v => os1 (srcG x) (srcG v) p
 | .alloc ty zero => oa ty zero i p
 | .pick c a b => oP (vPick (srcG c) (srcG a) (srcG b)) p
 | .load (some m) x => onz m (srcG x) p
 | .store m x v => ot m (srcG x) (srcG v) p
 | .box ty x => ox ty (srcG x) i p
 | .build zero ps => oP (vbz zero (ps.map fun q => (q.1, srcG q.2))) p
 | .buildSlice ty size zeros len ps => ob ty size zeros len (ps.map fun q => (q.1, srcG q.2)) i p
 | .call f args => aod f (fun T => args.map fun s => srcG s T) p
 | op => oe op i p
def denOp (nt i : Nat) (o : ROp) : OpC := match o.guard with
 | none => amc i (ptN nt o.dst) o.op
 | some (t, want) => og (gtN t) want (ptN nt o.dst) (amc i (ptN nt o.dst) o.op)
def als (nt : Nat) : Nat → List ROp → OpC
 | _, [] => o0
 | i, [o] => denOp nt i o
 | i, o :: os => oq (denOp nt i o) (als nt (i + 1) os)
def aa2 : List DOp → Nat → Option Nat
 | [], _ => none
 | d :: ds, n => match aa2 ds n with
  | some j => some (j + 1)
  | none => if d.dst = some n then some 0 else none
def useOf : List (Nat × Option Nat) → Nat → Option (Option Nat)
 | [], _ => none
 | u :: us, n => match useOf us n with
  | some x => some x
  | none => if u.1 = n then some u.2 else none
def DOp.slots (d : DOp) : List Nat := d.op.slots ++ (match d.guard with | some (t, _) => [t] | none => [])
def okP (acts i : Nat) (p : Nat × List Nat) : Bool := Nat.ble p.1 acts && p.2.all fun a => Nat.blt a i
def okD1 (nt : Nat) (ds : List DOp) (total acts i : Nat) (d : DOp) : Bool :=
 (d.slots.all fun n => Nat.blt n nt && decide (useOf d.uses n = some (aa2 (ds.take i) n))) &&
 match d.cls with
 | 0 => if d.op.looks = true then match d.looks with
   | [] => false
   | p :: ps => okP acts i p && (ps.isEmpty || ((ps.all fun p => okP total ds.length p) && (d.slots.all fun n => decide (aa2 ds n = aa2 (ds.take i) n)) &&
     (match d.dst with | some x => Nat.blt x nt && decide (aa2 ds x = some i) | none => false)))
  else d.op.isPure
 | 1 => d.op.makes
 | 2 => match d.looks with
  | [p] => okP acts i p
  | _ => false
 | _ => false
def okDs (nt : Nat) (ds : List DOp) (total : Nat) : Nat → Nat → List DOp → Bool
 | _, _, [] => true
 | acts, i, d :: rest => okD1 nt ds total acts i d && okDs nt ds total (if d.cls = 2 then acts + 1 else acts) (i + 1) rest
def actsN (ds : List DOp) : Nat := (ds.filter fun d => d.cls == 2).length
def aju (nt : Nat) (ds : List DOp) (late : List Nat) : Bool := okDs nt ds (actsN ds) 0 0 ds && late.all fun a => Nat.blt a ds.length
def abp (i : Nat) (adds : List Nat) : List (Nat × Nat) := adds.map fun a => (a, i - 1 - a)
def denD1 (nt acts i : Nat) (d : DOp) : DOpC := match d.cls with
 | 0 => if d.op.looks = true then match d.looks with
   | [] => d0n
   | p :: _ => dl (acts - p.1) (abp i p.2) (denOp nt i ⟨d.dst, d.op, d.guard⟩)
  else dl 0 [] (denOp nt i ⟨d.dst, d.op, d.guard⟩)
 | 1 => dm i (denOp nt i ⟨d.dst, d.op, d.guard⟩)
 | _ => match d.looks with
  | [p] => da (acts - p.1) (abp i p.2) (denOp nt i ⟨d.dst, d.op, d.guard⟩)
  | _ => d0n
def denD (nt : Nat) : Nat → Nat → List DOp → DOpC
 | _, _, [] => d0n
 | acts, i, d :: ds => dq (denD1 nt acts i d) (denD nt (if d.cls = 2 then acts + 1 else acts) (i + 1) ds)
def ahq (nt total len i : Nat) (d : DOp) : List (Nat × List Nat) → CKC → CKC
 | [], c => c
 | p :: ps, c => csz (c1z (gtN (d.dst.getD 0)) (total - p.1) (abp len p.2) (denOp nt i ⟨d.dst, d.op, d.guard⟩)) (ahq nt total len i d ps c)
def denCk (nt total len : Nat) : Nat → List DOp → CKC
 | _, [] => cn
 | i, d :: ds => if d.cls = 0 ∧ d.op.looks = true then ahq nt total len i d d.looks.tail (denCk nt total len (i + 1) ds) else denCk nt total len (i + 1) ds
def ak6 (nt : Nat) (ds : List DOp) (late : List Nat) : Comp := cDrw ds.length (denD nt 0 0 ds) (denCk nt (actsN ds) ds.length 0 ds) (abp ds.length late)
def den (m : Nat) (rd : Bool) (nt : Nat) : ACode → Comp
 | .skip => ck
 | .region ops => crz ops.length (als nt 0 ops)
 | .seq a b => cq (den m rd nt a) (den m rd nt b)
 | .cond c a b => ccz (srcG c) (den m rd nt a) (den m rd nt b)
 | .block id a => cbz (2 * id + 1) (den m rd nt a)
 | .loop a => clz m (den m rd nt a)
 | .exit i => cx (2 * i + 1)
 | .goto l => cx (2 * l + 2)
 | .ret => cx 0
 | .scope a => cScope (den m rd nt a)
 | .draw ds late => if aju nt ds late = true then ak6 nt ds late else cSlow m rd nt (.draw ds late)
 | c => cSlow m rd nt c
/-! Functions. -/
structure FFn where
 nparams : Nat
 ntmps : Nat
 results : List (Nat × Option (Option Nat))
 body : Comp
def nthU (l : List AV) : Nat → AV := @List.rec AV (fun _ => Nat → AV) (fun _ => .undef) (fun a _ ih n => @Nat.rec (fun _ => AV) a (fun m _ => ih m) n) l
def argsT (args : List AV) : Tq := @Bool.rec (fun _ => Tq) (ofLF args 0 T0)
 ⟨⟨⟨nthU args 0, nthU args 1, nthU args 2, nthU args 3, nthU args 4, nthU args 5, nthU args 6, nthU args 7⟩, .all .undef, .all .undef, .all .undef, .all .undef, .all .undef, .all .undef, .all .undef⟩,
  .all (.all .undef), .all (.all .undef), .all (.all .undef), .all (.all .undef), .all (.all .undef), .all (.all .undef), .all (.all .undef)⟩ (Nat.ble (lenF args) 8)
def resF1 (T : Tq) (H : Heap) (r : Nat × Option (Option Nat)) : Option AV := match r.2 with
 | none => some (gtN r.1 T)
 | some k => match gtN r.1 T with
  | .ptr b o => match H.get b with
   | some (.cells cs _ _) => abv cs o k
   | _ => none
  | _ => none
def resF (T : Tq) (H : Heap) (rs : List (Nat × Option (Option Nat))) : Option AV := match rs with
 | [(t, none)] => some (gtN t T)
 | rs => do
  let vs ← rs.mapM (resF1 T H)
  match vs with
  | [v] => some v
  | vs => some (.tup vs)
def runFF (fn : FFn) (cal : CalK) (args : List AV) (H : Heap) (k : KV) : R :=
 @Bool.rec (fun _ => R) none (fn.body cal (argsT args) H (fun T H => optK (resF T H fn.results) fun v => k v H) (fun j T H => @Bool.rec (fun _ => R) none (optK (resF T H fn.results) fun v => k v H) (Nat.beq j 0))) (Nat.beq (lenF args) fn.nparams)
def Q4.get {α : Type} (t : Q (Q (Q (Q (Option α))))) (f : Nat) : Option α :=
 @Bool.rec (fun _ => Option α) none (Q.at (D8.of f) (Q.at (D8.of (Nat.div f 8)) (Q.at (D8.of (Nat.div f 64)) (Q.at (D8.of (Nat.div f 512)) t)))) (Nat.ble f 4095)
end
end Go.Proofs.YtcmbokfnglkfnaaGreatDoor.Ev
