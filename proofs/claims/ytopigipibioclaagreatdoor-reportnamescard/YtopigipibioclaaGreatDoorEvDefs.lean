/- The evaluator, a part. -/
import Derived.WalkKit
import Derived.RangeFuncIn
import GoSem.Core.Utf8
namespace Go.Proofs.YtopigipibioclaaGreatDoor.Ev
open Go
set_option linter.all false
inductive AV where
 | undef
 | bool (b : Bool)
 | int (k : IntKind) (n : Int)
 | str (s : ByteArray)
 | nilPtr | nilSl | nilFn | nilIf | nilMap
 | agg (cs : List AV)
 | tup (vs : List AV)
 | sl (cells : List AV) (n : Nat)
 | dp (cells : List AV) (off : Nat)
 | own (b off n c sz : Nat) (ex : Bool)      -- n elements, of sz cells; a capacity of c, or (not ex) of c at least
 | ptr (b off : Nat)
 | fn (f : Fn) (first captured : List AV)
 | ifc (t : Nat) (v : AV)
 | map (b : Nat)
 | loopv (b : Nat)
 deriving Inhabited
inductive Src where
 | t (n : Nat)
 | c (v : AV)
 deriving Inhabited
inductive BK where
 | int | bool | str | sl | ifc
 deriving Inhabited
inductive AOp where
 | mv (x : Src)
 | pick (c a b : Src)
 | alloc (ty : Nat) (zero : List AV)
 | box (ty : Nat) (x : Src)
 | build (zero : List AV) (parts : List ((Nat × Nat) × Src))
 | buildSlice (ty size : Nat) (zeros : List AV) (len : Nat) (parts : List ((Nat × Nat) × Src))
 | load (k : Option Nat) (x : Src)
 | store (n : Nat) (x v : Src)
 | nilCheck (x : Src)
 | bin (op : BinOp) (kd : BK) (x y : Src)
 | eqAgg (neg : Bool) (n : Nat) (x y : Src)
 | un (op : UnOp) (x : Src)
 | conv (k : IntKind) (x : Src)
 | strId (x : Src)
 | iface (ty : Nat) (x : Src)
 | mkfn (fn : Fn) (first captured : List Src)
 | mkmap
 | mksl (ty size bytes : Nat) (zero : List AV) (l c : Src)
 | slice (size : Nat) (x : Src) (lo hi mx : Option Src)
 | sliceStr (x : Src) (lo hi : Option Src)
 | fieldAddr (off : Nat) (x : Src)
 | field (k : Option Nat) (off : Nat) (x : Src)
 | indexAddr (size : Nat) (x i : Src)
 | indexAgg (len size : Nat) (k : Option Nat) (x i : Src)
 | indexStr (x i : Src)
 | lookup (kd : BK) (zero : AV) (x i : Src) (ok : Bool)
 | mapUpd (kd : BK) (m k v : Src)
 | extract (i : Nat) (x : Src)
 | len (x : Src)
 | lenStr (x : Src)
 | lenMap (x : Src)
 | cap (x : Src)
 | min (xs : List Src)
 | max (xs : List Src)
 | append (size bytes ty : Nat) (zero : List AV) (x y : Src)
 | appendZ (size bytes ty : Nat) (zero : List AV) (x y : Src)
 | clear (size : Nat) (zero : List AV) (x : Src)
 | copy (size : Nat) (x y : Src)
 | toStr (x : Src)
 | toBytes (ty : Nat) (x : Src)
 | tassert (t : Nat) (zero : AV) (ok : Bool) (x : Src)
 | indexArr (len size : Nat) (x i : Src)
 | globIdx (cs : List AV) (len size : Nat) (i : Src)
 | globLoad (k : Option Nat) (cs : List AV)
 | rangeS (x : Src)
 | nextS (x : Src)
 | bad
 | call (f : Src) (args : List Src)
 | panic (x : Src)
 deriving Inhabited
structure ROp where
 dst : Option Nat
 op : AOp
 guard : Option (Nat × Bool)
 deriving Inhabited
/-- An operation of a region whose order is open. 'uses': its slots, each with the operation whose value stands in it (none: what stood in it ahead of the region); 'cls': 0 it looks at most, 1 it makes a block, 2 it acts;
 'looks': behind how many acts it may come, and which new blocks it may see then. -/
structure DOp where
 dst : Option Nat
 op : AOp
 guard : Option (Nat × Bool)
 uses : List (Nat × Option Nat)
 cls : Nat
 looks : List (Nat × List Nat)
 deriving Inhabited
inductive ACode where
 | skip
 | region (ops : List ROp)
 | draw (ops : List DOp) (late : List Nat)
 | seq (a b : ACode)
 | cond (c : Src) (thn els : ACode)
 | block (id : Nat) (body : ACode)
 | loop (body : ACode)
 | rangeFunc (f : Src) (params : List Nat) (assign body : ACode)
 | exit (id : Nat)
 | goto (l : Nat)
 | ret
 | scope (a : ACode)
 | drawF (ds : List DOp) (late : List Nat) (last : DOp) (mid : List Nat)      -- the last operation is a store that may come ahead of those of mid
 | rangeM (pre : List ROp) (x : Src) (it nx ex bid bid2 en : Nat) (ops : List ROp) (rest : ACode) (W : List Nat)      -- zo a map: in any order; W: what a round writes
 | scopeL (a : ACode) (l : Nat) (rest : ACode)      -- a scope in which one jumps to the label l, behind which rest comes; (a label itself: .scopeL .skip l .skip)
 deriving Inhabited
inductive Ent where
 | cells (cs : List AV) (ty : Nat) (rw : Bool)
 | map (es : List (AV × AV))
 | loop (T : List AV) (params : List Nat) (assign body : ACode) (state : LoopState) (pending : Option ACode)
 | siter (s : ByteArray) (pos : Nat)
 | mapR (es : List (AV × AV))
 deriving Inhabited
def Ent.ro : Ent → Option Ent
 | .cells cs ty _ => some (.cells cs ty false)
 | .map es => some (.mapR es)
 | .mapR es => some (.mapR es)
 | .loop .. => none
 | .siter .. => none
mutual
def AV.beq : AV → AV → Bool
 | .undef, .undef => true
 | .bool a, .bool b => a == b
 | .int j a, .int k b => decide (j = k) && decide (a = b)
 | .str a, .str b => decide (a = b)
 | .nilPtr, .nilPtr => true
 | .nilSl, .nilSl => true
 | .nilFn, .nilFn => true
 | .nilIf, .nilIf => true
 | .nilMap, .nilMap => true
 | .agg a, .agg b => AV.beqs a b
 | .tup a, .tup b => AV.beqs a b
 | .sl a n, .sl b m => AV.beqs a b && n == m
 | .dp a n, .dp b m => AV.beqs a b && n == m
 | .own a b c d e f, .own g b' c' i e' h => a == g && b == b' && c == c' && d == i && e == e' && f == h
 | .ptr a b, .ptr g b' => a == g && b == b'
 | .fn f a b, .fn h g b' => decide (f = h) && AV.beqs a g && AV.beqs b b'
 | .ifc t v, .ifc t' l => t == t' && AV.beq v l
 | .map b, .map b' => b == b'
 | .loopv b, .loopv b' => b == b'
 | _, _ => false
def AV.beqs : List AV → List AV → Bool
 | [], [] => true
 | a :: as, b :: bs => AV.beq a b && AV.beqs as bs
 | _, _ => false
end
structure Q (α : Type) where
 a : α
 b : α
 c : α
 d : α
 e : α
 f : α
 g : α
 h : α
 deriving Inhabited
inductive D8 where
 | d0 | d1 | d2 | d3 | d4 | d5 | d6 | d7
 deriving DecidableEq
def D8.of (n : Nat) : D8 :=
 Bool.casesOn (motive := fun _ => D8) (Nat.beq (Nat.mod (Nat.div n 4) 2) 1)
  (Bool.casesOn (motive := fun _ => D8) (Nat.beq (Nat.mod (Nat.div n 2) 2) 1) (Bool.casesOn (motive := fun _ => D8) (Nat.beq (Nat.mod n 2) 1) .d0 .d1) (Bool.casesOn (motive := fun _ => D8) (Nat.beq (Nat.mod n 2) 1) .d2 .d3))
  (Bool.casesOn (motive := fun _ => D8) (Nat.beq (Nat.mod (Nat.div n 2) 2) 1) (Bool.casesOn (motive := fun _ => D8) (Nat.beq (Nat.mod n 2) 1) .d4 .d5) (Bool.casesOn (motive := fun _ => D8) (Nat.beq (Nat.mod n 2) 1) .d6 .d7))
def Q.at {α : Type} (d : D8) : Q α → α := D8.casesOn (motive := fun _ => Q α → α) d Q.a Q.b Q.c Q.d Q.e Q.f Q.g Q.h
def Q.ua {α : Type} (u : α → α) (q : Q α) : Q α := Q.casesOn (motive := fun _ => Q α) q fun a b c d e f g h => ⟨u a, b, c, d, e, f, g, h⟩
def Q.ub {α : Type} (u : α → α) (q : Q α) : Q α := Q.casesOn (motive := fun _ => Q α) q fun a b c d e f g h => ⟨a, u b, c, d, e, f, g, h⟩
def Q.uc {α : Type} (u : α → α) (q : Q α) : Q α := Q.casesOn (motive := fun _ => Q α) q fun a b c d e f g h => ⟨a, b, u c, d, e, f, g, h⟩
def Q.ud {α : Type} (u : α → α) (q : Q α) : Q α := Q.casesOn (motive := fun _ => Q α) q fun a b c d e f g h => ⟨a, b, c, u d, e, f, g, h⟩
def Q.ue {α : Type} (u : α → α) (q : Q α) : Q α := Q.casesOn (motive := fun _ => Q α) q fun a b c d e f g h => ⟨a, b, c, d, u e, f, g, h⟩
def Q.uf {α : Type} (u : α → α) (q : Q α) : Q α := Q.casesOn (motive := fun _ => Q α) q fun a b c d e f g h => ⟨a, b, c, d, e, u f, g, h⟩
def Q.ug {α : Type} (u : α → α) (q : Q α) : Q α := Q.casesOn (motive := fun _ => Q α) q fun a b c d e f g h => ⟨a, b, c, d, e, f, u g, h⟩
def Q.uh {α : Type} (u : α → α) (q : Q α) : Q α := Q.casesOn (motive := fun _ => Q α) q fun a b c d e f g h => ⟨a, b, c, d, e, f, g, u h⟩
def Q.up {α : Type} (d : D8) : (α → α) → Q α → Q α := D8.casesOn (motive := fun _ => (α → α) → Q α → Q α) d Q.ua Q.ub Q.uc Q.ud Q.ue Q.uf Q.ug Q.uh
def Q.all {α : Type} (x : α) : Q α := ⟨x, x, x, x, x, x, x, x⟩
structure Tr where
 t : Q (Q (Q (Q (Q (Q (Q (Q (Option Ent))))))))
 big : List (Nat × Option Ent)
 deriving Inhabited
def Tr.nil : Tr := ⟨.all (.all (.all (.all (.all (.all (.all (.all none))))))), []⟩
def an5 : List (Nat × Option Ent) → Nat → Option Ent
 | [], _ => none
 | (k, e) :: l, n => if n = k then e else an5 l n
def Tr.get (T : Tr) (n : Nat) : Option Ent :=
 Bool.casesOn (motive := fun _ => Option Ent) (Nat.ble n 16777215) (an5 T.big n)
  (Q.at (D8.of n) (Q.at (D8.of (Nat.div n 8)) (Q.at (D8.of (Nat.div n 64)) (Q.at (D8.of (Nat.div n 512)) (Q.at (D8.of (Nat.div n 4096)) (Q.at (D8.of (Nat.div n 32768)) (Q.at (D8.of (Nat.div n 262144)) (Q.at (D8.of (Nat.div n 2097152)) T.t))))))))
def Tr.set (T : Tr) (n : Nat) (e : Option Ent) : Tr :=
 Bool.casesOn (motive := fun _ => Tr) (Nat.ble n 16777215) ⟨T.t, (n, e) :: T.big⟩
  ⟨Q.up (D8.of (Nat.div n 2097152)) (Q.up (D8.of (Nat.div n 262144)) (Q.up (D8.of (Nat.div n 32768)) (Q.up (D8.of (Nat.div n 4096)) (Q.up (D8.of (Nat.div n 512)) (Q.up (D8.of (Nat.div n 64)) (Q.up (D8.of (Nat.div n 8)) (Q.up (D8.of n) (fun _ => e)))))))) T.t, T.big⟩
structure Heap where
 next : Nat
 tr : Tr
 lim : Nat
 ovr : List (Nat × Option Ent)
 deriving Inhabited
def rx (o : Option Ent) : Option Ent := Option.casesOn (motive := fun _ => Option Ent) o none Ent.ro
def tX (d : Option Ent) (b : Nat) : List (Nat × Option Ent) → Option Ent
 | [] => d
 | (k, e) :: l => if b = k then e else tX d b l
def Heap.get (H : Heap) (b : Nat) : Option Ent := Bool.casesOn (motive := fun _ => Option Ent) (Nat.ble (Nat.succ b) H.lim) (H.tr.get b) (tX (rx (H.tr.get b)) b H.ovr)
def Heap.setO (H : Heap) (b : Nat) (o : Option Ent) : Heap := ⟨H.next, Bool.casesOn (motive := fun _ => Tr) (Nat.ble (Nat.succ b) H.lim) (H.tr.set b o) H.tr, H.lim, Bool.casesOn (motive := fun _ => List (Nat × Option Ent)) (Nat.ble (Nat.succ b) H.lim) H.ovr ((b, o) :: H.ovr)⟩
def Heap.put (H : Heap) (b : Nat) (e : Ent) : Heap := H.setO b (some e)
def Heap.kill (H : Heap) (b : Nat) : Heap := H.setO b none
def Heap.nil (n : Nat) : Heap := ⟨n, Tr.nil, 0, []⟩
def Heap.ro (H : Heap) : Heap := ⟨H.next, H.tr, Nat.max H.next H.lim, (H.ovr.filter fun p => decide (p.1 < H.lim)).map fun p => (p.1, rx p.2)⟩
abbrev Tm := List AV
def eQ (T : Tm) (n : Nat) : AV := T.getD n .undef
def Src.ev (T : Tm) : Src → AV
 | .t n => eQ T n
 | .c v => v
def fL (T : Tm) (d : Option Nat) (v : AV) : Tm :=
 match d with
 | some d => T.set d v
 | none => T
def AV.cells : AV → List AV
 | .agg cs => cs
 | v => [v]
def AV.one : AV → Bool
 | .agg _ | .tup _ | .undef => false
 | _ => true
def iV : List AV → List ((Nat × Nat) × AV) → Option (List AV)
 | cs, [] => some cs
 | cs, ((off, size), v) :: rest =>
  let a := v.cells
  if a.length = size ∧ off + size ≤ cs.length ∧ a.all AV.one = true then iV (cs.take off ++ a ++ cs.drop (off + size)) rest else none
def i7 (v : AV) : Option Nat :=
 match v with
 | .int _ (.ofNat n) => some n
 | _ => none
def pA (cs : List AV) (off : Nat) : Option Nat → Option AV
 | none => cs[off]?
 | some n => if off + n ≤ cs.length then some (.agg ((cs.drop off).take n)) else none
def qL (op : BinOp) (k : IntKind) (x y : Int) : Option AV :=
 match op with
 | .add => some (.int k (k.wrap (x + y)))
 | .sub => some (.int k (k.wrap (x - y)))
 | .mul => some (.int k (k.wrap (x * y)))
 | .quo => if y = 0 then none else some (.int k (k.wrap (x.tdiv y)))
 | .rem => if y = 0 then none else some (.int k (x.tmod y))
 | .and => some (.int k (k.wrap (BitVec.ofInt k.bits x &&& BitVec.ofInt k.bits y).toNat))
 | .or => some (.int k (k.wrap (BitVec.ofInt k.bits x ||| BitVec.ofInt k.bits y).toNat))
 | .xor => some (.int k (k.wrap (BitVec.ofInt k.bits x ^^^ BitVec.ofInt k.bits y).toNat))
 | .andNot => some (.int k (k.wrap (BitVec.ofInt k.bits x &&& ~~~ (BitVec.ofInt k.bits y)).toNat))
 | .eql => some (.bool (x == y))
 | .neq => some (.bool (x != y))
 | .lss => some (.bool (decide (x < y)))
 | .leq => some (.bool (decide (x ≤ y)))
 | .gtr => some (.bool (decide (x > y)))
 | .geq => some (.bool (decide (x ≥ y)))
 | _ => none
def Ym (op : BinOp) (k : IntKind) (x y : Int) : Option AV :=
 if y < 0 then none else
 match op with
 | .shl => some (.int k (k.wrap (x * 2 ^ (Nat.min y.toNat k.bits))))
 | .shr => some (.int k (x.fdiv (2 ^ (Nat.min y.toNat k.bits))))
 | _ => none
def Yx : AV → Option Bool
 | .nilSl => some true
 | .own .. => some false
 | .sl .. => some false
 | _ => none
def ao6 : AV → AV → Option Bool
 | .nilIf, .nilIf => some true
 | .nilIf, .ifc _ _ => some false
 | .ifc _ _, .nilIf => some false
 | _, _ => none
def jz (op : BinOp) (kd : BK) (x y : AV) : Option AV :=
 match kd, x, y with
 | .int, .int k a, .int c b =>
  match op with
  | .shl => Ym .shl k a b
  | .shr => Ym .shr k a b
  | op => if k = c then qL op k a b else none
 | .bool, .bool a, .bool b =>
  match op with
  | .eql => some (.bool (a == b))
  | .neq => some (.bool (!(a == b)))
  | _ => none
 | .str, .str a, .str b =>
  match op with
  | .eql => some (.bool (a.toList == b.toList))
  | .neq => some (.bool (!(a.toList == b.toList)))
  | .add => if ((a.size + b.size : Nat) : Int) > IntKind.i64.max then none else some (.str (a ++ b))
  | _ => none
 | .sl, x, .nilSl =>
  match op with
  | .eql => (Yx x).map .bool
  | .neq => (Yx x).map fun b => .bool !b
  | _ => none
 | .ifc, x, y => match op with
  | .eql => (ao6 x y).map .bool
  | .neq => (ao6 x y).map fun b => .bool !b
  | _ => none
 | _, _, _ => none
def pj : List AV → List AV → Option Bool
 | [.bool a, .bool b], [.bool c, .bool d] => some (a == c && b == d)
 | _, _ => none
def Ca : Nat → List AV → List AV → Option Bool
 | 0, [], [] => some true
 | n + 1, .int k a :: as, .int c b :: bs => if k = c then (Ca n as bs).map fun r => a == b && r else none
 | _, _, _ => none
def Zh (op : UnOp) (x : AV) : Option AV :=
 match op, x with
 | .neg, .int k n => some (.int k (k.wrap (0 - n)))
 | .xor, .int k n => some (.int k (k.wrap (BitVec.ofInt k.bits (if k.signed then -1 else k.max) ^^^ BitVec.ofInt k.bits n).toNat))
 | .not, .bool b => some (.bool !b)
 | _, _ => none
def CA (size : Nat) (x : AV) (lo hi mx : Option AV) : Option AV :=
 match x with
 | .own b off n c sz ex =>
  if sz ≠ size then none else
  match mx, hi, lo with
  | some m, some h, lo => do
   let m ← i7 m; let h ← i7 h; let l ← (lo.map i7).getD (some 0)
   if m ≤ c ∧ h ≤ m ∧ l ≤ h then (if m = l then some (.own b off (h - l) 0 sz true) else some (.own b (off + l * size) (h - l) (m - l) sz true)) else none
  | none, hi, lo => do
   let h ← (hi.map i7).getD (some n); let l ← (lo.map i7).getD (some 0)
   if h ≤ c ∧ l ≤ h then
    (if l < c ∨ l = 0 then some (.own b (off + l * size) (h - l) (c - l) sz ex) else if ex = true then some (.own b off (h - l) (c - l) sz true) else some (.sl [] 0))
   else none
  | _, _, _ => none
 | .sl cs n =>
  match mx, hi, lo with
  | none, hi, lo => do
   let h ← (hi.map i7).getD (some n); let l ← (lo.map i7).getD (some 0)
   if h ≤ n ∧ l ≤ h ∧ h * size ≤ cs.length then some (.sl ((cs.drop (l * size)).take ((h - l) * size)) (h - l)) else none
  | some m, some h, lo => do
   let m ← i7 m; let h ← i7 h; let l ← (lo.map i7).getD (some 0)
   if m ≤ n ∧ h ≤ m ∧ l ≤ h ∧ h * size ≤ cs.length then some (.sl ((cs.drop (l * size)).take ((h - l) * size)) (h - l)) else none
  | _, _, _ => none
 | .nilSl =>
  match mx, hi with
  | some m, some h => if i7 m = some 0 ∧ i7 h = some 0 ∧ (lo.map i7).getD (some 0) = some 0 then some .nilSl else none
  | none, hi => if (hi.map i7).getD (some 0) = some 0 ∧ (lo.map i7).getD (some 0) = some 0 then some .nilSl else none
  | _, _ => none
 | .str s =>
  match mx with
  | none => do
   let h ← (hi.map i7).getD (some s.size); let l ← (lo.map i7).getD (some 0)
   if h ≤ s.size && l ≤ h then some (.str (s.extract l h)) else none
  | some _ => none
 | _ => none
def rJ : AV → AV → Option AV
 | .int k x, .int _ y => some (.int k (if y < x then y else x))
 | _, _ => none
def rK : AV → AV → Option AV
 | .int k x, .int _ y => some (.int k (if y > x then y else x))
 | _, _ => none
def bJ (ev : Src → AV) : AOp → Option AV
 | .mv x => some (ev x)
 | .pick c a b => match ev c with | .bool t => some (if t then ev a else ev b) | _ => none
 | .build zero parts => do
  let cs ← iV zero (parts.map fun p => (p.1, ev p.2))
  some (.agg cs)
 | .nilCheck x => match ev x with
  | .ptr b o => some (.ptr b o)
  | .dp cs o => some (.dp cs o)
  | .fn (.func f) a c => some (.fn (.func f) a c)
  | .loopv b => some (.loopv b)
  | _ => none
 | .bin op kd x y => jz op kd (ev x) (ev y)
 | .eqAgg neg n x y => match ev x, ev y with
  | .agg a, .agg b => (match n with | 0 => pj a b | n + 1 => Ca (n + 1) a b).map fun r => .bool (if neg then !r else r)
  | _, _ => none
 | .un op x => Zh op (ev x)
 | .conv k x => match ev x with | .int _ n => some (.int k (k.wrap n)) | _ => none
 | .strId x => match ev x with | .str s => some (.str s) | _ => none
 | .iface ty x => match ev x with | .undef => none | v => some (.ifc ty v)
 | .mkfn f first cap => some (.fn f (first.map ev) (cap.map ev))
 | .slice size x lo hi mx => match ev x with
  | .str _ => none
  | v => CA size v (lo.map ev) (hi.map ev) (mx.map ev)
 | .sliceStr x lo hi => match ev x with
  | .str s => CA 1 (.str s) (lo.map ev) (hi.map ev) none
  | _ => none
 | .fieldAddr off x => match ev x with
  | .ptr b o => some (.ptr b (o + off))
  | .dp cs o => some (.dp cs (o + off))
  | _ => none
 | .field k off x => match ev x with | .agg cs => pA cs off k | _ => none
 | .indexAddr size x i => do
  let i ← i7 (ev i)
  match ev x with
  | .own b off n _ sz _ => if i < n ∧ sz = size then some (.ptr b (off + i * size)) else none
  | .sl cs n => if i < n then some (.dp cs (i * size)) else none
  | _ => none
 | .tassert t z ok x => match ev x with
  | .ifc t' v => if t' = t then some (if ok then .tup [v, .bool true] else v) else if ok = true then some (.tup [z, .bool false]) else none
  | .nilIf => if ok = true then some (.tup [z, .bool false]) else none
  | _ => none
 | .indexArr len size x i => do
  let i ← i7 (ev i)
  match ev x with
  | .ptr b o => if i < len then some (.ptr b (o + i * size)) else none
  | .dp cs o => if i < len then some (.dp cs (o + i * size)) else none
  | _ => none
 | .indexAgg len size k x i => do
  let i ← i7 (ev i)
  match ev x with
  | .agg cs => if i < len then pA cs (i * size) k else none
  | _ => none
 | .indexStr x i => do
  let i ← i7 (ev i)
  match ev x with
  | .str s => (s[i]?).map fun b => .int .u8 b.toNat
  | _ => none
 | .extract i x => match ev x with | .tup vs => vs[i]? | _ => none
 | .len x => match ev x with
  | .own _ _ n _ _ _ => some (.int .i64 n)
  | .sl _ n => some (.int .i64 n)
  | .nilSl => some (.int .i64 0)
  | _ => none
 | .lenStr x => match ev x with
  | .str s => some (.int .i64 s.size)
  | _ => none
 | .cap x => match ev x with
  | .own _ _ _ c _ true => some (.int .i64 c)
  | .nilSl => some (.int .i64 0)
  | _ => none
 | .min xs => match xs.map ev with
  | .int k a :: rest => rest.foldlM rJ (AV.int k a)
  | _ => none
 | .max xs => match xs.map ev with
  | .int k a :: rest => rest.foldlM rK (AV.int k a)
  | _ => none
 | _ => none
def AOp.isPure : AOp → Bool
 | .mv _ | .pick .. | .build .. | .nilCheck _ | .bin .. | .eqAgg .. | .un .. | .conv .. | .strId _ | .iface .. | .mkfn .. | .slice .. | .sliceStr .. | .fieldAddr .. | .field .. | .indexAddr .. | .indexArr .. | .tassert .. | .indexAgg .. | .indexStr .. | .extract .. | .len _ | .lenStr _ | .cap _ | .min _ | .max _ => true
 | _ => false
def CG : AV → AV → Option Bool
 | .int j a, .int k b => if j = k then some (a == b) else none
 | .str a, .str b => some (a == b)
 | .bool a, .bool b => some (a == b)
 | _, _ => none
def ui : BK → AV → Bool
 | .int, .int _ _ => true
 | .str, .str _ => true
 | _, _ => false
def lj (k : AV) : List (AV × AV) → Option (Option AV)
 | [] => some none
 | (a, v) :: es => match CG k a with
  | some true => some (some v)
  | some false => lj k es
  | none => none
def md (k v : AV) : List (AV × AV) → List (AV × AV)
 | [] => [(k, v)]
 | (a, b) :: es => match CG k a with
  | some true => (k, v) :: es
  | _ => (a, b) :: md k v es
def kX (H : Heap) : AV → Option (List (AV × AV))
 | .nilMap => some []
 | .map b => match H.get b with
  | some (.map es) => some es
  | some (.mapR es) => some es
  | _ => none
 | _ => none
def pf (H : Heap) (kd : BK) (zero x i : AV) (ok : Bool) : Option AV :=
 if ui kd i = false then none else
 match kX H x with
 | none => none
 | some es => match lj i es with
  | none => none
  | some none => some (if ok then .tup [zero, .bool false] else zero)
  | some (some v) => some (if ok then .tup [v, .bool true] else v)
def aks (H : Heap) (kd : BK) (m k v : AV) : Option Heap :=
 if ui kd k = false then none else
 match m with
 | .map b => match H.get b with
  | some (.map es) => match lj k es with
   | none => none
   | some _ => some (H.put b (.map (md k v es)))
  | _ => none
 | _ => none
def py (H : Heap) (size n : Nat) : AV → Option (List AV)
 | .own b off m _ sz _ => match H.get b with
  | some (.cells cs _ _) => if sz = size ∧ n ≤ m ∧ off + n * size ≤ cs.length then some ((cs.drop off).take (n * size)) else none
  | _ => none
 | .sl cs m => if n ≤ m ∧ n * size ≤ cs.length then some (cs.take (n * size)) else none
 | .nilSl => if n = 0 then some [] else none
 | .str s => if n ≤ s.size ∧ size = 1 then some ((s.extract 0 n).data.toList.map fun b => .int .u8 b.toNat) else none
 | _ => none
def mV : AV → Option Nat
 | .own _ _ n _ _ _ => some n
 | .sl _ n => some n
 | .nilSl => some 0
 | .str s => some s.size
 | _ => none
def Cy : List AV → ByteArray → Option ByteArray
 | [], s => some s
 | .int .u8 k :: l, s => Cy l (s.push (UInt8.ofNat k.toNat))
 | _, _ => none
def Yk (H : Heap) (x : AV) : Option ByteArray :=
 match x with
 | .str _ => none
 | x => match mV x with
  | none => none
  | some n => match py H 1 n x with
   | none => none
   | some cs => Cy cs .empty
def Ce (H : Heap) (id size bytes ty : Nat) (x : AV) (m : Nat) (a : List AV) (fr : Option Nat) : Option (AV × Heap) :=
 match x with
 | .nilSl => if m = 0 then some (.nilSl, H) else if m * bytes ≤ 2 ^ 46 ∧ m < 2 ^ 62 then some (.own id 0 m m size false, H.put id (.cells a ty true)) else none
 | .own b off n c sz ex =>
  match H.get b with
  | some (.cells cs d rw) =>
   if sz = size ∧ (n + m) * bytes ≤ 2 ^ 46 ∧ n + m < 2 ^ 62 ∧ d = ty ∧ off + n * size ≤ cs.length then
    if n + m ≤ c then
     (if m = 0 then some (.own b off n c sz ex, H)
      else if rw = true ∧ a.all AV.one = true then some (.own b off (n + m) c sz ex, H.put b (.cells (cs.take (off + n * size) ++ a ++ cs.drop (off + n * size + m * size)) ty rw)) else none)
    else if ex = true then some (.own id 0 (n + m) (n + m) size false, H.put id (.cells ((cs.drop off).take (n * size) ++ a) ty true))
    else if off = 0 ∧ rw = true ∧ fr ≠ some b ∧ a.all AV.one = true then some (.own id 0 (n + m) (n + m) size false, (H.kill b).put id (.cells (cs.take (n * size) ++ a) ty true))
    else none
   else none
  | _ => none
 | _ => none
def jJ (H : Heap) (k : Option Nat) : AV → Option AV
 | .ptr b o => match H.get b with
  | some (.cells cs _ _) => pA cs o k
  | _ => none
 | .dp cs o => pA cs o k
 | _ => none
def pz (H : Heap) (n : Nat) (x v : AV) : Option Heap :=
 match x with
 | .ptr b o => match H.get b with
  | some (.cells cs ty true) =>
   if v.cells.length = n ∧ o + n ≤ cs.length ∧ v.cells.all AV.one = true then some (H.put b (.cells (cs.take o ++ v.cells ++ cs.drop (o + n)) ty true)) else none
  | _ => none
 | _ => none
def anj (H : Heap) (size : Nat) (zero : List AV) : AV → Option Heap
 | .own b off n _ sz _ => match H.get b with
  | some (.cells cs ty true) =>
   if n = 0 then some H
   else if sz = size ∧ off + n * size ≤ cs.length ∧ zero.length = size ∧ zero.all AV.one = true then some (H.put b (.cells (cs.take off ++ (List.replicate n zero).flatten ++ cs.drop (off + n * size)) ty true))
   else none
  | _ => none
 | .nilSl => some H
 | _ => none
def tN (H : Heap) (size : Nat) (x y : AV) : Option (AV × Heap) :=
 match mV y with
 | none => none
 | some m => match x with
  | .own b off n _ sz _ => match py H size (Nat.min m n) y, H.get b with
   | some a, some (.cells cs ty true) =>
    if sz = size ∧ off ≤ cs.length ∧ a.all AV.one = true then some (.int .i64 (Nat.min m n : Nat), H.put b (.cells (cs.take off ++ a ++ cs.drop (off + a.length)) ty true)) else none
   | _, _ => none
  | .nilSl => match py H size 0 y with
   | some _ => some (.int .i64 0, H)
   | none => none
  | _ => none
def anl (H : Heap) : AV → Option (AV × Heap)
 | .ptr b 0 => match H.get b with
  | some (.siter s pos) => if pos < s.size then some (.tup [.bool true, .int .i64 pos, .int .i32 (Utf8.decode s pos).1], H.put b (.siter s (pos + (Utf8.decode s pos).2))) else some (.tup [.bool false], H)
  | _ => none
 | _ => none
def bR (ev : Src → AV) (H : Heap) (id : Nat) : AOp → Option (AV × Heap)
 | .alloc ty zero => some (.ptr id 0, H.put id (.cells zero ty true))
 | .box ty x => let cs := (ev x).cells; if cs.all AV.one then some (.ptr id 0, H.put id (.cells cs ty true)) else none
 | .buildSlice ty size zeros len parts => match iV zeros (parts.map fun p => (p.1, ev p.2)) with
  | none => none
  | some cs => some (.own id 0 len len size true, H.put id (.cells cs ty true))
 | .load k x => (jJ H k (ev x)).map fun v => (v, H)
 | .store n x v => (pz H n (ev x) (ev v)).map fun H' => (.undef, H')
 | .mkmap => some (.map id, H.put id (.map []))
 | .mksl ty size bytes zero l c => match i7 (ev l), i7 (ev c) with
  | some l, some c =>
   if l ≤ c ∧ bytes * c ≤ 2 ^ 47 ∧ c < 2 ^ 63 ∧ zero.length = size then
    some (.own id 0 l c size true, H.put id (.cells ((List.replicate c zero).flatten) ty true))
   else none
  | _, _ => none
 | .lookup kd zero x i ok => (pf H kd zero (ev x) (ev i) ok).map fun v => (v, H)
 | .mapUpd kd m k v => (aks H kd (ev m) (ev k) (ev v)).map fun H' => (.undef, H')
 | .lenMap x => match ev x with
  | .nilMap => some (.int .i64 0, H)
  | .map b => match H.get b with | some (.map es) => some (.int .i64 es.length, H) | some (.mapR es) => some (.int .i64 es.length, H) | _ => none
  | _ => none
 | .append size bytes ty _ x y => match mV (ev y) with
  | none => none
  | some m => match py H size m (ev y) with
   | none => none
   | some a => Ce H id size bytes ty (ev x) m a (match ev y with | .own b _ _ _ _ _ => some b | _ => none)
 | .appendZ size bytes ty zero x y => match i7 (ev y) with
  | none => none
  | some m => if zero.length = size ∧ m * bytes ≤ 2 ^ 46 ∧ m < 2 ^ 62 then Ce H id size bytes ty (ev x) m ((List.replicate m zero).flatten) none else none
 | .clear size zero x => (anj H size zero (ev x)).map fun H' => (.tup [], H')
 | .copy size x y => tN H size (ev x) (ev y)
 | .toStr x => (Yk H (ev x)).map fun s => (.str s, H)
 | .rangeS x => match ev x with
  | .str s => some (.ptr id 0, H.put id (.siter s 0))
  | _ => none
 | .nextS x => anl H (ev x)
 | .globIdx cs len size i => match i7 (ev i) with
  | some i => if i < len then some (.dp cs (i * size), H) else none
  | none => none
 | .globLoad k cs => (pA cs 0 k).map fun v => (v, H)
 | .toBytes ty x => match ev x with
  | .str s => some (.own id 0 s.size s.size 1 false, H.put id (.cells (s.data.toList.map fun b => .int .u8 b.toNat) ty false))
  | _ => none
 | _ => none
inductive Ex where
 | nrm
 | exit (id : Nat)
 | goto (l : Nat)
 | ret
 deriving Inhabited, DecidableEq
inductive Task where
 | fn (f : Nat) (args : List AV)
 | round (b : Nat) (args : List AV)
 | ent (f : Nat) (args : List AV)      -- a function that has a body
 deriving Inhabited
def qK (f : AV) (args : List AV) : Option Task :=
 match f with
 | .fn (.func f) first cap => some (.fn f (first ++ args ++ cap))
 | .loopv b => some (.round b args)
 | _ => none
abbrev dZ := Task → Heap → Option (AV × Heap)
def gB (a : dZ) (ev : Src → AV) (H : Heap) (id : Nat) (o : AOp) : Option (AV × Heap) :=
 match o with
 | .call f args => do
  let t ← qK (ev f) (args.map ev)
  a t H
 | o => match bJ ev o with
  | some v => some (v, H)
  | none => bR ev H id o
def iv (T : Tm) : Option (Nat × Bool) → Option Bool
 | none => some true
 | some (t, a) => match T[t]? with
  | some (.bool b) => some (b == a)
  | some (.tup []) => some false
  | _ => none
def fN (a : dZ) : Nat → List ROp → Tm → Heap → Option (Tm × Heap)
 | _, [], T, H => some (T, H)
 | id, o :: os, T, H =>
  match iv T o.guard with
  | some true =>
   match gB a (Src.ev T) H id o.op with
   | some (v, H') => fN a (id + 1) os (fL T o.dst v) H'
   | none => none
  | some false => fN a (id + 1) os (fL T o.dst (.tup [])) H
  | none => none
/-! Regions whose order is open. -/
def ie (T0 : Tm) (Vs : List AV) (u : Nat × Option Nat) : AV := match u.2 with | none => eQ T0 u.1 | some j => Vs.getD j .undef
def cF (T0 : Tm) (Vs : List AV) (us : List (Nat × Option Nat)) : Tm := us.foldl (fun T u => T.set u.1 (ie T0 Vs u)) (List.replicate T0.length .undef)
def dU (base : Nat) (Es : List (Option Ent)) (C : Heap) (adds : List Nat) : Heap :=
 adds.foldl (fun C a => match Es.getD a none with | some e => C.put (base + a) e | none => C) C
def AOp.looks : AOp → Bool
 | .load .. | .lookup .. | .lenMap _ | .globIdx .. | .globLoad .. => true
 | _ => false
def AOp.makes : AOp → Bool
 | .alloc .. | .box .. | .buildSlice .. | .mksl .. | .mkmap => true
 | _ => false
structure DS where
 Vs : List AV
 Cs : List Heap
 Es : List (Option Ent)
def lG (a : dZ) (base : Nat) (T0 : Tm) (i : Nat) (d : DOp) (s : DS) : Option DS :=
 let T := cF T0 s.Vs d.uses
 match iv T d.guard with
 | none => none
 | some false =>
  match d.cls, d.looks with
  | 2, [(k, adds)] => some ⟨s.Vs ++ [.tup []], s.Cs ++ [dU base s.Es (s.Cs.getD k default) adds], s.Es ++ [none]⟩
  | 2, _ => none
  | _, _ => some ⟨s.Vs ++ [.tup []], s.Cs, s.Es ++ [none]⟩
 | some true =>
  match d.cls with
  | 0 => match bJ (Src.ev T) d.op with
   | some v => some ⟨s.Vs ++ [v], s.Cs, s.Es ++ [none]⟩
   | none => match d.looks with
    | (k, adds) :: _ => if d.op.looks = true then match bR (Src.ev T) (dU base s.Es (s.Cs.getD k default) adds) 0 d.op with
      | some (v, _) => some ⟨s.Vs ++ [v], s.Cs, s.Es ++ [none]⟩
      | none => none
     else none
    | [] => none
  | 1 => if d.op.makes = true then match bR (Src.ev T) (Heap.nil 0) (base + i) d.op with
    | some (v, H') => some ⟨s.Vs ++ [v], s.Cs, s.Es ++ [H'.get (base + i)]⟩
    | none => none
   else none
  | _ => match d.looks with
   | [(k, adds)] => match gB a (Src.ev T) (dU base s.Es (s.Cs.getD k default) adds) (base + i) d.op with
    | some (v, H') => some ⟨s.Vs ++ [v], s.Cs ++ [H'], s.Es ++ [none]⟩
    | none => none
   | _ => none
def qB (a : dZ) (base : Nat) (T0 : Tm) : Nat → List DOp → DS → Option DS
 | _, [], s => some s
 | i, d :: ds, s => match lG a base T0 i d s with
  | some b => qB a base T0 (i + 1) ds b
  | none => none
def xH (base : Nat) (T0 : Tm) (s : DS) (i : Nat) (d : DOp) : Bool :=
 match d.cls, iv (cF T0 s.Vs d.uses) d.guard, bJ (Src.ev (cF T0 s.Vs d.uses)) d.op with
 | 0, some true, none => d.looks.all fun p => match bR (Src.ev (cF T0 s.Vs d.uses)) (dU base s.Es (s.Cs.getD p.1 default) p.2) 0 d.op with
  | some (v, _) => AV.beq v (s.Vs.getD i .undef)
  | none => false
 | _, _, _ => true
def Cg (base : Nat) (T0 : Tm) (s : DS) : Nat → List DOp → Bool
 | _, [] => true
 | i, d :: ds => xH base T0 s i d && Cg base T0 s (i + 1) ds
def kb (T : Tm) : List DOp → List AV → Tm
 | d :: ds, v :: vs => kb (fL T d.dst v) ds vs
 | _, _ => T
def jo (a : dZ) (ds : List DOp) (late : List Nat) (T : Tm) (H : Heap) : Option (Tm × Heap) :=
 match qB a H.next T 0 ds ⟨[], [{ H with next := H.next + ds.length }], []⟩ with
 | none => none
 | some s => if Cg H.next T s 0 ds = true then some (kb T ds s.Vs, dU H.next s.Es (s.Cs.getLastD default) late) else none
def kW (T0 : Tm) (s : DS) (b : Nat) (d : DOp) : Bool :=
 match d.cls with
 | 2 => match d.op with
  | .store _ x _ => match Src.ev (cF T0 s.Vs d.uses) x with
   | .ptr b' _ => !(b' == b)
   | _ => false
  | _ => false
 | _ => true
def xC (a : dZ) (ds : List DOp) (late : List Nat) (last : DOp) (mid : List Nat) (T : Tm) (H : Heap) : Option (Tm × Heap) :=
 match qB a H.next T 0 ds ⟨[], [{ H with next := H.next + (ds.length + 1) }], []⟩ with
 | none => none
 | some s => if Cg H.next T s 0 ds = true then
   match last.op with
   | .store n x v => match Src.ev (cF T s.Vs last.uses) x with
    | .ptr b o => if b < H.next ∧ mid.all (fun j => kW T s b (ds.getD j default)) = true then
      match pz (dU H.next s.Es (s.Cs.getLastD default) late) n (.ptr b o) (Src.ev (cF T s.Vs last.uses) v) with
      | some H2 => some (kb T ds s.Vs, H2)
      | none => none
     else none
    | _ => none
   | _ => none
  else none
def fX (W : List Nat) (T : Tm) : Tm := T.zipIdx.map fun p => if W.contains p.2 then .undef else p.1
def jd (body : Tm → Heap → Option (Ex × Tm × Heap)) : Nat → Tm → Heap → Option (Ex × Tm × Heap)
 | 0, _, _ => none
 | n + 1, T, H =>
  match body T H with
  | some (.nrm, a, H') => jd body n a H'
  | r => r
def jL (l : Nat) (body : Tm → Heap → Option (Ex × Tm × Heap)) : Nat → Tm → Heap → Option (Ex × Tm × Heap)
 | 0, _, _ => none
 | n + 1, T, H =>
  match body T H with
  | some (.goto b, a, H') => if b = l then jL l body n a H' else none
  | r => r
def kT : Tm → List (Nat × AV) → Tm
 | T, [] => T
 | T, (t, v) :: r => kT (T.set t v) r
def aZ (d : dZ) (m : Nat) (rd : Bool) : ACode → Tm → Heap → Option (Ex × Tm × Heap)
 | .skip, T, H => some (.nrm, T, H)
 | .region ops, T, H =>
  match fN d H.next ops T { H with next := H.next + ops.length } with
  | some (e, H') => some (.nrm, e, H')
  | none => none
 | .draw ds late, T, H =>
  match jo d ds late T H with
  | some (e, H') => some (.nrm, e, H')
  | none => none
 | .seq a b, T, H =>
  match aZ d m rd a T H with
  | some (.nrm, e, H') => aZ d m rd b e H'
  | r => r
 | .cond c a b, T, H =>
  match c.ev T with
  | .bool true => aZ d m rd a T H
  | .bool false => aZ d m rd b T H
  | _ => none
 | .block id body, T, H =>
  match aZ d m rd body T H with
  | some (.exit k, e, H') => if k = id then some (.nrm, e, H') else some (.exit k, e, H')
  | r => r
 | .loop body, T, H => jd (aZ d m rd body) m T H
 | .exit id, T, H => some (.exit id, T, H)
 | .goto l, T, H => some (.goto l, T, H)
 | .ret, T, H => some (.ret, T, H)
 | .scope a, T, H =>
  match aZ d m rd a T H with
  | some (.goto _, _, _) => none
  | r => r
 | .scopeL a l rest, T, H =>
  match aZ d m rd a T H with
  | some (.goto t, e, H') => if t = l then jL l (aZ d m rd rest) m e H' else none
  | r => r
 | .drawF ds late last mid, T, H =>
  match xC d ds late last mid T H with
  | some (e, H') => some (.nrm, e, H')
  | none => none
 | .rangeM pre x it nx ex _ bid2 en ops rest W, T, H =>
  match fN d H.next pre T { H with next := H.next + (pre.length + 1) } with
  | none => none
  | some (h, H1) =>
   match x.ev h with
   | .map b => match H1.get b with
    | some (.map es) =>
     let T2 := fX (nx :: ex :: en :: W) (h.set it (.ptr (H.next + pre.length) 0))
     if (AV.beq (eQ T2 it) (.ptr (H.next + pre.length) 0) && (Nat.ble (Nat.succ nx) h.length && (Nat.ble (Nat.succ ex) h.length && (Nat.ble (Nat.succ en) h.length && es.all (fun p => match fN d (H1.next + 1) ops (T2.set en (.tup [p.1, p.2])) { H1.ro with next := H1.next + (ops.length + 1) } with
      | some (o, n) => match aZ d m rd rest o n with
       | some (.nrm, j, _) => AV.beqs (fX (nx :: ex :: en :: W) j) T2
       | some (.exit i, j, _) => Nat.beq i bid2 && AV.beqs (fX (nx :: ex :: en :: W) j) T2
       | _ => false
      | none => false))))) = true then some (.nrm, T2, H1) else none
    | _ => none
   | _ => none
 | .rangeFunc f ps q body, T, H =>
  if rd = true then none else
  let l := H.next
  let H1 : Heap := { H with next := H.next + 1 }.put l (.loop T ps q body .ready none)
  match qK (f.ev T) [.loopv l] with
  | some (.fn s args) => match d (.ent s args) H1 with
   | some (_, H2) => match H2.get l with
    | some (.loop _ _ _ _ .ready none) => some (.nrm, T, H2.kill l)
    | some (.loop _ _ _ _ .done (some c)) => match c with
     | .ret => some (.ret, T, H2.kill l)
     | .exit id => some (.exit id, T, H2.kill l)
     | .goto g => some (.goto g, T, H2.kill l)
     | _ => none
    | _ => none
   | none => none
  | _ => none
inductive ABody where
 | code (c : ACode)
 | seq (a : ACode) (b : ABody)
 | dfr (ops : List ROp) (f : Src) (b : ABody)
 deriving Inhabited
inductive Ext where
 | add64 | sub64
 | countS | indexS               -- internal/bytealg.CountString, IndexByteString
 | insert (size bytes ty : Nat)
 | keys (str : Bool) (gs : List Nat) (ty : Nat)      -- slices.Sorted: of a map's keys (gs: the iterators of maps.Keys), else its text is run
 | dfr (b : ABody)              -- a body that defers
 | rcv (d : Nat) (c : ACode)    -- one that is deferred: it recovers, and goes on
 deriving Inhabited
def Ext.code : Ext → Bool
 | .dfr _ | .rcv _ _ | .keys .. => true
 | _ => false
structure AFn where
 nparams : Nat
 ntmps : Nat
 results : List (Nat × Option (Option Nat))     -- a slot; or a slot with an address, and how many cells are loaded
 body : ACode
 ext : Option Ext := none
 deriving Inhabited
/-! The keys of a map, sorted. -/
def n4 {α : Type} (le : α → α → Bool) (x : α) : List α → List α
 | [] => [x]
 | y :: l => if le x y = true then x :: y :: l else y :: n4 le x l
def fI {α : Type} (le : α → α → Bool) : List α → List α
 | [] => []
 | x :: l => n4 le x (fI le l)
def Cc {α : Type} (le : α → α → Bool) : List α → Bool
 | [] => true
 | [_] => true
 | a :: b :: l => !le b a && Cc le (b :: l)
def pg (a b : Int) : Bool := decide (a ≤ b)
def X7 : List UInt8 → List UInt8 → Bool
 | [], _ => true
 | _ :: _, [] => false
 | a :: x, b :: y => if a.toNat < b.toNat then true else if a.toNat = b.toNat then X7 x y else false
def aoe : AV → Option Int
 | .int .i64 n => if -9223372036854775808 ≤ n ∧ n ≤ 9223372036854775807 then some n else none
 | _ => none
def strOf? : AV → Option (List UInt8)
 | .str s => if s.size ≤ 9223372036854775807 then some s.data.toList else none
 | _ => none
def o4 {α : Type} (f : AV → Option α) : List (AV × AV) → Option (List α)
 | [] => some []
 | (k, _) :: es => match f k, o4 f es with
  | some a, some l => some (a :: l)
  | _, _ => none
def Yz (str : Bool) (es : List (AV × AV)) : Option (List AV) :=
 match str with
 | false => match o4 aoe es with
  | some a => if Cc pg (fI pg a) = true then some ((fI pg a).map (AV.int .i64)) else none
  | none => none
 | true => match o4 strOf? es with
  | some a => if Cc X7 (fI X7 a) = true then some ((fI X7 a).map fun l => AV.str ⟨l.toArray⟩) else none
  | none => none
def aot (H : Heap) (gs : List Nat) : List AV → Option (List (AV × AV))
 | [.fn (.func g) [] [.ptr b 0]] => if gs.contains g then
   match H.get b with
   | some (.cells [.map mb] _ _) => match H.get mb with
    | some (.map es) => some es
    | some (.mapR es) => some es
    | _ => none
   | _ => none
  else none
 | _ => none
def mW (H : Heap) (str : Bool) (gs : List Nat) (ty : Nat) (args : List AV) : Option (AV × Heap) :=
 match aot H gs args with
 | none => none
 | some es => if es.length ≤ 1000000 then
   match Yz str es with
   | none => none
   | some [] => some (.nilSl, { H with next := H.next + 1 })
   | some cs => some (.own H.next 0 cs.length cs.length 1 false, { H with next := H.next + 1 }.put H.next (.cells cs ty true))
  else none
def B4 (c : Nat) : List UInt8 → Nat
 | [] => 0
 | b :: l => bif Nat.beq b.toNat c then Nat.succ (B4 c l) else B4 c l
def Td (c : Nat) : List UInt8 → Int
 | [] => -1
 | b :: l => bif Nat.beq b.toNat c then 0 else match Td c l with
  | .ofNat n => .ofNat (Nat.succ n)
  | z => z
def lP (H : Heap) : Ext → List AV → Option (AV × Heap)
 | .keys str gs ty, args => mW H str gs ty args
 | .add64, [.int .u64 (.ofNat x), .int .u64 (.ofNat y), .int .u64 (.ofNat c)] => if c ≤ 1 then some (.tup [.int .u64 (.ofNat ((x + y + c) % 2 ^ 64)), .int .u64 (.ofNat ((x + y + c) / 2 ^ 64))], H) else none
 | .sub64, [.int .u64 (.ofNat x), .int .u64 (.ofNat y), .int .u64 (.ofNat c)] => if c ≤ 1 then some (.tup [.int .u64 (.ofNat ((x + 2 ^ 64 - y - c) % 2 ^ 64)), .int .u64 (.ofNat (if x < y + c then 1 else 0))], H) else none
 | .countS, [.str s, .int .u8 (.ofNat c)] => if c < 256 then some (.int .i64 (.ofNat (B4 c s.toList)), H) else none
 | .indexS, [.str s, .int .u8 (.ofNat c)] => if c < 256 then some (.int .i64 (Td c s.toList), H) else none
 | .insert size bytes ty, [.nilSl, .int .i64 (.ofNat i), .own b2 e m c2 f d] =>
  match py H size m (.own b2 e m c2 f d) with
  | some a => if i = 0 ∧ 0 < m ∧ m * bytes ≤ 2 ^ 46 ∧ m < 2 ^ 62 ∧ a.all AV.one = true then some (.own H.next 0 m m size false, { H with next := H.next + 1 }.put H.next (.cells a ty true)) else none
  | none => none
 | .insert size bytes ty, [.own b off n c sz ex, .int .i64 (.ofNat i), .own b2 e m c2 f d] =>
  match py H size m (.own b2 e m c2 f d), H.get b, H.get b2 with
  | some a, some (.cells cs g true), some (.cells _ _ true) =>
   if off = 0 ∧ sz = size ∧ b ≠ b2 ∧ 0 < m ∧ i ≤ n ∧ cs.length = n * size ∧ (n + m) * bytes ≤ 2 ^ 46 ∧ n + m < 2 ^ 62 ∧ g = ty ∧ a.all AV.one = true ∧ cs.all AV.one = true then
    some (.own H.next 0 (n + m) (n + m) size false, ({ H with next := H.next + 1 }.kill b).put H.next (.cells (cs.take (i * size) ++ a ++ cs.drop (i * size)) ty true))
   else none
  | _, _, _ => none
 | _, _ => none
def nT (T : Tm) (H : Heap) (r : Nat × Option (Option Nat)) : Option AV :=
 match r.2 with
 | none => some (eQ T r.1)
 | some k => match eQ T r.1 with
  | .ptr b o => match H.get b with
   | some (.cells cs _ _) => pA cs o k
   | _ => none
  | _ => none
def nL (T : Tm) (H : Heap) (rs : List (Nat × Option (Option Nat))) : Option AV := do
 let vs ← rs.mapM (nT T H)
 match vs with
 | [v] => some v
 | vs => some (.tup vs)
def jl (a : dZ) (m : Nat) (fn : AFn) (args : List AV) (H : Heap) : Option (AV × Heap) :=
 if args.length = fn.nparams then
  match aZ a m false fn.body (args ++ List.replicate (fn.ntmps - args.length) .undef) H with
  | some (.nrm, T, H') => (nL T H' fn.results).map fun v => (v, H')
  | some (.ret, T, H') => (nL T H' fn.results).map fun v => (v, H')
  | _ => none
 else none
/-! Code that is left by a panic: pc says which calls are. -/
abbrev fj := Task → Heap → Option (AV × Heap)
def uu (pc : fj) (ev : Src → AV) (H : Heap) : AOp → Option (AV × Heap)
 | .call f args => do
  let t ← qK (ev f) (args.map ev)
  match t with
  | .fn f as => pc (.fn f as) H
  | _ => none
 | .panic x => match ev x with
  | .ifc t v => some (.ifc t v, H)
  | _ => none
 | _ => none
def nW (a : dZ) (pc : fj) : Nat → List ROp → Tm → Heap → Option (AV × Tm × Heap)
 | _, [], _, _ => none
 | id, o :: os, T, H =>
  match iv T o.guard with
  | some true =>
   match uu pc (Src.ev T) H o.op with
   | some (v, H') => some (v, T, H')
   | none => match gB a (Src.ev T) H id o.op with
    | some (v, H') => nW a pc (id + 1) os (fL T o.dst v) H'
    | none => none
  | some false => nW a pc (id + 1) os (fL T o.dst (.tup [])) H
  | none => none
def mZ (ds : List DOp) : List Nat := ds.filterMap fun d => d.dst
def rI : dZ := fun _ _ => none
def lX (a : List Nat) (d : DOp) : Bool :=
 d.cls == 2 || d.uses.any (fun u => match u.2 with | some j => a.contains j | none => false) || (d.cls == 0 && d.op.looks && d.looks.all fun p => !(p.1 == 0))
def XG (b : dZ) (base : Nat) (T0 : Tm) : Nat → List Nat → List DOp → DS → Option (List Nat × DS)
 | _, a, [], s => some (a, s)
 | i, a, d :: ds, s => if lX a d = true then XG b base T0 (i + 1) (i :: a) ds ⟨s.Vs ++ [.undef], s.Cs, s.Es ++ [none]⟩
  else match lG b base T0 i d s with
   | some c => XG b base T0 (i + 1) a ds c
   | none => none
def afk (base : Nat) (T0 : Tm) (s : DS) (i : Nat) (d : DOp) : Bool :=
 match d.cls, iv (cF T0 s.Vs d.uses) d.guard, bJ (Src.ev (cF T0 s.Vs d.uses)) d.op with
 | 0, some true, none => d.looks.all fun p => !(p.1 == 0) || match bR (Src.ev (cF T0 s.Vs d.uses)) (dU base s.Es (s.Cs.getD p.1 default) p.2) 0 d.op with
  | some (v, _) => AV.beq v (s.Vs.getD i .undef)
  | none => false
 | _, _, _ => true
def Y6 (base : Nat) (T0 : Tm) (s : DS) (a : List Nat) : Nat → List DOp → Bool
 | _, [] => true
 | i, d :: ds => (a.contains i || afk base T0 s i d) && Y6 base T0 s a (i + 1) ds
def l4 (pc : fj) (ds : List DOp) (mid : List Nat) (T : Tm) (H : Heap) : Option (AV × Tm × Heap) :=
 match ds.findIdx? (fun d => d.cls == 2) with
 | none => none
 | some i =>
  match XG rI H.next T 0 [] ds ⟨[], [{ H with next := H.next + (ds.length + 1) }], []⟩ with
  | none => none
  | some (a, s) => if (Y6 H.next T s a 0 ds && !mid.contains i) = true then
    match iv (cF T s.Vs (ds.getD i default).uses) (ds.getD i default).guard, (ds.getD i default).looks with
    | some true, [(0, adds)] => match uu pc (Src.ev (cF T s.Vs (ds.getD i default).uses)) (dU H.next s.Es (s.Cs.getD 0 default) adds) (ds.getD i default).op with
     | some (v, H') => some (v, fX (mZ ds) T, H')
     | none => none
    | _, _ => none
   else none
def kU (a : dZ) (pc : fj) : Nat → List ROp → Tm → Heap → Option (Option AV × Tm × Heap)
 | _, [], T, H => some (none, T, H)
 | id, o :: os, T, H =>
  match iv T o.guard with
  | some true =>
   match uu pc (Src.ev T) H o.op with
   | some (v, H') => some (some v, T, H')
   | none => match gB a (Src.ev T) H id o.op with
    | some (v, H') => kU a pc (id + 1) os (fL T o.dst v) H'
    | none => none
  | some false => kU a pc (id + 1) os (fL T o.dst (.tup [])) H
  | none => none
inductive Xx where
 | ex (e : Ex)
 | pan (v : AV)
 deriving Inhabited
def jK (body : Tm → Heap → Option (Xx × Tm × Heap)) : Nat → Tm → Heap → Option (Xx × Tm × Heap)
 | 0, _, _ => none
 | n + 1, T, H =>
  match body T H with
  | some (.ex .nrm, a, H') => jK body n a H'
  | r => r
def cK (e : dZ) (pc : fj) (m : Nat) (rd : Bool) : ACode → Tm → Heap → Option (Xx × Tm × Heap)
 | .region ops, T, H =>
  match kU e pc H.next ops T { H with next := H.next + ops.length } with
  | some (none, d, H') => some (.ex .nrm, d, H')
  | some (some v, d, H') => some (.pan v, d, H')
  | none => none
 | .draw ds late, T, H =>
  match l4 pc ds [] T H with
  | some (v, d, H') => some (.pan v, d, H')
  | none => match jo e ds late T H with
   | some (d, H') => some (.ex .nrm, d, H')
   | none => none
 | .drawF ds late last mid, T, H =>
  match l4 pc ds mid T H with
  | some (v, d, H') => some (.pan v, d, H')
  | none => match xC e ds late last mid T H with
   | some (d, H') => some (.ex .nrm, d, H')
   | none => none
 | .seq a b, T, H =>
  match cK e pc m rd a T H with
  | some (.ex .nrm, d, H') => cK e pc m rd b d H'
  | r => r
 | .cond c a b, T, H =>
  match c.ev T with
  | .bool true => cK e pc m rd a T H
  | .bool false => cK e pc m rd b T H
  | _ => none
 | .block id body, T, H =>
  match cK e pc m rd body T H with
  | some (.ex (.exit f), d, H') => if f = id then some (.ex .nrm, d, H') else some (.ex (.exit f), d, H')
  | r => r
 | .loop body, T, H => jK (cK e pc m rd body) m T H
 | .scope a, T, H =>
  match cK e pc m rd a T H with
  | some (.ex (.goto _), _, _) => none
  | r => r
 | .scopeL a l rest, T, H =>
  match cK e pc m rd a T H with
  | some (.ex (.goto _), _, _) => match aZ e m rd (.scopeL a l rest) T H with
   | some (x, d, H') => some (.ex x, d, H')
   | none => none
  | r => r
 | c, T, H =>
  match aZ e m rd c T H with
  | some (x, d, H') => some (.ex x, d, H')
  | none => none
def g8 (e : dZ) (pc : fj) (m : Nat) : ABody → Tm → Heap → Option (Option AV × Option AV × Tm × Heap)
 | .code c, T, H => match cK e pc m false c T H with
  | some (.ex .nrm, d, H') => some (none, none, d, H')
  | some (.ex .ret, d, H') => some (none, none, d, H')
  | some (.pan v, d, H') => some (some v, none, d, H')
  | _ => none
 | .seq a b, T, H => match cK e pc m false a T H with
  | some (.ex .nrm, d, H') => g8 e pc m b d H'
  | some (.ex .ret, d, H') => some (none, none, d, H')
  | some (.pan v, d, H') => some (some v, none, d, H')
  | _ => none
 | .dfr ops f b, T, H => match fN e H.next ops T { H with next := H.next + (ops.length + 1) } with
  | some (h, H1) => match f.ev h with
   | .fn (.func g) fs cs => match g8 e pc m b h H1 with
    | some (p, none, d, H') => some (p, some (.fn (.func g) fs cs), d, H')
    | _ => none
   | _ => none
  | none => none
def Cb (f : Nat → Option AFn) (b : dZ) (m : Nat) (p : Option AV) (e : AV) (H : Heap) : Option Heap :=
 match qK e [] with
 | some (.fn g args) => match f g with
  | some a => match a.ext with
   | some (.rcv d c) =>
    if args.length = a.nparams then
     match aZ b m false c ((args ++ List.replicate (a.ntmps - args.length) AV.undef).set d (p.getD .nilIf)) H with
     | some (.nrm, T, H') => (nL T H' a.results).map fun _ => H'
     | some (.ret, T, H') => (nL T H' a.results).map fun _ => H'
     | _ => none
    else none
   | _ => none
  | none => none
 | _ => none
def CD (d : Nat → Option AFn) (a : dZ) (pc : fj) (m : Nat) (fn : AFn) (b : ABody) (args : List AV) (H : Heap) : Option (AV × Heap) :=
 if args.length = fn.nparams then
  match g8 a pc m b (args ++ List.replicate (fn.ntmps - args.length) .undef) H with
  | some (none, none, T, H') => (nL T H' fn.results).map fun v => (v, H')
  | some (p, some c, T, H') => match Cb d a m p c H' with
   | some H2 => (nL T H2 fn.results).map fun v => (v, H2)
   | none => none
  | _ => none
 else none
def iQ (b : Nat → Option AFn) (a : dZ) (pc : fj) (m : Nat) (f : Nat) (args : List AV) (H : Heap) : Option (AV × Heap) :=
 match b f with
 | none => none
 | some fn => match fn.ext with
  | some _ => none
  | none => if args.length = fn.nparams then
    match cK a pc m false fn.body (args ++ List.replicate (fn.ntmps - args.length) .undef) H with
    | some (.pan v, _, H') => some (v, H')
    | _ => none
   else none
def fA (i : Nat → Option AFn) (pc : fj) (a : dZ) (m : Nat) : Task → Heap → Option (AV × Heap)
 | .fn f args, H =>
  match i f with
  | none => none
  | some fn => match fn.ext with
   | some (.dfr b) => CD i a pc m fn b args H
   | some (.keys str gs ty) => match mW H str gs ty args with
    | some r => some r
    | none => jl a m fn args H
   | some e => lP H e args
   | none => jl a m fn args H
 | .ent f args, H =>
  match i f with
  | none => none
  | some fn => match fn.ext with
   | some _ => none
   | none => jl a m fn args H
 | .round b args, H =>
  match H.get b with
  | some (.loop T ps l body .ready none) =>
   if args.length = ps.length then
    match aZ a m true l (kT T (ps.zip args)) H with
    | some (.nrm, j, H1) =>
     match H1.get b with
     | some (.loop k p n o .ready none) =>
      match aZ a m true body j (H1.put b (.loop k p n o .busy none)) with
      | some (x, _, H2) =>
       match H2.get b with
       | some (.loop T2 h c d .busy none) =>
        match x with
        | .nrm => some (.bool true, H2.put b (.loop T2 h c d .ready none))
        | .ret => some (.bool false, H2.put b (.loop T2 h c d .done (some .ret)))
        | .exit id => some (.bool false, H2.put b (.loop T2 h c d .done (some (.exit id))))
        | .goto g => some (.bool false, H2.put b (.loop T2 h c d .done (some (.goto g))))
       | _ => none
      | none => none
     | _ => none
    | _ => none
   else none
  | _ => none
end Go.Proofs.YtopigipibioclaaGreatDoor.Ev

namespace Go.Proofs.YtopigipibioclaaGreatDoor.Ev
open Go
set_option linter.all false

def ke : Nat → Option (List AV) := fun n =>
  bif Nat.beq n 0 then some [(.int .u8 0), (.int .u8 0), (.int .u8 0), (.int .u8 0), (.int .u8 0), (.int .u8 0), (.int .u8 0), (.int .u8 0), (.int .u8 0), (.int .u8 1), (.int .u8 1), (.int .u8 1), (.int .u8 1), (.int .u8 1), (.int .u8 0), (.int .u8 0), (.int .u8 0), (.int .u8 0), (.int .u8 0), (.int .u8 0), (.int .u8 0), (.int .u8 0), (.int .u8 0), (.int .u8 0), (.int .u8 0), (.int .u8 0), (.int .u8 0), (.int .u8 0), (.int .u8 0), (.int .u8 0), (.int .u8 0), (.int .u8 0), (.int .u8 1), (.int .u8 0), (.int .u8 0), (.int .u8 0), (.int .u8 0), (.int .u8 0), (.int .u8 0), (.int .u8 0), (.int .u8 0), (.int .u8 0), (.int .u8 0), (.int .u8 0), (.int .u8 0), (.int .u8 0), (.int .u8 0), (.int .u8 0), (.int .u8 0), (.int .u8 0), (.int .u8 0), (.int .u8 0), (.int .u8 0), (.int .u8 0), (.int .u8 0), (.int .u8 0), (.int .u8 0), (.int .u8 0), (.int .u8 0), (.int .u8 0), (.int .u8 0), (.int .u8 0), (.int .u8 0), (.int .u8 0), (.int .u8 0), (.int .u8 0), (.int .u8 0), (.int .u8 0), (.int .u8 0), (.int .u8 0), (.int .u8 0), (.int .u8 0), (.int .u8 0), (.int .u8 0), (.int .u8 0), (.int .u8 0), (.int .u8 0), (.int .u8 0), (.int .u8 0), (.int .u8 0), (.int .u8 0), (.int .u8 0), (.int .u8 0), (.int .u8 0), (.int .u8 0), (.int .u8 0), (.int .u8 0), (.int .u8 0), (.int .u8 0), (.int .u8 0), (.int .u8 0), (.int .u8 0), (.int .u8 0), (.int .u8 0), (.int .u8 0), (.int .u8 0), (.int .u8 0), (.int .u8 0), (.int .u8 0), (.int .u8 0), (.int .u8 0), (.int .u8 0), (.int .u8 0), (.int .u8 0), (.int .u8 0), (.int .u8 0), (.int .u8 0), (.int .u8 0), (.int .u8 0), (.int .u8 0), (.int .u8 0), (.int .u8 0), (.int .u8 0), (.int .u8 0), (.int .u8 0), (.int .u8 0), (.int .u8 0), (.int .u8 0), (.int .u8 0), (.int .u8 0), (.int .u8 0), (.int .u8 0), (.int .u8 0), (.int .u8 0), (.int .u8 0), (.int .u8 0), (.int .u8 0), (.int .u8 0), (.int .u8 0), (.int .u8 0), (.int .u8 0), (.int .u8 0), (.int .u8 0), (.int .u8 0), (.int .u8 0), (.int .u8 0), (.int .u8 0), (.int .u8 0), (.int .u8 0), (.int .u8 0), (.int .u8 0), (.int .u8 0), (.int .u8 0), (.int .u8 0), (.int .u8 0), (.int .u8 0), (.int .u8 0), (.int .u8 0), (.int .u8 0), (.int .u8 0), (.int .u8 0), (.int .u8 0), (.int .u8 0), (.int .u8 0), (.int .u8 0), (.int .u8 0), (.int .u8 0), (.int .u8 0), (.int .u8 0), (.int .u8 0), (.int .u8 0), (.int .u8 0), (.int .u8 0), (.int .u8 0), (.int .u8 0), (.int .u8 0), (.int .u8 0), (.int .u8 0), (.int .u8 0), (.int .u8 0), (.int .u8 0), (.int .u8 0), (.int .u8 0), (.int .u8 0), (.int .u8 0), (.int .u8 0), (.int .u8 0), (.int .u8 0), (.int .u8 0), (.int .u8 0), (.int .u8 0), (.int .u8 0), (.int .u8 0), (.int .u8 0), (.int .u8 0), (.int .u8 0), (.int .u8 0), (.int .u8 0), (.int .u8 0), (.int .u8 0), (.int .u8 0), (.int .u8 0), (.int .u8 0), (.int .u8 0), (.int .u8 0), (.int .u8 0), (.int .u8 0), (.int .u8 0), (.int .u8 0), (.int .u8 0), (.int .u8 0), (.int .u8 0), (.int .u8 0), (.int .u8 0), (.int .u8 0), (.int .u8 0), (.int .u8 0), (.int .u8 0), (.int .u8 0), (.int .u8 0), (.int .u8 0), (.int .u8 0), (.int .u8 0), (.int .u8 0), (.int .u8 0), (.int .u8 0), (.int .u8 0), (.int .u8 0), (.int .u8 0), (.int .u8 0), (.int .u8 0), (.int .u8 0), (.int .u8 0), (.int .u8 0), (.int .u8 0), (.int .u8 0), (.int .u8 0), (.int .u8 0), (.int .u8 0), (.int .u8 0), (.int .u8 0), (.int .u8 0), (.int .u8 0), (.int .u8 0), (.int .u8 0), (.int .u8 0), (.int .u8 0), (.int .u8 0), (.int .u8 0), (.int .u8 0), (.int .u8 0), (.int .u8 0), (.int .u8 0), (.int .u8 0), (.int .u8 0), (.int .u8 0), (.int .u8 0), (.int .u8 0), (.int .u8 0), (.int .u8 0), (.int .u8 0), (.int .u8 0), (.int .u8 0), (.int .u8 0), (.int .u8 0), (.int .u8 0)] else
  none

end Go.Proofs.YtopigipibioclaaGreatDoor.Ev

namespace Go.Proofs.YtopigipibioclaaGreatDoor.Ev
open Go
set_option linter.all false
def lZ : Value → Option AV
 | .bool b => some (.bool b)
 | .int k n => some (.int k n)
 | .string s => some (.str s)
 | .pointer none => some .nilPtr
 | .slice none 0 0 => some .nilSl
 | .map none => some .nilMap
 | .nilFunc => some .nilFn
 | .nilIface => some .nilIf
 | .func f a b => if a.size = 0 ∧ b.size = 0 then some (.fn f [] []) else none
 | _ => none
def ans (v : Value) : Option (List AV) := v.cells.toList.mapM lZ
def CF : Value → Option AV
 | .agg cs => do some (.agg (← cs.toList.mapM lZ))
 | .tuple vs => if vs.size = 0 then some (.tup []) else none
 | v => lZ v
def cH : Operand → Option Src
 | .tmp t => some (.t t)
 | .const v => (CF v).map .c
 | .global _ => none
 | .func f => some (.c (.fn (.func f) [] []))
def aow : Operand → Option (List AV)
 | .global g => ke g
 | _ => none
def XB : Operand → Bool
 | .const _ => true
 | _ => false
def lC : Option Operand → Option (Option Src)
 | none => some none
 | some x => (cH x).map some
section
variable (P : Program)
def l9 (t : TypeId) : Option (List AV) := do
 let i ← P.info? t
 let z ← i.zero
 ans z
def gz (t : TypeId) : Option Nat := (P.info? t).map (·.size)
def qP (t : TypeId) : Option Nat := (P.info? t).map (·.bytes)
def iy (t : TypeId) : Option (Option Nat) := do
 match ← P.underlying t with
 | .struct _ => (gz P t).map some
 | .array _ _ => (gz P t).map some
 | _ => some none
def ae6 (fs : Array Field) : Option (List (Nat × Nat)) := fs.toList.mapM fun f => (gz P f.type).map fun n => (f.offset, n)
def aeu (t : TypeId) : Bool :=
 match P.underlying t with
 | some (.array 2 e) => (match P.underlying e with | some .bool => true | _ => false) && (gz P e == some 1)
 | _ => false
def Ck (t : TypeId) : Nat :=
 match P.underlying t with
 | some (.struct fs) => if (fs.toList.zipIdx.all fun p => p.1.name != "_" && (p.1.offset == p.2 && (match P.underlying p.1.type with | some (.int _) => true | _ => false))) && !P.stoodInHeld t then fs.size else 0
 | _ => 0
def x7 (t : TypeId) : Bool := match P.underlying t with
 | some (.interface _) => true
 | _ => false
def t8 (t : TypeId) : Option BK :=
 match P.underlying t with
 | some (.int _) => some .int
 | some .bool => some .bool
 | some .string => some .str
 | some (.slice _) => some .sl
 | _ => none
def l3 (t : TypeId) : Bool :=
 match P.underlying t with
 | some (.int _) | some .string => true
 | _ => false
def iA (o : Oper) : Option AOp :=
 match o.op with
 | .move x | .assign x => (cH x).map .mv
 | .pick c a b => do some (.pick (← cH c) (← cH a) (← cH b))
 | .alloc e => do some (.alloc e (← l9 P e))
 | .box e x => do
  let _ ← gz P e
  some (.box e (← cH x))
 | .build t parts => do
  let z ← l9 P t
  match ← P.underlying t with
  | .struct fs => do
   let pl ← ae6 P fs
   let ps ← parts.toList.mapM fun (i, x) => do some ((← pl[i]?), (← cH x))
   some (.build z ps)
  | .array _ e => do
   let n ← gz P e
   let ps ← parts.toList.mapM fun (i, x) => do some ((i * n, n), (← cH x))
   some (.build z ps)
  | _ => none
 | .buildSlice t len parts => do
  match ← P.underlying t with
  | .slice e => do
   let n ← gz P e
   let z ← l9 P e
   let ps ← parts.toList.mapM fun (i, x) => do some ((i * n, n), (← cH x))
   if len * n ≤ 2 ^ 24 ∧ z.length = n then some (.buildSlice e n ((List.replicate len z).flatten) len ps) else none
  | _ => none
 | .load t x => match aow x with
  | some cs => do some (.globLoad (← iy P t) cs)
  | none => do some (.load (← iy P t) (← cH x))
 | .store t x v => do some (.store (← gz P t) (← cH x) (← cH v))
 | .nilCheck x => (cH x).map .nilCheck
 | .binOp op t x y _ =>
  if aeu P t then
   match op with
   | .eql => do some (.eqAgg false 0 (← cH x) (← cH y))
   | .neq => do some (.eqAgg true 0 (← cH x) (← cH y))
   | _ => none
  else if Ck P t ≠ 0 then
   match op with
   | .eql => do some (.eqAgg false (Ck P t) (← cH x) (← cH y))
   | .neq => do some (.eqAgg true (Ck P t) (← cH x) (← cH y))
   | _ => none
  else if x7 P t then (if XB x || XB y then do some (.bin op .ifc (← cH x) (← cH y)) else none)
  else do some (.bin op (← t8 P t) (← cH x) (← cH y))
 | .unOp op _ x => do some (.un op (← cH x))
 | .convert a b x => do
  match ← P.underlying a, ← P.underlying b with
  | .int _, .int k => do some (.conv k (← cH x))
  | .string, .string => do some (.strId (← cH x))
  | .slice e, .string => do
   match ← P.underlying e with
   | .int .u8 => some (.toStr (← cH x))
   | _ => none
  | .string, .slice e => do
   match ← P.underlying e with
   | .int .u8 => do
    let n ← gz P e
    if n = 1 then some (.toBytes e (← cH x)) else none
   | _ => none
  | _, _ => none
 | .makeInterface t x => do
  match ← P.underlying t with
  | .interface _ => none
  | _ => some (.iface t (← cH x))
 | .makeFunc f first cap => do some (.mkfn f (← first.toList.mapM cH) (← cap.toList.mapM cH))
 | .makeMap t r => do
  match ← P.underlying t with
  | .map _ _ => if r.isNone then some .mkmap else none
  | _ => none
 | .makeSlice t l c => do
  match ← P.underlying t with
  | .slice e => do some (.mksl e (← gz P e) (← qP P e) (← l9 P e) (← cH l) (← cH c))
  | _ => none
 | .slice t x lo hi mx => do
  match ← P.underlying t with
  | .slice e => do some (.slice (← gz P e) (← cH x) (← lC lo) (← lC hi) (← lC mx))
  | .string => if mx.isSome then none else do some (.sliceStr (← cH x) (← lC lo) (← lC hi))
  | _ => none
 | .fieldAddr t x i => do
  match ← P.underlying t with
  | .struct fs => do
   let f ← fs[i]?
   let n ← gz P f.type
   if n = 0 then none else some (.fieldAddr f.offset (← cH x))
  | _ => none
 | .field t x i => do
  match ← P.underlying t with
  | .struct fs => do let f ← fs[i]?; some (.field (← iy P f.type) f.offset (← cH x))
  | _ => none
 | .indexAddr t x i => do
  match ← P.underlying t with
  | .slice e => do some (.indexAddr (← gz P e) (← cH x) (← cH i))
  | .array n e => match aow x with
   | some cs => do some (.globIdx cs n (← gz P e) (← cH i))
   | none => do some (.indexArr n (← gz P e) (← cH x) (← cH i))
  | _ => none
 | .index t x i => do
  match ← P.underlying t with
  | .array n e => do some (.indexAgg n (← gz P e) (← iy P e) (← cH x) (← cH i))
  | .string => do some (.indexStr (← cH x) (← cH i))
  | _ => none
 | .lookup t x i ok => do
  match ← P.underlying t with
  | .map k e =>
   if l3 P k then do
    let z ← (P.info? e).bind (·.zero)
    some (.lookup (← t8 P k) (← CF z) (← cH x) (← cH i) ok)
   else none
  | _ => none
 | .mapUpdate t m k v | .insert t m k v => do
  match ← P.underlying t with
  | .map kt _ => if l3 P kt then do some (.mapUpd (← t8 P kt) (← cH m) (← cH k) (← cH v)) else none
  | _ => none
 | .extract x i => do some (.extract i (← cH x))
 | .call c => do
  let args ← c.args.toList.mapM cH
  match c.callee with
  | .value f => do some (.call (← cH f) args)
  | .invoke _ _ => none
  | .builtin b =>
   match b, args, c.argTypes.toList with
   | .len, [x], [t] => do
    match ← P.underlying t with
    | .slice _ => some (.len x)
    | .string => some (.lenStr x)
    | .map _ _ => some (.lenMap x)
    | _ => none
   | .cap, [x], [t] => do
    match ← P.underlying t with
    | .slice _ => some (.cap x)
    | _ => none
   | .min, xs, _ => some (.min xs)
   | .max, xs, _ => some (.max xs)
   | .append, [x, y], [t, t'] => do
    match ← P.underlying t, ← P.underlying t' with
    | .slice e, .slice _ => do
     let n ← gz P e; let z ← l9 P e
     if z.length = n then some (.append n (← qP P e) e z x y) else none
    | .slice e, .string => do
     let n ← gz P e; let z ← l9 P e
     if z.length = n then some (.append n (← qP P e) e z x y) else none
    | .slice e, .int .i64 => do
     let n ← gz P e; let z ← l9 P e
     if z.length = n then some (.appendZ n (← qP P e) e z x y) else none
    | _, _ => none
   | .clear, [x], [t] => do
    match ← P.underlying t with
    | .slice e => do some (.clear (← gz P e) (← l9 P e) x)
    | _ => none
   | .copy, [x, y], [t, _] => do
    match ← P.underlying t with
    | .slice e => do some (.copy (← gz P e) x y)
    | _ => none
   | _, _, _ => none
 | .panic x => (cH x).map .panic
 | .typeAssert x _ t ok => do
  match ← P.underlying t with
  | .interface _ => none
  | _ => do
   let z ← (P.info? t).bind (·.zero)
   some (.tassert t (← CF z) ok (← cH x))
 | .range t x => do
  match ← P.underlying t with
  | .string => some (.rangeS (← cH x))
  | _ => none
 | .next x s => if s = true then (cH x).map .nextS else none
 | _ => none
def Xv (ops : Array Oper) : Option (Nat × Bool) → Option (Option (Nat × Bool))
 | none => some none
 | some (j, b) => match ops[j]? with
  | none => none
  | some a => match a.dst with
   | none => none
   | some d => some (some (d, b))
def jj (ops : Array Oper) (o : Oper) : Option ROp :=
 (Xv ops o.guard).map fun g => { dst := o.dst, op := (iA P o).getD .bad, guard := g }
/-! Regions whose order is open: what must be ahead of what, and the rest that such a region asks. -/
def gr : Src → List Nat
 | .t n => [n]
 | .c _ => []
def oT : Option Src → List Nat
 | some s => gr s
 | none => []
def AOp.slots : AOp → List Nat
 | .mv x | .box _ x | .load _ x | .nilCheck x | .un _ x | .conv _ x | .strId x | .iface _ x | .fieldAddr _ x | .field _ _ x | .extract _ x | .len x | .lenStr x | .lenMap x | .cap x | .clear _ _ x | .toStr x | .toBytes _ x | .rangeS x | .nextS x | .tassert _ _ _ x | .globIdx _ _ _ x | .panic x => gr x
 | .pick a b c => gr a ++ gr b ++ gr c
 | .build _ ps | .buildSlice _ _ _ _ ps => ps.flatMap fun p => gr p.2
 | .store _ x y | .bin _ _ x y | .eqAgg _ _ x y | .indexAddr _ x y | .indexArr _ _ x y | .indexAgg _ _ _ x y | .indexStr x y | .lookup _ _ x y _ | .mksl _ _ _ _ x y | .append _ _ _ _ x y | .appendZ _ _ _ _ x y | .copy _ x y => gr x ++ gr y
 | .mkfn _ a b => a.flatMap gr ++ b.flatMap gr
 | .slice _ x a b c => gr x ++ oT a ++ oT b ++ oT c
 | .sliceStr x a b => gr x ++ oT a ++ oT b
 | .mapUpd _ a b c => gr a ++ gr b ++ gr c
 | .min xs | .max xs => xs.flatMap gr
 | .call f xs => gr f ++ xs.flatMap gr
 | .alloc .. | .mkmap | .bad | .globLoad .. => []
def kG (o : Oper) : List Nat := (o.after.toList.filter (Region.binds .any)).map (·.on)
def YB (ops : List Oper) : List (List Nat) :=
 ops.foldl (fun acc o => acc ++ [((kG o).flatMap fun j => j :: acc.getD j []).eraseDups]) []
def yf (a : AOp) : Nat := if a.isPure || a.looks then 0 else if a.makes then 1 else 2
structure DI where
 dst : Option Nat
 op : AOp
 guard : Option (Nat × Bool)
 preds : List Nat
 cls : Nat
 deriving Inhabited
def Yv (l : List DI) (i : Nat) (p : List Nat) (t : Nat) : Option Nat :=
 (List.range i).foldl (fun acc j => if p.contains j && ((l.getD j default).dst == some t) then some j else acc) none
def dR (l : List DI) : List Nat := (List.range l.length).filter fun i => (l.getD i default).cls == 2
def lF (l : List DI) (k : Nat) : List Nat :=
 match k with
 | 0 => []
 | k + 1 => let w := (dR l).getD k 0; (List.range l.length).filter fun a => (l.getD a default).cls == 1 && (l.getD w default).preds.contains a
def ak6 (l : List DI) (i : Nat) : List (Nat × List Nat) :=
 let d := l.getD i default
 let b := dR l
 let lo := (b.filter fun w => d.preds.contains w).length
 let hi := if d.cls == 2 then lo else b.length - (b.filter fun w => (l.getD w default).preds.contains i).length
 (List.range (hi + 1 - lo)).map fun x => (lo + x, (List.range l.length).filter fun a => (l.getD a default).cls == 1 && d.preds.contains a && !(lF l (lo + x)).contains a)
def xD (l : List DI) : List Nat := (List.range l.length).filter fun a => (l.getD a default).cls == 1 && !(lF l (dR l).length).contains a
def anx (ops : List Oper) (l : List DI) : Bool :=
 (List.range l.length).all fun i => ((kG (ops.getD i default)).all fun j => decide (j < i)) &&
  (l.getD i default).preds.all fun p => (kG (ops.getD i default)).any fun j => p == j || (l.getD j default).preds.contains p
def aod (l : List DI) : Bool :=
 (List.range l.length).all fun j => (List.range j).all fun i =>
  ((l.getD i default).dst.isNone || (l.getD i default).dst != (l.getD j default).dst || (l.getD j default).preds.contains i) &&
  (!((l.getD i default).cls == 2 && (l.getD j default).cls == 2) || (l.getD j default).preds.contains i)
def rC (l : List DI) (i : Nat) (u : Nat × Option Nat) : Bool :=
 match u.2 with
 | some j => (l.getD i default).preds.contains j && (l.getD j default).dst == some u.1 && decide (j < i) &&
   (List.range l.length).all fun j' => (l.getD j' default).dst != some u.1 || decide (j' ≤ j) || (l.getD j' default).preds.contains i || j' == i
 | none => (List.range l.length).all fun j' => (l.getD j' default).dst != some u.1 || j' == i || (l.getD j' default).preds.contains i
def rB (l : List DI) (ds : List DOp) : Bool := (List.range l.length).all fun i => (ds.getD i default).uses.all (rC l i)
def rE (l : List DI) (i : Nat) (p : Nat × List Nat) : Bool :=
 p.2.all fun a => (l.getD i default).preds.contains a && (l.getD a default).cls == 1 && !(lF l p.1).contains a && decide (a < i)
def rD (l : List DI) (i : Nat) (looks : List (Nat × List Nat)) : Bool :=
 (List.range ((dR l).length + 1)).all fun k =>
  ((List.range (dR l).length).any fun q => ((l.getD i default).preds.contains ((dR l).getD q 0) && decide (k ≤ q)) || ((l.getD ((dR l).getD q 0) default).preds.contains i && decide (q < k))) ||
  looks.any fun p => p.1 == k
def xY (l : List DI) (i : Nat) (looks : List (Nat × List Nat)) : Bool :=
 match looks with
 | [p] => decide (p.1 < (dR l).length) && (dR l).getD p.1 0 == i && (List.range l.length).all fun a => (lF l (p.1 + 1)).contains a == ((lF l p.1).contains a || p.2.contains a)
 | _ => false
def aoq (l : List DI) (ds : List DOp) : Bool :=
 (List.range l.length).all fun i => ((ds.getD i default).looks.all (rE l i)) &&
  (if (l.getD i default).cls = 0 then rD l i (ds.getD i default).looks else if (l.getD i default).cls = 1 then true else xY l i (ds.getD i default).looks)
def Yb (ops : List Oper) (l : List DI) (ds : List DOp) : Bool := anx ops l && aod l && rB l ds && aoq l ds
def Cv (ops : Array Oper) (a : List (List Nat)) (o : Oper) (i : Nat) : Option DI :=
 (Xv ops o.guard).map fun g => { dst := o.dst, op := (iA P o).getD .bad, guard := g, preds := a.getD i [], cls := yf ((iA P o).getD .bad) }
def px (ops : Array Oper) : Option (List DOp × List Nat) :=
 let a := YB ops.toList
 match (ops.toList.zipIdx).mapM fun (o, i) => Cv P ops a o i with
 | none => none
 | some l =>
  let ds := (List.range l.length).map fun i =>
   let d := l.getD i default
   { dst := d.dst, op := d.op, guard := d.guard, uses := ((d.op.slots ++ (match d.guard with | some (t, _) => [t] | none => [])).eraseDups).map fun t => (t, Yv l i d.preds t), cls := d.cls, looks := ak6 l i : DOp }
  if Yb ops.toList l ds = true then some (ds, xD l) else none
/-! A store, the last operation, that may come ahead of others. -/
def aox (l : List DI) (p : List Nat) (u : Nat × Option Nat) : Bool :=
 match u.2 with
 | some j => p.contains j && (l.getD j default).dst == some u.1 && decide (j < l.length) && (List.range l.length).all fun j' => (l.getD j' default).dst != some u.1 || decide (j' ≤ j)
 | none => (List.range l.length).all fun j' => (l.getD j' default).dst != some u.1
def AOp.isStore : AOp → Bool
 | .store .. => true
 | _ => false
def CP : Op → Bool
 | .store .. => true
 | _ => false
def yi (d : DOp) : Bool :=
 d.guard.isNone && ((d.cls == 0 && !d.op.looks) || (d.cls == 2 && d.op.isStore && (match d.looks with | [(_, [])] => true | _ => false)))
def Yi (ops : Array Oper) : Option (List DOp × List Nat × DOp × List Nat) :=
 let a := YB ops.toList
 let n := ops.size - 1
 match ((ops.toList.take n).zipIdx).mapM fun (o, i) => Cv P ops a o i with
 | none => none
 | some l =>
  let ds := (List.range l.length).map fun i =>
   let d := l.getD i default
   { dst := d.dst, op := d.op, guard := d.guard, uses := ((d.op.slots ++ (match d.guard with | some (t, _) => [t] | none => [])).eraseDups).map fun t => (t, Yv l i d.preds t), cls := d.cls, looks := ak6 l i : DOp }
  match ops.toList[n]? with
  | none => none
  | some o =>
   let p := a.getD n []
   let op := (iA P o).getD .bad
   let last : DOp := { dst := none, op := op, guard := none, uses := (op.slots.eraseDups).map fun t => (t, Yv l n p t), cls := 2, looks := [] }
   let mid := (List.range n).filter fun j => !p.contains j
   if (Yb (ops.toList.take n) l ds && o.dst.isNone && o.guard.isNone && CP o.op && last.uses.all (aox l p) && mid.all (fun j => yi (ds.getD j default)) &&
     ((kG o).all fun j => decide (j < n)) && p.all fun q => (kG o).any fun j => q == j || (l.getD j default).preds.contains q) = true then some (ds, xD l, last, mid) else none
def pk (ops : List ROp) : List Nat := ops.filterMap fun o => o.dst
def ACode.dsts : ACode → List Nat
 | .region ops => pk ops
 | .draw ds _ => mZ ds
 | .drawF ds _ _ _ => mZ ds
 | .seq a b => a.dsts ++ b.dsts
 | .cond _ a b => a.dsts ++ b.dsts
 | .block _ a => a.dsts
 | .loop a => a.dsts
 | .scope a => a.dsts
 | .scopeL a _ _ => a.dsts
 | .rangeFunc _ _ a b => a.dsts ++ b.dsts
 | .rangeM pre _ it nx ex _ _ en ops rest _ => it :: nx :: ex :: en :: (pk pre ++ pk ops ++ rest.dsts)
 | _ => []
def rT (t : TypeId) : Bool := match P.underlying t with
 | some (.map _ _) => true
 | _ => false
def YY (ops : Array Oper) : Option (List Oper × Operand × Nat) :=
 match ops.toList.getLast? with
 | some { op := .range t x, dst := some it, guard := none, .. } => if rT P t = true then some (ops.toList.dropLast, x, it) else none
 | _ => none
def YM (ops : Array Oper) : Option (Nat × Nat × Nat) :=
 match ops.toList with
 | [{ op := .next (.tmp it) false, dst := some nx, guard := none, .. }, { op := .extract (.tmp a) 0, dst := some ex, guard := none, .. }] => if nx = a then some (it, nx, ex) else none
 | _ => none
def XV (ops : Array Oper) : Option (Nat × Nat × List Oper) :=
 match ops.toList with
 | { op := .entry (.tmp it), dst := some en, guard := none, .. } :: os => some (it, en, os)
 | _ => none
def Yl : ACode → Option Nat
 | .seq a b => match Yl a with | some l => some l | none => Yl b
 | .scopeL .skip l .skip => some l
 | _ => none
def mJ : ACode → Nat → Option ACode
 | .seq a b, l => match mJ a l with | some r => some (.seq r b) | none => mJ b l
 | .scopeL .skip c .skip, l => if c == l then some .skip else none
 | _, _ => none
def Xw (a : ACode) : ACode := match Yl a with
 | some l => match mJ a l with
  | some r => .scopeL a l r
  | none => .scope a
 | none => .scope a
def kg : ACode := .rangeFunc (.c .undef) [] .skip .skip
def bB : Code → Option ACode
 | .skip => some .skip
 | .label l => some (.scopeL .skip l .skip)
 | .region _ ops draw => if draw then (match px P ops with | some p => some (.draw p.1 p.2) | none => match Yi P ops with | some p => some (.drawF p.1 p.2.1 p.2.2.1 p.2.2.2) | none => some kg) else (ops.toList.mapM (jj P ops)).map .region
 | .seq (.region o d false) (.block bid (.loop (.seq (.region j i false) (.seq (.cond (.tmp h) .skip (.exit g)) (.block bid2 (.seq (.region k e false) rest)))))) =>
  match YY P d, YM i, XV e with
  | some (pre, x, it), some (m, nx, ex), some (n, en, os) =>
   if m = it ∧ n = it ∧ h = ex ∧ g = bid ∧ bid ≠ bid2 ∧ nx ≠ it ∧ ex ≠ it ∧ en ≠ it then do
    let pre ← pre.mapM (jj P d)
    let os ← os.mapM (jj P e)
    let rest ← bB rest
    some (.rangeM pre (← cH x) it nx ex bid bid2 en os rest (pk os ++ rest.dsts))
   else some kg
  | _, _, _ => do some (.seq (← (d.toList.mapM (jj P d)).map .region) (← bB (.block bid (.loop (.seq (.region j i false) (.seq (.cond (.tmp h) .skip (.exit g)) (.block bid2 (.seq (.region k e false) rest))))))))
 | .seq a b => do some (.seq (← bB a) (← bB b))
 | .cond c a b => do some (.cond (← cH c) (← bB a) (← bB b))
 | .block id a => do some (.block id (← bB a))
 | .loop a => do some (.loop (← bB a))
 | .rangeFunc f ps a b => do some (.rangeFunc (← cH f) ps.toList (← bB a) (← bB b))
 | .exit id => some (.exit id)
 | .goto l => some (.goto l)
 | .ret => some .ret
 | .scope a => do some (Xw (← bB a))
 | .refuse _ => some kg
def i3 : ResultVar → Option (Nat × Option (Option Nat))
 | .tmp t => some (t, none)
 | .cell a t => do some (a, some (← iy P t))
def YG : Code → Option (Array Oper × List Oper × Operand)
 | .region _ ops false => match ops.toList.getLast? with
  | some { op := .defer { callee := .value g, args, .. }, dst := none, guard := none, .. } => if args.size = 0 then some (ops, ops.toList.dropLast, g) else none
  | _ => none
 | _ => none
def l6 : Code → Option ABody
 | .seq a b => match YG a with
  | some (ops, os, g) => do some (.dfr (← os.mapM (jj P ops)) (← cH g) (← (bB P b).map .code))
  | none => match l6 b with
   | some b' => do some (.seq (← bB P a) b')
   | none => none
 | _ => none
def YN : Code → Option (Nat × Code)
 | .seq (.region _ ops false) b => match ops.toList with
  | [{ op := .call { callee := .builtin .recover, args, .. }, dst := some d, guard := none, .. }] => if args.size = 0 then some (d, b) else none
  | _ => none
 | _ => none
def alc : ACode → List Nat
 | .region ops => ops.filterMap fun o => match o.op with | .mkfn (.func g) _ _ => some g | _ => none
 | .seq a b => alc a ++ alc b
 | _ => []
def rP (fn : Func) : List Nat :=
 P.funcs.toList.flatMap fun g => if g.origin = "maps.Keys" then (if g.targs[1]? = fn.targs[0]? then (match g.body with | some b => alc ((bB P b).getD .skip) | none => []) else []) else []
def lD (fn : Func) : Option AFn := do
 if fn.name = "math/bits.Add64" then some { nparams := 3, ntmps := 3, results := [], body := .skip, ext := some .add64 } else
 if fn.name = "math/bits.Sub64" then some { nparams := 3, ntmps := 3, results := [], body := .skip, ext := some .sub64 } else
 if fn.name = "internal/bytealg.CountString" then some { nparams := 2, ntmps := 2, results := [], body := .skip, ext := some .countS } else
 if fn.name = "internal/bytealg.IndexByteString" then some { nparams := 2, ntmps := 2, results := [], body := .skip, ext := some .indexS } else
 if fn.origin = "slices.Insert" then do
  match ← P.underlying (← fn.params[0]?) with
  | .slice e => some { nparams := 3, ntmps := 3, results := [], body := .skip, ext := some (.insert (← gz P e) (← qP P e) e) }
  | _ => none
 else do
 let b ← fn.body
 if fn.name = "runtime.NumGoroutine" then none else
 if fn.origin = "slices.Sorted" then do
  match ← P.underlying (← fn.targs[0]?) with
  | .int .i64 => some { nparams := fn.params.size + fn.nfree, ntmps := fn.ntmps, results := (← fn.results.toList.mapM (i3 P)), body := (← bB P b), ext := some (.keys false (rP P fn) (← fn.targs[0]?)) }
  | .string => some { nparams := fn.params.size + fn.nfree, ntmps := fn.ntmps, results := (← fn.results.toList.mapM (i3 P)), body := (← bB P b), ext := some (.keys true (rP P fn) (← fn.targs[0]?)) }
  | _ => none
 else
 match YN b with
 | some (d, c) => some { nparams := fn.params.size + fn.nfree, ntmps := fn.ntmps, results := (← fn.results.toList.mapM (i3 P)), body := .skip, ext := some (.rcv d (← bB P c)) }
 | none => match l6 P b with
  | some a => some { nparams := fn.params.size + fn.nfree, ntmps := fn.ntmps, results := (← fn.results.toList.mapM (i3 P)), body := .skip, ext := some (.dfr a) }
  | none => some { nparams := fn.params.size + fn.nfree, ntmps := fn.ntmps, results := (← fn.results.toList.mapM (i3 P)), body := (← bB P b) }
end
end Go.Proofs.YtopigipibioclaaGreatDoor.Ev
