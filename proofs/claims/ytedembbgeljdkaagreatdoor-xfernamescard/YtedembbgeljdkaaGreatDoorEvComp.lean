/-
  THE EVALUATOR's OWN CODE OUT OF THE TRANSLATION's: a region's operations with sizes, places and zero values looked up.
-/
import Derived.Test.YtedembbgeljdkaaGreatDoorEvDefs
import Derived.Test.YtedembbgeljdkaaGreatDoorEvGlob
namespace Go.Proofs.YtedembbgeljdkaaGreatDoor.Ev
open Go
set_option linter.all false

def oneAV : Value → Option AV
  | .bool b => some (.bool b)
  | .int k n => some (.int k n)
  | .string s => some (.str s)
  | .pointer none => some .nilPtr
  | .slice none 0 0 => some .nilSl
  | .map none => some .nilMap
  | .nilFunc => some .nilFn
  | .nilIface => some .nilIf
  | .func f a b => if a.size = 0 ∧ b.size = 0 then some (.fn f [] []) else none
  | _ => none

def cellsAV (v : Value) : Option (List AV) := v.cells.toList.mapM oneAV

def constAV : Value → Option AV
  | .agg cs => do some (.agg (← cs.toList.mapM oneAV))
  | .tuple vs => if vs.size = 0 then some (.tup []) else none
  | v => oneAV v

def cSrc : Operand → Option Src
  | .tmp t => some (.t t)
  | .const v => (constAV v).map .c
  | .global _ => none
  | .func f => some (.c (.fn (.func f) [] []))

def globOf : Operand → Option (List AV)
  | .global g => Glob g
  | _ => none

def isConst : Operand → Bool
  | .const _ => true
  | _ => false

def cOSrc : Option Operand → Option (Option Src)
  | none => some none
  | some x => (cSrc x).map some

section
variable (P : Program)

def zeroCells? (t : TypeId) : Option (List AV) := do
  let i ← P.info? t
  let z ← i.zero
  cellsAV z

def sizeOf? (t : TypeId) : Option Nat := (P.info? t).map (·.size)
def bytesOf? (t : TypeId) : Option Nat := (P.info? t).map (·.bytes)

def loadK (t : TypeId) : Option (Option Nat) := do
  match ← P.underlying t with
  | .struct _ => (sizeOf? P t).map some
  | .array _ _ => (sizeOf? P t).map some
  | _ => some none

def structPlaces (fs : Array Field) : Option (List (Nat × Nat)) := fs.toList.mapM fun f => (sizeOf? P f.type).map fun n => (f.offset, n)

def isTwoBools (t : TypeId) : Bool :=
  match P.underlying t with
  | some (.array 2 e) => (match P.underlying e with | some .bool => true | _ => false) && (sizeOf? P e == some 1)
  | _ => false

def isIfc (t : TypeId) : Bool := match P.underlying t with
  | some (.interface _) => true
  | _ => false

def binKind (t : TypeId) : Option BK :=
  match P.underlying t with
  | some (.int _) => some .int
  | some .bool => some .bool
  | some .string => some .str
  | some (.slice _) => some .sl
  | _ => none

def keyOk (t : TypeId) : Bool :=
  match P.underlying t with
  | some (.int _) | some .string => true
  | _ => false

def cOp (o : Oper) : Option AOp :=
  match o.op with
  | .move x | .assign x => (cSrc x).map .mv
  | .pick c a b => do some (.pick (← cSrc c) (← cSrc a) (← cSrc b))
  | .alloc e => do some (.alloc e (← zeroCells? P e))
  | .box e x => do
    let _ ← sizeOf? P e
    some (.box e (← cSrc x))
  | .build t parts => do
    let z ← zeroCells? P t
    match ← P.underlying t with
    | .struct fs => do
      let pl ← structPlaces P fs
      let ps ← parts.toList.mapM fun (i, x) => do some ((← pl[i]?), (← cSrc x))
      some (.build z ps)
    | .array _ e => do
      let n ← sizeOf? P e
      let ps ← parts.toList.mapM fun (i, x) => do some ((i * n, n), (← cSrc x))
      some (.build z ps)
    | _ => none
  | .buildSlice t len parts => do
    match ← P.underlying t with
    | .slice e => do
      let n ← sizeOf? P e
      let z ← zeroCells? P e
      let ps ← parts.toList.mapM fun (i, x) => do some ((i * n, n), (← cSrc x))
      if len * n ≤ 2 ^ 24 ∧ z.length = n then some (.buildSlice e n ((List.replicate len z).flatten) len ps) else none
    | _ => none
  | .load t x => match globOf x with
    | some cs => do some (.globLoad (← loadK P t) cs)
    | none => do some (.load (← loadK P t) (← cSrc x))
  | .store t x v => do some (.store (← sizeOf? P t) (← cSrc x) (← cSrc v))
  | .nilCheck x => (cSrc x).map .nilCheck
  | .binOp op t x y _ =>
    if isTwoBools P t then
      match op with
      | .eql => do some (.eqAgg false (← cSrc x) (← cSrc y))
      | .neq => do some (.eqAgg true (← cSrc x) (← cSrc y))
      | _ => none
    else if isIfc P t then (if isConst x || isConst y then do some (.bin op .ifc (← cSrc x) (← cSrc y)) else none)
    else do some (.bin op (← binKind P t) (← cSrc x) (← cSrc y))
  | .unOp op _ x => do some (.un op (← cSrc x))
  | .convert a b x => do
    match ← P.underlying a, ← P.underlying b with
    | .int _, .int k => do some (.conv k (← cSrc x))
    | .string, .string => do some (.strId (← cSrc x))
    | .slice e, .string => do
      match ← P.underlying e with
      | .int .u8 => some (.toStr (← cSrc x))
      | _ => none
    | .string, .slice e => do
      match ← P.underlying e with
      | .int .u8 => do
        let n ← sizeOf? P e
        if n = 1 then some (.toBytes e (← cSrc x)) else none
      | _ => none
    | _, _ => none
  | .makeInterface t x => do
    match ← P.underlying t with
    | .interface _ => none
    | _ => some (.iface t (← cSrc x))
  | .makeFunc f first cap => do some (.mkfn f (← first.toList.mapM cSrc) (← cap.toList.mapM cSrc))
  | .makeMap t r => do
    match ← P.underlying t with
    | .map _ _ => if r.isNone then some .mkmap else none
    | _ => none
  | .makeSlice t l c => do
    match ← P.underlying t with
    | .slice e => do some (.mksl e (← sizeOf? P e) (← bytesOf? P e) (← zeroCells? P e) (← cSrc l) (← cSrc c))
    | _ => none
  | .slice t x lo hi mx => do
    match ← P.underlying t with
    | .slice e => do some (.slice (← sizeOf? P e) (← cSrc x) (← cOSrc lo) (← cOSrc hi) (← cOSrc mx))
    | .string => if mx.isSome then none else do some (.sliceStr (← cSrc x) (← cOSrc lo) (← cOSrc hi))
    | _ => none
  | .fieldAddr t x i => do
    match ← P.underlying t with
    | .struct fs => do
      let f ← fs[i]?
      let n ← sizeOf? P f.type
      if n = 0 then none else some (.fieldAddr f.offset (← cSrc x))
    | _ => none
  | .field t x i => do
    match ← P.underlying t with
    | .struct fs => do let f ← fs[i]?; some (.field (← loadK P f.type) f.offset (← cSrc x))
    | _ => none
  | .indexAddr t x i => do
    match ← P.underlying t with
    | .slice e => do some (.indexAddr (← sizeOf? P e) (← cSrc x) (← cSrc i))
    | .array n e => match globOf x with
      | some cs => do some (.globIdx cs n (← sizeOf? P e) (← cSrc i))
      | none => do some (.indexArr n (← sizeOf? P e) (← cSrc x) (← cSrc i))
    | _ => none
  | .index t x i => do
    match ← P.underlying t with
    | .array n e => do some (.indexAgg n (← sizeOf? P e) (← loadK P e) (← cSrc x) (← cSrc i))
    | .string => do some (.indexStr (← cSrc x) (← cSrc i))
    | _ => none
  | .lookup t x i ok => do
    match ← P.underlying t with
    | .map k e =>
      if keyOk P k then do
        let z ← (P.info? e).bind (·.zero)
        some (.lookup (← binKind P k) (← constAV z) (← cSrc x) (← cSrc i) ok)
      else none
    | _ => none
  | .mapUpdate t m k v | .insert t m k v => do
    match ← P.underlying t with
    | .map kt _ => if keyOk P kt then do some (.mapUpd (← binKind P kt) (← cSrc m) (← cSrc k) (← cSrc v)) else none
    | _ => none
  | .extract x i => do some (.extract i (← cSrc x))
  | .call c => do
    let args ← c.args.toList.mapM cSrc
    match c.callee with
    | .value f => do some (.call (← cSrc f) args)
    | .invoke _ _ => none
    | .builtin b =>
      match b, args, c.argTypes.toList with
      | .len, [x], [t] => do
        match ← P.underlying t with
        | .slice _ => some (.len x)
        | .string => some (.lenStr x)
        | .map _ _ => some (.lenMap x)
        | _ => none
      | .cap, [x], [t] => do
        match ← P.underlying t with
        | .slice _ => some (.cap x)
        | _ => none
      | .min, xs, _ => some (.min xs)
      | .max, xs, _ => some (.max xs)
      | .append, [x, y], [t, t'] => do
        match ← P.underlying t, ← P.underlying t' with
        | .slice e, .slice _ => do
          let n ← sizeOf? P e; let z ← zeroCells? P e
          if z.length = n then some (.append n (← bytesOf? P e) e z x y) else none
        | .slice e, .string => do
          let n ← sizeOf? P e; let z ← zeroCells? P e
          if z.length = n then some (.append n (← bytesOf? P e) e z x y) else none
        | .slice e, .int .i64 => do
          let n ← sizeOf? P e; let z ← zeroCells? P e
          if z.length = n then some (.appendZ n (← bytesOf? P e) e z x y) else none
        | _, _ => none
      | .clear, [x], [t] => do
        match ← P.underlying t with
        | .slice e => do some (.clear (← sizeOf? P e) (← zeroCells? P e) x)
        | _ => none
      | _, _, _ => none
  | .panic x => (cSrc x).map .panic
  | .typeAssert x _ t ok => do
    match ← P.underlying t with
    | .interface _ => none
    | _ => do
      let z ← (P.info? t).bind (·.zero)
      some (.tassert t (← constAV z) ok (← cSrc x))
  | .range t x => do
    match ← P.underlying t with
    | .string => some (.rangeS (← cSrc x))
    | _ => none
  | .next x s => if s = true then (cSrc x).map .nextS else none
  | _ => none

def cGuard (ops : Array Oper) : Option (Nat × Bool) → Option (Option (Nat × Bool))
  | none => some none
  | some (j, want) => match ops[j]? with
    | none => none
    | some o' => match o'.dst with
      | none => none
      | some d => some (some (d, want))

def cROp (ops : Array Oper) (o : Oper) : Option ROp :=
  (cGuard ops o.guard).map fun g => { dst := o.dst, op := (cOp P o).getD .bad, guard := g }

/-! Regions whose order is open: what must be ahead of what, and the rest that such a region asks. -/

def srcT : Src → List Nat
  | .t n => [n]
  | .c _ => []
def oT : Option Src → List Nat
  | some s => srcT s
  | none => []

def AOp.slots : AOp → List Nat
  | .mv x | .box _ x | .load _ x | .nilCheck x | .un _ x | .conv _ x | .strId x | .iface _ x | .fieldAddr _ x | .field _ _ x | .extract _ x | .len x | .lenStr x | .lenMap x | .cap x | .clear _ _ x | .toStr x | .toBytes _ x | .rangeS x | .nextS x | .tassert _ _ _ x | .globIdx _ _ _ x | .panic x => srcT x
  | .pick a b c => srcT a ++ srcT b ++ srcT c
  | .build _ ps | .buildSlice _ _ _ _ ps => ps.flatMap fun p => srcT p.2
  | .store _ x y | .bin _ _ x y | .eqAgg _ x y | .indexAddr _ x y | .indexArr _ _ x y | .indexAgg _ _ _ x y | .indexStr x y | .lookup _ _ x y _ | .mksl _ _ _ _ x y | .append _ _ _ _ x y | .appendZ _ _ _ _ x y => srcT x ++ srcT y
  | .mkfn _ a b => a.flatMap srcT ++ b.flatMap srcT
  | .slice _ x a b c => srcT x ++ oT a ++ oT b ++ oT c
  | .sliceStr x a b => srcT x ++ oT a ++ oT b
  | .mapUpd _ a b c => srcT a ++ srcT b ++ srcT c
  | .min xs | .max xs => xs.flatMap srcT
  | .call f xs => srcT f ++ xs.flatMap srcT
  | .alloc .. | .mkmap | .bad | .globLoad .. => []

def bindsOf (o : Oper) : List Nat := (o.after.toList.filter (Region.binds .any)).map (·.on)

def predsOf (ops : List Oper) : List (List Nat) :=
  ops.foldl (fun acc o => acc ++ [((bindsOf o).flatMap fun j => j :: acc.getD j []).eraseDups]) []

def clsOf (a : AOp) : Nat := if a.isPure || a.looks then 0 else if a.makes then 1 else 2

structure DI where
  dst : Option Nat
  op : AOp
  guard : Option (Nat × Bool)
  preds : List Nat
  cls : Nat
  deriving Inhabited

def lastUse (l : List DI) (i : Nat) (p : List Nat) (t : Nat) : Option Nat :=
  (List.range i).foldl (fun acc j => if p.contains j && ((l.getD j default).dst == some t) then some j else acc) none

def actsOf (l : List DI) : List Nat := (List.range l.length).filter fun i => (l.getD i default).cls == 2
def inclOf (l : List DI) (k : Nat) : List Nat :=
  match k with
  | 0 => []
  | k + 1 => let w := (actsOf l).getD k 0; (List.range l.length).filter fun a => (l.getD a default).cls == 1 && (l.getD w default).preds.contains a

def looksOf (l : List DI) (i : Nat) : List (Nat × List Nat) :=
  let d := l.getD i default
  let ws := actsOf l
  let lo := (ws.filter fun w => d.preds.contains w).length
  let hi := if d.cls == 2 then lo else ws.length - (ws.filter fun w => (l.getD w default).preds.contains i).length
  (List.range (hi + 1 - lo)).map fun x => (lo + x, (List.range l.length).filter fun a => (l.getD a default).cls == 1 && d.preds.contains a && !(inclOf l (lo + x)).contains a)

def lateOf (l : List DI) : List Nat := (List.range l.length).filter fun a => (l.getD a default).cls == 1 && !(inclOf l (actsOf l).length).contains a

def okPreds (ops : List Oper) (l : List DI) : Bool :=
  (List.range l.length).all fun i => ((bindsOf (ops.getD i default)).all fun j => decide (j < i)) &&
    (l.getD i default).preds.all fun p => (bindsOf (ops.getD i default)).any fun j => p == j || (l.getD j default).preds.contains p

def okOrder (l : List DI) : Bool :=
  (List.range l.length).all fun j => (List.range j).all fun i =>
    ((l.getD i default).dst.isNone || (l.getD i default).dst != (l.getD j default).dst || (l.getD j default).preds.contains i) &&
    (!((l.getD i default).cls == 2 && (l.getD j default).cls == 2) || (l.getD j default).preds.contains i)

def okUse (l : List DI) (i : Nat) (u : Nat × Option Nat) : Bool :=
  match u.2 with
  | some j => (l.getD i default).preds.contains j && (l.getD j default).dst == some u.1 && decide (j < i) &&
      (List.range l.length).all fun j' => (l.getD j' default).dst != some u.1 || decide (j' ≤ j) || (l.getD j' default).preds.contains i || j' == i
  | none => (List.range l.length).all fun j' => (l.getD j' default).dst != some u.1 || j' == i || (l.getD j' default).preds.contains i

def okUses (l : List DI) (ds : List DOp) : Bool := (List.range l.length).all fun i => (ds.getD i default).uses.all (okUse l i)

def okLook (l : List DI) (i : Nat) (p : Nat × List Nat) : Bool :=
  p.2.all fun a => (l.getD i default).preds.contains a && (l.getD a default).cls == 1 && !(inclOf l p.1).contains a && decide (a < i)

def okSeen (l : List DI) (i : Nat) (looks : List (Nat × List Nat)) : Bool :=
  (List.range ((actsOf l).length + 1)).all fun k =>
    ((List.range (actsOf l).length).any fun q => ((l.getD i default).preds.contains ((actsOf l).getD q 0) && decide (k ≤ q)) || ((l.getD ((actsOf l).getD q 0) default).preds.contains i && decide (q < k))) ||
    looks.any fun p => p.1 == k

def okAct (l : List DI) (i : Nat) (looks : List (Nat × List Nat)) : Bool :=
  match looks with
  | [p] => decide (p.1 < (actsOf l).length) && (actsOf l).getD p.1 0 == i && (List.range l.length).all fun a => (inclOf l (p.1 + 1)).contains a == ((inclOf l p.1).contains a || p.2.contains a)
  | _ => false

def okLooks (l : List DI) (ds : List DOp) : Bool :=
  (List.range l.length).all fun i => ((ds.getD i default).looks.all (okLook l i)) &&
    (if (l.getD i default).cls = 0 then okSeen l i (ds.getD i default).looks else if (l.getD i default).cls = 1 then true else okAct l i (ds.getD i default).looks)

def drawOK (ops : List Oper) (l : List DI) (ds : List DOp) : Bool := okPreds ops l && okOrder l && okUses l ds && okLooks l ds

def cDI (ops : Array Oper) (pr : List (List Nat)) (o : Oper) (i : Nat) : Option DI :=
  (cGuard ops o.guard).map fun g => { dst := o.dst, op := (cOp P o).getD .bad, guard := g, preds := pr.getD i [], cls := clsOf ((cOp P o).getD .bad) }

def cDraw (ops : Array Oper) : Option (List DOp × List Nat) :=
  let pr := predsOf ops.toList
  match (ops.toList.zipIdx).mapM fun (o, i) => cDI P ops pr o i with
  | none => none
  | some l =>
    let ds := (List.range l.length).map fun i =>
      let d := l.getD i default
      { dst := d.dst, op := d.op, guard := d.guard, uses := ((d.op.slots ++ (match d.guard with | some (t, _) => [t] | none => [])).eraseDups).map fun t => (t, lastUse l i d.preds t), cls := d.cls, looks := looksOf l i : DOp }
    if drawOK ops.toList l ds = true then some (ds, lateOf l) else none

/-! A store, the last operation, that may come ahead of others. -/

def okUseF (l : List DI) (p : List Nat) (u : Nat × Option Nat) : Bool :=
  match u.2 with
  | some j => p.contains j && (l.getD j default).dst == some u.1 && decide (j < l.length) && (List.range l.length).all fun j' => (l.getD j' default).dst != some u.1 || decide (j' ≤ j)
  | none => (List.range l.length).all fun j' => (l.getD j' default).dst != some u.1

def AOp.isStore : AOp → Bool
  | .store .. => true
  | _ => false

def isStoreOp : Op → Bool
  | .store .. => true
  | _ => false

def okMidD (d : DOp) : Bool :=
  d.guard.isNone && ((d.cls == 0 && !d.op.looks) || (d.cls == 2 && d.op.isStore && (match d.looks with | [(_, [])] => true | _ => false)))

def cDrawF (ops : Array Oper) : Option (List DOp × List Nat × DOp × List Nat) :=
  let pr := predsOf ops.toList
  let n := ops.size - 1
  match ((ops.toList.take n).zipIdx).mapM fun (o, i) => cDI P ops pr o i with
  | none => none
  | some l =>
    let ds := (List.range l.length).map fun i =>
      let d := l.getD i default
      { dst := d.dst, op := d.op, guard := d.guard, uses := ((d.op.slots ++ (match d.guard with | some (t, _) => [t] | none => [])).eraseDups).map fun t => (t, lastUse l i d.preds t), cls := d.cls, looks := looksOf l i : DOp }
    match ops.toList[n]? with
    | none => none
    | some o =>
      let p := pr.getD n []
      let op := (cOp P o).getD .bad
      let last : DOp := { dst := none, op := op, guard := none, uses := (op.slots.eraseDups).map fun t => (t, lastUse l n p t), cls := 2, looks := [] }
      let mid := (List.range n).filter fun j => !p.contains j
      if (drawOK (ops.toList.take n) l ds && o.dst.isNone && o.guard.isNone && isStoreOp o.op && last.uses.all (okUseF l p) && mid.all (fun j => okMidD (ds.getD j default)) &&
          ((bindsOf o).all fun j => decide (j < n)) && p.all fun q => (bindsOf o).any fun j => q == j || (l.getD j default).preds.contains q) = true then some (ds, lateOf l, last, mid) else none

def dstsR (ops : List ROp) : List Nat := ops.filterMap fun o => o.dst
def ACode.dsts : ACode → List Nat
  | .region ops => dstsR ops
  | .draw ds _ => dstsD ds
  | .drawF ds _ _ _ => dstsD ds
  | .seq a b => a.dsts ++ b.dsts
  | .cond _ a b => a.dsts ++ b.dsts
  | .block _ a => a.dsts
  | .loop a => a.dsts
  | .scope a => a.dsts
  | .rangeFunc _ _ a b => a.dsts ++ b.dsts
  | .rangeM pre _ it nx ex _ _ en ops rest _ => it :: nx :: ex :: en :: (dstsR pre ++ dstsR ops ++ rest.dsts)
  | _ => []

def isMap (t : TypeId) : Bool := match P.underlying t with
  | some (.map _ _) => true
  | _ => false

def rangeHead (ops : Array Oper) : Option (List Oper × Operand × Nat) :=
  match ops.toList.getLast? with
  | some { op := .range t x, dst := some it, guard := none, .. } => if isMap P t = true then some (ops.toList.dropLast, x, it) else none
  | _ => none

def rangeStep (ops : Array Oper) : Option (Nat × Nat × Nat) :=
  match ops.toList with
  | [{ op := .next (.tmp it) false, dst := some nx, guard := none, .. }, { op := .extract (.tmp nx') 0, dst := some ex, guard := none, .. }] => if nx = nx' then some (it, nx, ex) else none
  | _ => none

def rangeEntry (ops : Array Oper) : Option (Nat × Nat × List Oper) :=
  match ops.toList with
  | { op := .entry (.tmp it), dst := some en, guard := none, .. } :: os => some (it, en, os)
  | _ => none

def stopA : ACode := .rangeFunc (.c .undef) [] .skip .skip

def cCode : Code → Option ACode
  | .skip => some .skip
  | .label _ => some .skip
  | .region _ ops draw => if draw then (match cDraw P ops with | some p => some (.draw p.1 p.2) | none => match cDrawF P ops with | some p => some (.drawF p.1 p.2.1 p.2.2.1 p.2.2.2) | none => some stopA) else (ops.toList.mapM (cROp P ops)).map .region
  | .seq (.region i0 ops0 false) (.block bid (.loop (.seq (.region i1 ops1 false) (.seq (.cond (.tmp ex') .skip (.exit bid')) (.block bid2 (.seq (.region i2 ops2 false) rest)))))) =>
    match rangeHead P ops0, rangeStep ops1, rangeEntry ops2 with
    | some (pre, x, it), some (it1, nx, ex), some (it2, en, os) =>
      if it1 = it ∧ it2 = it ∧ ex' = ex ∧ bid' = bid ∧ bid ≠ bid2 ∧ nx ≠ it ∧ ex ≠ it ∧ en ≠ it then do
        let pre ← pre.mapM (cROp P ops0)
        let os ← os.mapM (cROp P ops2)
        let rest ← cCode rest
        some (.rangeM pre (← cSrc x) it nx ex bid bid2 en os rest (dstsR os ++ rest.dsts))
      else some stopA
    | _, _, _ => do some (.seq (← (ops0.toList.mapM (cROp P ops0)).map .region) (← cCode (.block bid (.loop (.seq (.region i1 ops1 false) (.seq (.cond (.tmp ex') .skip (.exit bid')) (.block bid2 (.seq (.region i2 ops2 false) rest))))))))
  | .seq a b => do some (.seq (← cCode a) (← cCode b))
  | .cond c a b => do some (.cond (← cSrc c) (← cCode a) (← cCode b))
  | .block id a => do some (.block id (← cCode a))
  | .loop a => do some (.loop (← cCode a))
  | .rangeFunc f ps a b => do some (.rangeFunc (← cSrc f) ps.toList (← cCode a) (← cCode b))
  | .exit id => some (.exit id)
  | .goto l => some (.goto l)
  | .ret => some .ret
  | .scope a => do some (.scope (← cCode a))
  | .refuse _ => some stopA

def cRes : ResultVar → Option (Nat × Option (Option Nat))
  | .tmp t => some (t, none)
  | .cell a t => do some (a, some (← loadK P t))

def deferOps : Code → Option (Array Oper × List Oper × Operand)
  | .region _ ops false => match ops.toList.getLast? with
    | some { op := .defer { callee := .value g, args, .. }, dst := none, guard := none, .. } => if args.size = 0 then some (ops, ops.toList.dropLast, g) else none
    | _ => none
  | _ => none

def cBody : Code → Option ABody
  | .seq a b => match deferOps a with
    | some (ops, os, g) => do some (.dfr (← os.mapM (cROp P ops)) (← cSrc g) (← (cCode P b).map .code))
    | none => match cBody b with
      | some b' => do some (.seq (← cCode P a) b')
      | none => none
  | _ => none

def recoverOf : Code → Option (Nat × Code)
  | .seq (.region _ ops false) b => match ops.toList with
    | [{ op := .call { callee := .builtin .recover, args, .. }, dst := some d, guard := none, .. }] => if args.size = 0 then some (d, b) else none
    | _ => none
  | _ => none

def cFn (fn : Func) : Option AFn := do
  if fn.name = "math/bits.Add64" then some { nparams := 3, ntmps := 3, results := [], body := .skip, ext := some .add64 } else
  if fn.name = "math/bits.Sub64" then some { nparams := 3, ntmps := 3, results := [], body := .skip, ext := some .sub64 } else
  if fn.origin = "slices.Insert" then do
    match ← P.underlying (← fn.params[0]?) with
    | .slice e => some { nparams := 3, ntmps := 3, results := [], body := .skip, ext := some (.insert (← sizeOf? P e) (← bytesOf? P e) e) }
    | _ => none
  else do
  let b ← fn.body
  if fn.name = "runtime.NumGoroutine" then none else
  match recoverOf b with
  | some (d, c) => some { nparams := fn.params.size + fn.nfree, ntmps := fn.ntmps, results := (← fn.results.toList.mapM (cRes P)), body := .skip, ext := some (.rcv d (← cCode P c)) }
  | none => match cBody P b with
    | some ab => some { nparams := fn.params.size + fn.nfree, ntmps := fn.ntmps, results := (← fn.results.toList.mapM (cRes P)), body := .skip, ext := some (.dfr ab) }
    | none => some { nparams := fn.params.size + fn.nfree, ntmps := fn.ntmps, results := (← fn.results.toList.mapM (cRes P)), body := (← cCode P b) }
end

end Go.Proofs.YtedembbgeljdkaaGreatDoor.Ev
