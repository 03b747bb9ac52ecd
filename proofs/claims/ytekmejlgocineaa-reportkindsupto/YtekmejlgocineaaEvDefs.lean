/- A part. -/
import Derived.WalkKit
import Derived.RangeFuncIn
import GoSem.Core.Utf8
import Derived.Laws.CopyRow
import Derived.Laws.Cells
import Derived.Laws.Entries
import Derived.Laws.Sem
import Derived.Laws.Small
import Derived.Laws.StructEq
import Derived.Laws.Cover3
import Derived.RangeFuncRecord
namespace Go.Proofs.Ytekmejlgocineaa.Ev
open Go
set_option linter.all false
inductive AV where
 | undef
 | bool (b:Bool)
 | int (k:IntKind) (n:Int)
 | str (s:ByteArray)
 | nilPtr | nilSl | nilFn | nilIf | nilMap
 | agg (cs:List AV)
 | tup (vs:List AV)
 | sl (cells:List AV) (n:Nat)
 | dp (cells:List AV) (off:Nat)
 | own (b off n c sz:Nat) (ex:Bool)
 | ptr (b off:Nat)
 | fn (f:Fn) (first captured:List AV)
 | ifc (t:Nat) (v:AV)
 | map (b:Nat)
 | loopv (b:Nat)
 deriving Inhabited
inductive Src where
 | t (n:Nat)
 | c (v:AV)
 deriving Inhabited
inductive BK where
 | int | bool | str | sl | ifc
 deriving Inhabited
inductive AOp where
 | mv (x:Src)
 | pick (c a b:Src)
 | alloc (ty:Nat) (zero:List AV)
 | box (ty:Nat) (x:Src)
 | build (zero:List AV) (parts:List ((Nat × Nat) × Src))
 | buildSlice (ty size:Nat) (zeros:List AV) (len:Nat) (parts:List ((Nat × Nat) × Src))
 | load (k:Option Nat) (x:Src)
 | store (n:Nat) (x v:Src)
 | nilCheck (x:Src)
 | bin (op:BinOp) (kd:BK) (x y:Src)
 | eqAgg (neg:Bool) (n:Nat) (x y:Src)
 | un (op:UnOp) (x:Src)
 | conv (k:IntKind) (x:Src)
 | strId (x:Src)
 | iface (ty:Nat) (x:Src)
 | mkfn (fn:Fn) (first captured:List Src)
 | mkmap
 | mksl (ty size bytes:Nat) (zero:List AV) (l c:Src)
 | slice (size:Nat) (x:Src) (lo hi mx:Option Src)
 | sliceStr (x:Src) (lo hi:Option Src)
 | fieldAddr (off:Nat) (x:Src)
 | field (k:Option Nat) (off:Nat) (x:Src)
 | indexAddr (size:Nat) (x i:Src)
 | indexAgg (len size:Nat) (k:Option Nat) (x i:Src)
 | indexStr (x i:Src)
 | lookup (kd:BK) (zero:AV) (x i:Src) (ok:Bool)
 | mapUpd (kd:BK) (m k v:Src)
 | extract (i:Nat) (x:Src)
 | len (x:Src)
 | lenStr (x:Src)
 | lenMap (x:Src)
 | cap (x:Src)
 | min (xs:List Src)
 | max (xs:List Src)
 | append (size bytes ty:Nat) (zero:List AV) (x y:Src)
 | appendZ (size bytes ty:Nat) (zero:List AV) (x y:Src)
 | clear (size:Nat) (zero:List AV) (x:Src)
 | copy (size:Nat) (x y:Src)
 | toStr (x:Src)
 | toBytes (ty:Nat) (x:Src)
 | tassert (t:Nat) (zero:AV) (ok:Bool) (x:Src)
 | indexArr (len size:Nat) (x i:Src)
 | globIdx (cs:List AV) (len size:Nat) (i:Src)
 | globLoad (k:Option Nat) (cs:List AV)
 | rangeS (x:Src)
 | nextS (x:Src)
 | bad
 | call (f:Src) (args:List Src)
 | panic (x:Src)
 deriving Inhabited
structure oF where
 dst:Option Nat
 op:AOp
 guard:Option (Nat × Bool)
 deriving Inhabited
structure gb where
 dst:Option Nat
 op:AOp
 guard:Option (Nat × Bool)
 uses:List (Nat × Option Nat)
 cls:Nat
 looks:List (Nat × List Nat)
 deriving Inhabited
inductive ACode where
 | skip
 | region (ops:List oF)
 | draw (ops:List gb) (late:List Nat)
 | seq (a b:ACode)
 | cond (c:Src) (thn els:ACode)
 | block (id:Nat) (body:ACode)
 | loop (body:ACode)
 | rangeFunc (f:Src) (params:List Nat) (assign body:ACode)
 | exit (id:Nat)
 | goto (l:Nat)
 | ret
 | scope (a:ACode)
 | drawF (ds:List gb) (late:List Nat) (last:gb) (mid:List Nat)
 | rangeM (pre:List oF) (x:Src) (it nx ex bid bid2 en:Nat) (ops:List oF) (rest:ACode) (W:List Nat)
 | scopeL (a:ACode) (l:Nat) (rest:ACode)
 deriving Inhabited
inductive Ent where
 | cells (cs:List AV) (ty:Nat) (rw:Bool)
 | map (es:List (AV × AV))
 | loop (T:List AV) (params:List Nat) (assign body:ACode) (state:LoopState) (pending:Option ACode)
 | siter (s:ByteArray) (pos:Nat)
 | mapR (es:List (AV × AV))
 deriving Inhabited
def Ent.ro:Ent->Option Ent
 | .cells cs ty _=>some (.cells cs ty false)
 | .map es=>some (.mapR es)
 | .mapR es=>some (.mapR es)
 | .loop ..=>none
 | .siter ..=>none
mutual
def AV.beq:AV->AV->Bool
 | .undef,.undef=>true
 | .bool a,.bool b=>a == b
 | .int j a,.int k b=>decide (j=k) && decide (a=b)
 | .str a,.str b=>decide (a=b)
 | .nilPtr,.nilPtr=>true
 | .nilSl,.nilSl=>true
 | .nilFn,.nilFn=>true
 | .nilIf,.nilIf=>true
 | .nilMap,.nilMap=>true
 | .agg a,.agg b=>AV.beqs a b
 | .tup a,.tup b=>AV.beqs a b
 | .sl a n,.sl b m=>AV.beqs a b && n == m
 | .dp a n,.dp b m=>AV.beqs a b && n == m
 | .own a b c d e f,.own a' b' c' d' e' f'=>a == a' && b == b' && c == c' && d == d' && e == e' && f == f'
 | .ptr a b,.ptr a' b'=>a == a' && b == b'
 | .fn f a b,.fn f' a' b'=>decide (f=f') && AV.beqs a a' && AV.beqs b b'
 | .ifc t v,.ifc t' v'=>t == t' && AV.beq v v'
 | .map b,.map b'=>b == b'
 | .loopv b,.loopv b'=>b == b'
 | _,_=>false
def AV.beqs:List AV->List AV->Bool
 | [],[]=>true
 | a :: as,b :: bs=>AV.beq a b && AV.beqs as bs
 | _,_=>false
end
structure Q (α:Type) where
 a:α
 b:α
 c:α
 d:α
 e:α
 f:α
 g:α
 h:α
 deriving Inhabited
inductive D8 where
 | d0 | d1 | d2 | d3 | d4 | d5 | d6 | d7
 deriving DecidableEq
def D8.of (n:Nat):D8 :=
 Bool.casesOn (motive:=fun _=>D8) (Nat.beq (Nat.mod (Nat.div n 4) 2) 1)
  (Bool.casesOn (motive:=fun _=>D8) (Nat.beq (Nat.mod (Nat.div n 2) 2) 1) (Bool.casesOn (motive:=fun _=>D8) (Nat.beq (Nat.mod n 2) 1) .d0 .d1) (Bool.casesOn (motive:=fun _=>D8) (Nat.beq (Nat.mod n 2) 1) .d2 .d3))
  (Bool.casesOn (motive:=fun _=>D8) (Nat.beq (Nat.mod (Nat.div n 2) 2) 1) (Bool.casesOn (motive:=fun _=>D8) (Nat.beq (Nat.mod n 2) 1) .d4 .d5) (Bool.casesOn (motive:=fun _=>D8) (Nat.beq (Nat.mod n 2) 1) .d6 .d7))
def Q.at {α:Type} (d:D8):Q α->α:=D8.casesOn (motive:=fun _=>Q α->α) d Q.a Q.b Q.c Q.d Q.e Q.f Q.g Q.h
def Q.ua {α:Type} (u:α->α) (q:Q α):Q α:=Q.casesOn (motive:=fun _=>Q α) q fun a b c d e f g h=>⟨u a,b,c,d,e,f,g,h⟩
def Q.ub {α:Type} (u:α->α) (q:Q α):Q α:=Q.casesOn (motive:=fun _=>Q α) q fun a b c d e f g h=>⟨a,u b,c,d,e,f,g,h⟩
def Q.uc {α:Type} (u:α->α) (q:Q α):Q α:=Q.casesOn (motive:=fun _=>Q α) q fun a b c d e f g h=>⟨a,b,u c,d,e,f,g,h⟩
def Q.ud {α:Type} (u:α->α) (q:Q α):Q α:=Q.casesOn (motive:=fun _=>Q α) q fun a b c d e f g h=>⟨a,b,c,u d,e,f,g,h⟩
def Q.ue {α:Type} (u:α->α) (q:Q α):Q α:=Q.casesOn (motive:=fun _=>Q α) q fun a b c d e f g h=>⟨a,b,c,d,u e,f,g,h⟩
def Q.uf {α:Type} (u:α->α) (q:Q α):Q α:=Q.casesOn (motive:=fun _=>Q α) q fun a b c d e f g h=>⟨a,b,c,d,e,u f,g,h⟩
def Q.ug {α:Type} (u:α->α) (q:Q α):Q α:=Q.casesOn (motive:=fun _=>Q α) q fun a b c d e f g h=>⟨a,b,c,d,e,f,u g,h⟩
def Q.uh {α:Type} (u:α->α) (q:Q α):Q α:=Q.casesOn (motive:=fun _=>Q α) q fun a b c d e f g h=>⟨a,b,c,d,e,f,g,u h⟩
def Q.up {α:Type} (d:D8):(α->α)->Q α->Q α:=D8.casesOn (motive:=fun _=>(α->α)->Q α->Q α) d Q.ua Q.ub Q.uc Q.ud Q.ue Q.uf Q.ug Q.uh
def Q.all {α:Type} (x:α):Q α:=⟨x,x,x,x,x,x,x,x⟩
structure Tr where
 t:Q (Q (Q (Q (Q (Q (Q (Q (Option Ent))))))))
 big:List (Nat × Option Ent)
 deriving Inhabited
def Tr.nil:Tr:=⟨.all (.all (.all (.all (.all (.all (.all (.all none))))))),[]⟩
def ul:List (Nat × Option Ent)->Nat->Option Ent
 | [],_=>none
 | (k,e) :: l,n=>if n=k then e else ul l n
def Tr.get (T:Tr) (n:Nat):Option Ent :=
 Bool.casesOn (motive:=fun _=>Option Ent) (Nat.ble n 16777215) (ul T.big n)
  (Q.at (D8.of n) (Q.at (D8.of (Nat.div n 8)) (Q.at (D8.of (Nat.div n 64)) (Q.at (D8.of (Nat.div n 512)) (Q.at (D8.of (Nat.div n 4096)) (Q.at (D8.of (Nat.div n 32768)) (Q.at (D8.of (Nat.div n 262144)) (Q.at (D8.of (Nat.div n 2097152)) T.t))))))))
def Tr.set (T:Tr) (n:Nat) (e:Option Ent):Tr :=
 Bool.casesOn (motive:=fun _=>Tr) (Nat.ble n 16777215) ⟨T.t,(n,e) :: T.big⟩
  ⟨Q.up (D8.of (Nat.div n 2097152)) (Q.up (D8.of (Nat.div n 262144)) (Q.up (D8.of (Nat.div n 32768)) (Q.up (D8.of (Nat.div n 4096)) (Q.up (D8.of (Nat.div n 512)) (Q.up (D8.of (Nat.div n 64)) (Q.up (D8.of (Nat.div n 8)) (Q.up (D8.of n) (fun _=>e)))))))) T.t,T.big⟩
structure Heap where
 next:Nat
 tr:Tr
 lim:Nat
 ovr:List (Nat × Option Ent)
 deriving Inhabited
def wi (o:Option Ent):Option Ent:=Option.casesOn (motive:=fun _=>Option Ent) o none Ent.ro
def ig (d:Option Ent) (b:Nat):List (Nat × Option Ent)->Option Ent
 | []=>d
 | (k,e) :: l=>if b=k then e else ig d b l
def Heap.get (H:Heap) (b:Nat):Option Ent:=Bool.casesOn (motive:=fun _=>Option Ent) (Nat.ble (Nat.succ b) H.lim) (H.tr.get b) (ig (wi (H.tr.get b)) b H.ovr)
def Heap.setO (H:Heap) (b:Nat) (o:Option Ent):Heap:=⟨H.next,Bool.casesOn (motive:=fun _=>Tr) (Nat.ble (Nat.succ b) H.lim) (H.tr.set b o) H.tr,H.lim,Bool.casesOn (motive:=fun _=>List (Nat × Option Ent)) (Nat.ble (Nat.succ b) H.lim) H.ovr ((b,o) :: H.ovr)⟩
def Heap.put (H:Heap) (b:Nat) (e:Ent):Heap:=H.setO b (some e)
def Heap.kill (H:Heap) (b:Nat):Heap:=H.setO b none
def Heap.nil (n:Nat):Heap:=⟨n,Tr.nil,0,[]⟩
def Heap.ro (H:Heap):Heap:=⟨H.next,H.tr,Nat.max H.next H.lim,(H.ovr.filter fun p=>decide (p.1<H.lim)).map fun p=>(p.1,wi p.2)⟩
abbrev Tm:=List AV
def aa (T:Tm) (n:Nat):AV:=T.getD n .undef
def Src.ev (T:Tm):Src->AV
 | .t n=>aa T n
 | .c v=>v
def gN (T:Tm) (d:Option Nat) (v:AV):Tm :=
 match d with
 | some d=>T.set d v
 | none=>T
def AV.cells:AV->List AV
 | .agg cs=>cs
 | v=>[v]
def AV.one:AV->Bool
 | .agg _ | .tup _ | .undef=>false
 | _=>true
def cD:List AV->List ((Nat × Nat) × AV)->Option (List AV)
 | cs,[]=>some cs
 | cs,((off,size),v) :: rest =>
  let vc:=v.cells
  if vc.length=size/\off+size<=cs.length/\vc.all AV.one=true then cD (cs.take off++vc++cs.drop (off+size)) rest else none
def iU (v:AV):Option Nat :=
 match v with
 | .int _ (.ofNat n)=>some n
 | _=>none
def aB (cs:List AV) (off:Nat):Option Nat->Option AV
 | none=>cs[off]?
 | some n=>if off+n<=cs.length then some (.agg ((cs.drop off).take n)) else none
def gH (op:BinOp) (k:IntKind) (x y:Int):Option AV :=
 match op with
 | .add=>some (.int k (k.wrap (x+y)))
 | .sub=>some (.int k (k.wrap (x-y)))
 | .mul=>some (.int k (k.wrap (x*y)))
 | .quo=>if y=0 then none else some (.int k (k.wrap (x.tdiv y)))
 | .rem=>if y=0 then none else some (.int k (x.tmod y))
 | .and=>some (.int k (k.wrap (BitVec.ofInt k.bits x &&& BitVec.ofInt k.bits y).toNat))
 | .or=>some (.int k (k.wrap (BitVec.ofInt k.bits x ||| BitVec.ofInt k.bits y).toNat))
 | .xor=>some (.int k (k.wrap (BitVec.ofInt k.bits x ^^^ BitVec.ofInt k.bits y).toNat))
 | .andNot=>some (.int k (k.wrap (BitVec.ofInt k.bits x &&& ~~~ (BitVec.ofInt k.bits y)).toNat))
 | .eql=>some (.bool (x == y))
 | .neq=>some (.bool (x != y))
 | .lss=>some (.bool (decide (x<y)))
 | .leq=>some (.bool (decide (x<=y)))
 | .gtr=>some (.bool (decide (x > y)))
 | .geq=>some (.bool (decide (x ≥ y)))
 | _=>none
def iL (op:BinOp) (k:IntKind) (x y:Int):Option AV :=
 if y<0 then none else
 match op with
 | .shl=>some (.int k (k.wrap (x*2^(Nat.min y.toNat k.bits))))
 | .shr=>some (.int k (x.fdiv (2^(Nat.min y.toNat k.bits))))
 | _=>none
def nj:AV->Option Bool
 | .nilSl=>some true
 | .own ..=>some false
 | .sl ..=>some false
 | _=>none
def tD:AV->AV->Option Bool
 | .nilIf,.nilIf=>some true
 | .nilIf,.ifc _ _=>some false
 | .ifc _ _,.nilIf=>some false
 | _,_=>none
def cw (op:BinOp) (kd:BK) (x y:AV):Option AV :=
 match kd,x,y with
 | .int,.int k a,.int k' b =>
  match op with
  | .shl=>iL .shl k a b
  | .shr=>iL .shr k a b
  | op=>if k=k' then gH op k a b else none
 | .bool,.bool a,.bool b =>
  match op with
  | .eql=>some (.bool (a == b))
  | .neq=>some (.bool (!(a == b)))
  | _=>none
 | .str,.str a,.str b =>
  match op with
  | .eql=>some (.bool (a.toList == b.toList))
  | .neq=>some (.bool (!(a.toList == b.toList)))
  | .add=>if ((a.size+b.size:Nat):Int) > IntKind.i64.max then none else some (.str (a++b))
  | _=>none
 | .sl,x,.nilSl =>
  match op with
  | .eql=>(nj x).map .bool
  | .neq=>(nj x).map fun b=>.bool !b
  | _=>none
 | .ifc,x,y=>match op with
  | .eql=>(tD x y).map .bool
  | .neq=>(tD x y).map fun b=>.bool !b
  | _=>none
 | _,_,_=>none
def r8:List AV->List AV->Option Bool
 | [.bool a,.bool b],[.bool c,.bool d]=>some (a == c && b == d)
 | _,_=>none
def jB:Nat->List AV->List AV->Option Bool
 | 0,[],[]=>some true
 | n+1,.int k a :: as,.int k' b :: bs=>if k=k' then (jB n as bs).map fun r=>a == b && r else none
 | _,_,_=>none
def Dc (op:UnOp) (x:AV):Option AV :=
 match op,x with
 | .neg,.int k n=>some (.int k (k.wrap (0-n)))
 | .xor,.int k n=>some (.int k (k.wrap (BitVec.ofInt k.bits (if k.signed then -1 else k.max) ^^^ BitVec.ofInt k.bits n).toNat))
 | .not,.bool b=>some (.bool !b)
 | _,_=>none
def fd (size:Nat) (x:AV) (lo hi mx:Option AV):Option AV :=
 match x with
 | .own b off n c sz ex =>
  if sz≠size then none else
  match mx,hi,lo with
  | some m,some h,lo=>do
   let m <- iU m; let h <- iU h; let l <- (lo.map iU).getD (some 0)
   if m<=c/\h<=m/\l<=h then (if m=l then some (.own b off (h-l) 0 sz true) else some (.own b (off+l*size) (h-l) (m-l) sz true)) else none
  | none,hi,lo=>do
   let h <- (hi.map iU).getD (some n); let l <- (lo.map iU).getD (some 0)
   if h<=c/\l<=h then
    (if l<c\/l=0 then some (.own b (off+l*size) (h-l) (c-l) sz ex) else if ex=true then some (.own b off (h-l) (c-l) sz true) else some (.sl [] 0))
   else none
  | _,_,_=>none
 | .sl cs n =>
  match mx,hi,lo with
  | none,hi,lo=>do
   let h <- (hi.map iU).getD (some n); let l <- (lo.map iU).getD (some 0)
   if h<=n/\l<=h/\h*size<=cs.length then some (.sl ((cs.drop (l*size)).take ((h-l)*size)) (h-l)) else none
  | some m,some h,lo=>do
   let m <- iU m; let h <- iU h; let l <- (lo.map iU).getD (some 0)
   if m<=n/\h<=m/\l<=h/\h*size<=cs.length then some (.sl ((cs.drop (l*size)).take ((h-l)*size)) (h-l)) else none
  | _,_,_=>none
 | .nilSl =>
  match mx,hi with
  | some m,some h=>if iU m=some 0/\iU h=some 0/\(lo.map iU).getD (some 0)=some 0 then some .nilSl else none
  | none,hi=>if (hi.map iU).getD (some 0)=some 0/\(lo.map iU).getD (some 0)=some 0 then some .nilSl else none
  | _,_=>none
 | .str s =>
  match mx with
  | none=>do
   let h <- (hi.map iU).getD (some s.size); let l <- (lo.map iU).getD (some 0)
   if h<=s.size && l<=h then some (.str (s.extract l h)) else none
  | some _=>none
 | _=>none
def uQ:AV->AV->Option AV
 | .int k x,.int _ y=>some (.int k (if y<x then y else x))
 | _,_=>none
def uS:AV->AV->Option AV
 | .int k x,.int _ y=>some (.int k (if y > x then y else x))
 | _,_=>none
def aF (ev:Src->AV):AOp->Option AV
 | .mv x=>some (ev x)
 | .pick c a b=>match ev c with | .bool t=>some (if t then ev a else ev b) | _=>none
 | .build zero parts=>do
  let cs <- cD zero (parts.map fun p=>(p.1,ev p.2))
  some (.agg cs)
 | .nilCheck x=>match ev x with
  | .ptr b o=>some (.ptr b o)
  | .dp cs o=>some (.dp cs o)
  | .fn (.func f) a c=>some (.fn (.func f) a c)
  | .loopv b=>some (.loopv b)
  | _=>none
 | .bin op kd x y=>cw op kd (ev x) (ev y)
 | .eqAgg neg n x y=>match ev x,ev y with
  | .agg a,.agg b=>(match n with | 0=>r8 a b | n+1=>jB (n+1) a b).map fun r=>.bool (if neg then !r else r)
  | _,_=>none
 | .un op x=>Dc op (ev x)
 | .conv k x=>match ev x with | .int _ n=>some (.int k (k.wrap n)) | _=>none
 | .strId x=>match ev x with | .str s=>some (.str s) | _=>none
 | .iface ty x=>match ev x with | .undef=>none | v=>some (.ifc ty v)
 | .mkfn f first cap=>some (.fn f (first.map ev) (cap.map ev))
 | .slice size x lo hi mx=>match ev x with
  | .str _=>none
  | v=>fd size v (lo.map ev) (hi.map ev) (mx.map ev)
 | .sliceStr x lo hi=>match ev x with
  | .str s=>fd 1 (.str s) (lo.map ev) (hi.map ev) none
  | _=>none
 | .fieldAddr off x=>match ev x with
  | .ptr b o=>some (.ptr b (o+off))
  | .dp cs o=>some (.dp cs (o+off))
  | _=>none
 | .field k off x=>match ev x with | .agg cs=>aB cs off k | _=>none
 | .indexAddr size x i=>do
  let i <- iU (ev i)
  match ev x with
  | .own b off n _ sz _=>if i<n/\sz=size then some (.ptr b (off+i*size)) else none
  | .sl cs n=>if i<n then some (.dp cs (i*size)) else none
  | _=>none
 | .tassert t z ok x=>match ev x with
  | .ifc t' v=>if t'=t then some (if ok then .tup [v,.bool true] else v) else if ok=true then some (.tup [z,.bool false]) else none
  | .nilIf=>if ok=true then some (.tup [z,.bool false]) else none
  | _=>none
 | .indexArr len size x i=>do
  let i <- iU (ev i)
  match ev x with
  | .ptr b o=>if i<len then some (.ptr b (o+i*size)) else none
  | .dp cs o=>if i<len then some (.dp cs (o+i*size)) else none
  | _=>none
 | .indexAgg len size k x i=>do
  let i <- iU (ev i)
  match ev x with
  | .agg cs=>if i<len then aB cs (i*size) k else none
  | _=>none
 | .indexStr x i=>do
  let i <- iU (ev i)
  match ev x with
  | .str s=>(s[i]?).map fun b=>.int .u8 b.toNat
  | _=>none
 | .extract i x=>match ev x with | .tup vs=>vs[i]? | _=>none
 | .len x=>match ev x with
  | .own _ _ n _ _ _=>some (.int .i64 n)
  | .sl _ n=>some (.int .i64 n)
  | .nilSl=>some (.int .i64 0)
  | _=>none
 | .lenStr x=>match ev x with
  | .str s=>some (.int .i64 s.size)
  | _=>none
 | .cap x=>match ev x with
  | .own _ _ _ c _ true=>some (.int .i64 c)
  | .nilSl=>some (.int .i64 0)
  | _=>none
 | .min xs=>match xs.map ev with
  | .int k a :: rest=>rest.foldlM uQ (AV.int k a)
  | _=>none
 | .max xs=>match xs.map ev with
  | .int k a :: rest=>rest.foldlM uS (AV.int k a)
  | _=>none
 | _=>none
def AOp.isPure:AOp->Bool
 | .mv _ | .pick .. | .build .. | .nilCheck _ | .bin .. | .eqAgg .. | .un .. | .conv .. | .strId _ | .iface .. | .mkfn .. | .slice .. | .sliceStr .. | .fieldAddr .. | .field .. | .indexAddr .. | .indexArr .. | .tassert .. | .indexAgg .. | .indexStr .. | .extract .. | .len _ | .lenStr _ | .cap _ | .min _ | .max _=>true
 | _=>false
def dV:AV->AV->Option Bool
 | .int j a,.int k b=>if j=k then some (a == b) else none
 | .str a,.str b=>some (a == b)
 | .bool a,.bool b=>some (a == b)
 | _,_=>none
def eD:BK->AV->Bool
 | .int,.int _ _=>true
 | .str,.str _=>true
 | _,_=>false
def iB (k:AV):List (AV × AV)->Option (Option AV)
 | []=>some none
 | (k',v) :: es=>match dV k k' with
  | some true=>some (some v)
  | some false=>iB k es
  | none=>none
def im (k v:AV):List (AV × AV)->List (AV × AV)
 | []=>[(k,v)]
 | (k',v') :: es=>match dV k k' with
  | some true=>(k,v) :: es
  | _=>(k',v') :: im k v es
def lC (H:Heap):AV->Option (List (AV × AV))
 | .nilMap=>some []
 | .map b=>match H.get b with
  | some (.map es)=>some es
  | some (.mapR es)=>some es
  | _=>none
 | _=>none
def jg (H:Heap) (kd:BK) (zero x i:AV) (ok:Bool):Option AV :=
 if eD kd i=false then none else
 match lC H x with
 | none=>none
 | some es=>match iB i es with
  | none=>none
  | some none=>some (if ok then .tup [zero,.bool false] else zero)
  | some (some v)=>some (if ok then .tup [v,.bool true] else v)
def iA (H:Heap) (kd:BK) (m k v:AV):Option Heap :=
 if eD kd k=false then none else
 match m with
 | .map b=>match H.get b with
  | some (.map es)=>match iB k es with
   | none=>none
   | some _=>some (H.put b (.map (im k v es)))
  | _=>none
 | _=>none
def bE (H:Heap) (size n:Nat):AV->Option (List AV)
 | .own b off m _ sz _=>match H.get b with
  | some (.cells cs _ _)=>if sz=size/\n<=m/\off+n*size<=cs.length then some ((cs.drop off).take (n*size)) else none
  | _=>none
 | .sl cs m=>if n<=m/\n*size<=cs.length then some (cs.take (n*size)) else none
 | .nilSl=>if n=0 then some [] else none
 | .str s=>if n<=s.size/\size=1 then some ((s.extract 0 n).data.toList.map fun b=>.int .u8 b.toNat) else none
 | _=>none
def gG:AV->Option Nat
 | .own _ _ n _ _ _=>some n
 | .sl _ n=>some n
 | .nilSl=>some 0
 | .str s=>some s.size
 | _=>none
def jL:List AV->ByteArray->Option ByteArray
 | [],s=>some s
 | .int .u8 k :: l,s=>jL l (s.push (UInt8.ofNat k.toNat))
 | _,_=>none
def gZ (H:Heap) (x:AV):Option ByteArray :=
 match x with
 | .str _=>none
 | x=>match gG x with
  | none=>none
  | some n=>match bE H 1 n x with
   | none=>none
   | some cs=>jL cs .empty
def dm (H:Heap) (id size bytes ty:Nat) (x:AV) (m:Nat) (news:List AV) (fr:Option Nat):Option (AV × Heap) :=
 match x with
 | .nilSl=>if m=0 then some (.nilSl,H) else if m*bytes<=2^46/\m<2^62 then some (.own id 0 m m size false,H.put id (.cells news ty true)) else none
 | .own b off n c sz ex =>
  match H.get b with
  | some (.cells cs ty' rw) =>
   if sz=size/\(n+m)*bytes<=2^46/\n+m<2^62/\ty'=ty/\off+n*size<=cs.length then
    if n+m<=c then
     (if m=0 then some (.own b off n c sz ex,H)
      else if rw=true/\news.all AV.one=true then some (.own b off (n+m) c sz ex,H.put b (.cells (cs.take (off+n*size)++news++cs.drop (off+n*size+m*size)) ty rw)) else none)
    else if ex=true then some (.own id 0 (n+m) (n+m) size false,H.put id (.cells ((cs.drop off).take (n*size)++news) ty true))
    else if off=0/\rw=true/\fr≠some b/\news.all AV.one=true then some (.own id 0 (n+m) (n+m) size false,(H.kill b).put id (.cells (cs.take (n*size)++news) ty true))
    else none
   else none
  | _=>none
 | _=>none
def bC (H:Heap) (k:Option Nat):AV->Option AV
 | .ptr b o=>match H.get b with
  | some (.cells cs _ _)=>aB cs o k
  | _=>none
 | .dp cs o=>aB cs o k
 | _=>none
def js (H:Heap) (n:Nat) (x v:AV):Option Heap :=
 match x with
 | .ptr b o=>match H.get b with
  | some (.cells cs ty true) =>
   if v.cells.length=n/\o+n<=cs.length/\v.cells.all AV.one=true then some (H.put b (.cells (cs.take o++v.cells++cs.drop (o+n)) ty true)) else none
  | _=>none
 | _=>none
def jH (H:Heap) (size:Nat) (zero:List AV):AV->Option Heap
 | .own b off n _ sz _=>match H.get b with
  | some (.cells cs ty true) =>
   if n=0 then some H
   else if sz=size/\off+n*size<=cs.length/\zero.length=size/\zero.all AV.one=true then some (H.put b (.cells (cs.take off++(List.replicate n zero).flatten++cs.drop (off+n*size)) ty true))
   else none
  | _=>none
 | .nilSl=>some H
 | _=>none
def zI (H:Heap) (size:Nat) (x y:AV):Option (AV × Heap) :=
 match gG y with
 | none=>none
 | some m=>match x with
  | .own b off n _ sz _=>match bE H size (Nat.min m n) y,H.get b with
   | some news,some (.cells cs ty true) =>
    if sz=size/\off<=cs.length/\news.all AV.one=true then some (.int .i64 (Nat.min m n:Nat),H.put b (.cells (cs.take off++news++cs.drop (off+news.length)) ty true)) else none
   | _,_=>none
  | .nilSl=>match bE H size 0 y with
   | some _=>some (.int .i64 0,H)
   | none=>none
  | _=>none
def tF (H:Heap):AV->Option (AV × Heap)
 | .ptr b 0=>match H.get b with
  | some (.siter s pos)=>if pos<s.size then some (.tup [.bool true,.int .i64 pos,.int .i32 (Utf8.decode s pos).1],H.put b (.siter s (pos+(Utf8.decode s pos).2))) else some (.tup [.bool false],H)
  | _=>none
 | _=>none
def aX (ev:Src->AV) (H:Heap) (id:Nat):AOp->Option (AV × Heap)
 | .alloc ty zero=>some (.ptr id 0,H.put id (.cells zero ty true))
 | .box ty x=>let cs:=(ev x).cells; if cs.all AV.one then some (.ptr id 0,H.put id (.cells cs ty true)) else none
 | .buildSlice ty size zeros len parts=>match cD zeros (parts.map fun p=>(p.1,ev p.2)) with
  | none=>none
  | some cs=>some (.own id 0 len len size true,H.put id (.cells cs ty true))
 | .load k x=>(bC H k (ev x)).map fun v=>(v,H)
 | .store n x v=>(js H n (ev x) (ev v)).map fun H'=>(.undef,H')
 | .mkmap=>some (.map id,H.put id (.map []))
 | .mksl ty size bytes zero l c=>match iU (ev l),iU (ev c) with
  | some l,some c =>
   if l<=c/\bytes*c<=2^47/\c<2^63/\zero.length=size then
    some (.own id 0 l c size true,H.put id (.cells ((List.replicate c zero).flatten) ty true))
   else none
  | _,_=>none
 | .lookup kd zero x i ok=>(jg H kd zero (ev x) (ev i) ok).map fun v=>(v,H)
 | .mapUpd kd m k v=>(iA H kd (ev m) (ev k) (ev v)).map fun H'=>(.undef,H')
 | .lenMap x=>match ev x with
  | .nilMap=>some (.int .i64 0,H)
  | .map b=>match H.get b with | some (.map es)=>some (.int .i64 es.length,H) | some (.mapR es)=>some (.int .i64 es.length,H) | _=>none
  | _=>none
 | .append size bytes ty _ x y=>match gG (ev y) with
  | none=>none
  | some m=>match bE H size m (ev y) with
   | none=>none
   | some news=>dm H id size bytes ty (ev x) m news (match ev y with | .own b _ _ _ _ _=>some b | _=>none)
 | .appendZ size bytes ty zero x y=>match iU (ev y) with
  | none=>none
  | some m=>if zero.length=size/\m*bytes<=2^46/\m<2^62 then dm H id size bytes ty (ev x) m ((List.replicate m zero).flatten) none else none
 | .clear size zero x=>(jH H size zero (ev x)).map fun H'=>(.tup [],H')
 | .copy size x y=>zI H size (ev x) (ev y)
 | .toStr x=>(gZ H (ev x)).map fun s=>(.str s,H)
 | .rangeS x=>match ev x with
  | .str s=>some (.ptr id 0,H.put id (.siter s 0))
  | _=>none
 | .nextS x=>tF H (ev x)
 | .globIdx cs len size i=>match iU (ev i) with
  | some i=>if i<len then some (.dp cs (i*size),H) else none
  | none=>none
 | .globLoad k cs=>(aB cs 0 k).map fun v=>(v,H)
 | .toBytes ty x=>match ev x with
  | .str s=>some (.own id 0 s.size s.size 1 false,H.put id (.cells (s.data.toList.map fun b=>.int .u8 b.toNat) ty false))
  | _=>none
 | _=>none
inductive Ex where
 | nrm
 | exit (id:Nat)
 | goto (l:Nat)
 | ret
 deriving Inhabited,DecidableEq
inductive Task where
 | fn (f:Nat) (args:List AV)
 | round (b:Nat) (args:List AV)
 | ent (f:Nat) (args:List AV)
 deriving Inhabited
def gE (f:AV) (args:List AV):Option Task :=
 match f with
 | .fn (.func f) first cap=>some (.fn f (first++args++cap))
 | .loopv b=>some (.round b args)
 | _=>none
abbrev iH:=Task->Heap->Option (AV × Heap)
def nh (cal:iH) (ev:Src->AV) (H:Heap) (id:Nat) (o:AOp):Option (AV × Heap) :=
 match o with
 | .call f args=>do
  let t <- gE (ev f) (args.map ev)
  cal t H
 | o=>match aF ev o with
  | some v=>some (v,H)
  | none=>aX ev H id o
def bG (T:Tm):Option (Nat × Bool)->Option Bool
 | none=>some true
 | some (t,want)=>match T[t]? with
  | some (.bool b)=>some (b == want)
  | some (.tup [])=>some false
  | _=>none
def io (cal:iH):Nat->List oF->Tm->Heap->Option (Tm × Heap)
 | _,[],T,H=>some (T,H)
 | id,o :: os,T,H =>
  match bG T o.guard with
  | some true =>
   match nh cal (Src.ev T) H id o.op with
   | some (v,H')=>io cal (id+1) os (gN T o.dst v) H'
   | none=>none
  | some false=>io cal (id+1) os (gN T o.dst (.tup [])) H
  | none=>none
def il (T0:Tm) (Vs:List AV) (u:Nat × Option Nat):AV:=match u.2 with | none=>aa T0 u.1 | some j=>Vs.getD j .undef
def bL (T0:Tm) (Vs:List AV) (us:List (Nat × Option Nat)):Tm:=us.foldl (fun T u=>T.set u.1 (il T0 Vs u)) (List.replicate T0.length .undef)
def cV (base:Nat) (Es:List (Option Ent)) (C:Heap) (adds:List Nat):Heap :=
 adds.foldl (fun C a=>match Es.getD a none with | some e=>C.put (base+a) e | none=>C) C
def AOp.looks:AOp->Bool
 | .load .. | .lookup .. | .lenMap _ | .globIdx .. | .globLoad ..=>true
 | _=>false
def AOp.makes:AOp->Bool
 | .alloc .. | .box .. | .buildSlice .. | .mksl .. | .mkmap=>true
 | _=>false
structure DS where
 Vs:List AV
 Cs:List Heap
 Es:List (Option Ent)
def gk (cal:iH) (base:Nat) (T0:Tm) (i:Nat) (d:gb) (s:DS):Option DS :=
 let T:=bL T0 s.Vs d.uses
 match bG T d.guard with
 | none=>none
 | some false =>
  match d.cls,d.looks with
  | 2,[(k,adds)]=>some ⟨s.Vs++[.tup []],s.Cs++[cV base s.Es (s.Cs.getD k default) adds],s.Es++[none]⟩
  | 2,_=>none
  | _,_=>some ⟨s.Vs++[.tup []],s.Cs,s.Es++[none]⟩
 | some true =>
  match d.cls with
  | 0=>match aF (Src.ev T) d.op with
   | some v=>some ⟨s.Vs++[v],s.Cs,s.Es++[none]⟩
   | none=>match d.looks with
    | (k,adds) :: _=>if d.op.looks=true then match aX (Src.ev T) (cV base s.Es (s.Cs.getD k default) adds) 0 d.op with
      | some (v,_)=>some ⟨s.Vs++[v],s.Cs,s.Es++[none]⟩
      | none=>none
     else none
    | []=>none
  | 1=>if d.op.makes=true then match aX (Src.ev T) (Heap.nil 0) (base+i) d.op with
    | some (v,H')=>some ⟨s.Vs++[v],s.Cs,s.Es++[H'.get (base+i)]⟩
    | none=>none
   else none
  | _=>match d.looks with
   | [(k,adds)]=>match nh cal (Src.ev T) (cV base s.Es (s.Cs.getD k default) adds) (base+i) d.op with
    | some (v,H')=>some ⟨s.Vs++[v],s.Cs++[H'],s.Es++[none]⟩
    | none=>none
   | _=>none
def kO (cal:iH) (base:Nat) (T0:Tm):Nat->List gb->DS->Option DS
 | _,[],s=>some s
 | i,d :: ds,s=>match gk cal base T0 i d s with
  | some s'=>kO cal base T0 (i+1) ds s'
  | none=>none
def gx (base:Nat) (T0:Tm) (s:DS) (i:Nat) (d:gb):Bool :=
 match d.cls,bG (bL T0 s.Vs d.uses) d.guard,aF (Src.ev (bL T0 s.Vs d.uses)) d.op with
 | 0,some true,none=>d.looks.all fun p=>match aX (Src.ev (bL T0 s.Vs d.uses)) (cV base s.Es (s.Cs.getD p.1 default) p.2) 0 d.op with
  | some (v,_)=>AV.beq v (s.Vs.getD i .undef)
  | none=>false
 | _,_,_=>true
def gW (base:Nat) (T0:Tm) (s:DS):Nat->List gb->Bool
 | _,[]=>true
 | i,d :: ds=>gx base T0 s i d && gW base T0 s (i+1) ds
def eJ (T:Tm):List gb->List AV->Tm
 | d :: ds,v :: vs=>eJ (gN T d.dst v) ds vs
 | _,_=>T
def sg (cal:iH) (ds:List gb) (late:List Nat) (T:Tm) (H:Heap):Option (Tm × Heap) :=
 match kO cal H.next T 0 ds ⟨[],[{ H with next:=H.next+ds.length }],[]⟩ with
 | none=>none
 | some s=>if gW H.next T s 0 ds=true then some (eJ T ds s.Vs,cV H.next s.Es (s.Cs.getLastD default) late) else none
def fE (W:List Nat) (T:Tm):Tm:=T.zipIdx.map fun p=>if W.contains p.2 then .undef else p.1
def og (body:Tm->Heap->Option (Ex × Tm × Heap)):Nat->Tm->Heap->Option (Ex × Tm × Heap)
 | 0,_,_=>none
 | n+1,T,H =>
  match body T H with
  | some (.nrm,T',H')=>og body n T' H'
  | r=>r
def uW (l:Nat) (body:Tm->Heap->Option (Ex × Tm × Heap)):Nat->Tm->Heap->Option (Ex × Tm × Heap)
 | 0,_,_=>none
 | n+1,T,H =>
  match body T H with
  | some (.goto l',T',H')=>if l'=l then uW l body n T' H' else none
  | r=>r
def ku:Tm->List (Nat × AV)->Tm
 | T,[]=>T
 | T,(t,v) :: r=>ku (T.set t v) r
def ib (W:List Nat) (bid2:Nat) (T2:Tm):Option (Ex × Tm × Heap)->Option (Option Tm)
 | some (.nrm,T4,_)=>if AV.beqs (fE W T4) T2=true then some none else none
 | some (.exit i,T4,_)=>if i=bid2/\AV.beqs (fE W T4) T2=true then some none else none
 | some (.ret,T4,_)=>if AV.beqs (fE W T4) T2=true then some (some T4) else none
 | _=>none
def nN (T2:Tm) (l:List Tm):Tm:=T2.zipIdx.map fun p=>match p.1 with
 | .undef=>match l with
  | []=>.undef
  | t :: ts=>match aa t p.2 with
   | .int k n=>if ts.all (fun u=>AV.beq (aa u p.2) (.int k n))=true then .int k n else .undef
   | _=>.undef
 | v=>v
def aw (cal:iH) (m:Nat) (rd:Bool):ACode->Tm->Heap->Option (Ex × Tm × Heap)
 | .skip,T,H=>some (.nrm,T,H)
 | .region ops,T,H =>
  match io cal H.next ops T { H with next:=H.next+ops.length } with
  | some (T',H')=>some (.nrm,T',H')
  | none=>none
 | .draw ds late,T,H =>
  match sg cal ds late T H with
  | some (T',H')=>some (.nrm,T',H')
  | none=>none
 | .seq a b,T,H =>
  match aw cal m rd a T H with
  | some (.nrm,T',H')=>aw cal m rd b T' H'
  | r=>r
 | .cond c a b,T,H =>
  match c.ev T with
  | .bool true=>aw cal m rd a T H
  | .bool false=>aw cal m rd b T H
  | _=>none
 | .block id body,T,H =>
  match aw cal m rd body T H with
  | some (.exit id',T',H')=>if id'=id then some (.nrm,T',H') else some (.exit id',T',H')
  | r=>r
 | .loop body,T,H=>og (aw cal m rd body) m T H
 | .exit id,T,H=>some (.exit id,T,H)
 | .goto l,T,H=>some (.goto l,T,H)
 | .ret,T,H=>some (.ret,T,H)
 | .scope a,T,H =>
  match aw cal m rd a T H with
  | some (.goto _,_,_)=>none
  | r=>r
 | .scopeL a l rest,T,H =>
  match aw cal m rd a T H with
  | some (.goto l',T',H')=>if l'=l then uW l (aw cal m rd rest) m T' H' else none
  | r=>r
 | .drawF ..,_,_=>none
 | .rangeM pre x it nx ex _ bid2 en ops rest W,T,H =>
  match io cal H.next pre T { H with next:=H.next+(pre.length+1) } with
  | none=>none
  | some (T1,H1) =>
   match x.ev T1 with
   | .map b=>match H1.get b with
    | some (.map es) =>
     let T2:=fE (nx :: ex :: en :: W) (T1.set it (.ptr (H.next+pre.length) 0))
     if AV.beq (aa T2 it) (.ptr (H.next+pre.length) 0)=true/\nx<T1.length/\ex<T1.length/\en<T1.length then
      match es.mapM (fun p=>ib (nx :: ex :: en :: W) bid2 T2 (match io cal (H1.next+1) ops (T2.set en (.tup [p.1,p.2])) { H1.ro with next:=H1.next+(ops.length+1) } with
       | some (T3,H3)=>aw cal m rd rest T3 H3
       | none=>none)) with
      | none=>none
      | some l=>match l.filterMap (fun x=>x) with
       | []=>some (.nrm,T2,H1)
       | r=>some (.ret,nN T2 r,H1)
     else none
    | _=>none
   | _=>none
 | .rangeFunc f ps asg body,T,H =>
  if rd=true then none else
  let l:=H.next
  let H1:Heap:={ H with next:=H.next+1 }.put l (.loop T ps asg body .ready none)
  match gE (f.ev T) [.loopv l] with
  | some (.fn fi args)=>match cal (.ent fi args) H1 with
   | some (_,H2)=>match H2.get l with
    | some (.loop _ _ _ _ .ready none)=>some (.nrm,T,H2.kill l)
    | some (.loop _ _ _ _ .done (some c))=>match c with
     | .ret=>some (.ret,T,H2.kill l)
     | .exit id=>some (.exit id,T,H2.kill l)
     | .goto g=>some (.goto g,T,H2.kill l)
     | _=>none
    | _=>none
   | none=>none
  | _=>none
inductive Aj where
 | code (c:ACode)
 | seq (a:ACode) (b:Aj)
 | dfr (ops:List oF) (f:Src) (b:Aj)
 deriving Inhabited
inductive Ext where
 | add64 | sub64
 | countS | indexS
 | insert (size bytes ty:Nat)
 | keys (str:Bool) (gs:List Nat) (ty:Nat)
 | sortF (ty:Nat) (gs:List Nat)
 | dfr (b:Aj)
 | rcv (d:Nat) (c:ACode)
 deriving Inhabited
def Ext.code:Ext->Bool
 | .dfr _ | .rcv _ _ | .keys ..=>true
 | _=>false
structure aN where
 nparams:Nat
 ntmps:Nat
 results:List (Nat × Option (Option Nat))
 body:ACode
 ext:Option Ext:=none
 deriving Inhabited
def EK {α:Type} (le:α->α->Bool) (x:α):List α->List α
 | []=>[x]
 | y :: l=>if le x y=true then x :: y :: l else y :: EK le x l
def rq {α:Type} (le:α->α->Bool):List α->List α
 | []=>[]
 | x :: l=>EK le x (rq le l)
def p3 {α:Type} (le:α->α->Bool):List α->Bool
 | []=>true
 | [_]=>true
 | a :: b :: l=>!le b a && p3 le (b :: l)
def Fp (a b:Int):Bool:=decide (a<=b)
def Fc:List UInt8->List UInt8->Bool
 | [],_=>true
 | _ :: _,[]=>false
 | a :: x,b :: y=>if a.toNat<b.toNat then true else if a.toNat=b.toNat then Fc x y else false
def intOf?:AV->Option Int
 | .int .i64 n=>if -9223372036854775808<=n/\n<=9223372036854775807 then some n else none
 | _=>none
def strOf?:AV->Option (List UInt8)
 | .str s=>if s.size<=9223372036854775807 then some s.data.toList else none
 | _=>none
def Ea {α:Type} (f:AV->Option α):List (AV × AV)->Option (List α)
 | []=>some []
 | (k,_) :: es=>match f k,Ea f es with
  | some a,some l=>some (a :: l)
  | _,_=>none
def Be (str:Bool) (es:List (AV × AV)):Option (List AV) :=
 match str with
 | false=>match Ea intOf? es with
  | some ks=>if p3 Fp (rq Fp ks)=true then some ((rq Fp ks).map (AV.int .i64)) else none
  | none=>none
 | true=>match Ea strOf? es with
  | some ks=>if p3 Fc (rq Fc ks)=true then some ((rq Fc ks).map fun l=>AV.str ⟨l.toArray⟩) else none
  | none=>none
def DH (H:Heap) (gs:List Nat):List AV->Option (List (AV × AV))
 | [.fn (.func g) [] [.ptr b 0]]=>if gs.contains g then
   match H.get b with
   | some (.cells [.map mb] _ _)=>match H.get mb with
    | some (.map es)=>some es
    | some (.mapR es)=>some es
    | _=>none
   | _=>none
  else none
 | _=>none
def EI (H:Heap) (str:Bool) (gs:List Nat) (ty:Nat) (args:List AV):Option (AV × Heap) :=
 match DH H gs args with
 | none=>none
 | some es=>if es.length<=1000000 then
   match Be str es with
   | none=>none
   | some []=>some (.nilSl,{ H with next:=H.next+1 })
   | some cs=>some (.own H.next 0 cs.length cs.length 1 false,{ H with next:=H.next+1 }.put H.next (.cells cs ty true))
  else none
def DX (c:Nat):List UInt8->Nat
 | []=>0
 | b :: l=>bif Nat.beq b.toNat c then Nat.succ (DX c l) else DX c l
def EL (c:Nat):List UInt8->Int
 | []=>-1
 | b :: l=>bif Nat.beq b.toNat c then 0 else match EL c l with
  | .ofNat n=>.ofNat (Nat.succ n)
  | z=>z
def EQ (H:Heap):Ext->List AV->Option (AV × Heap)
 | .keys str gs ty,args=>EI H str gs ty args
 | .add64,[.int .u64 (.ofNat x),.int .u64 (.ofNat y),.int .u64 (.ofNat c)]=>if c<=1 then some (.tup [.int .u64 (.ofNat ((x+y+c) % 2^64)),.int .u64 (.ofNat ((x+y+c) / 2^64))],H) else none
 | .sub64,[.int .u64 (.ofNat x),.int .u64 (.ofNat y),.int .u64 (.ofNat c)]=>if c<=1 then some (.tup [.int .u64 (.ofNat ((x+2^64-y-c) % 2^64)),.int .u64 (.ofNat (if x<y+c then 1 else 0))],H) else none
 | .countS,[.str s,.int .u8 (.ofNat c)]=>if c<256 then some (.int .i64 (.ofNat (DX c s.toList)),H) else none
 | .indexS,[.str s,.int .u8 (.ofNat c)]=>if c<256 then some (.int .i64 (EL c s.toList),H) else none
 | .insert size bytes ty,[.nilSl,.int .i64 (.ofNat i),.own b2 off2 m c2 sz2 ex2] =>
  match bE H size m (.own b2 off2 m c2 sz2 ex2) with
  | some news=>if i=0/\0<m/\m*bytes<=2^46/\m<2^62/\news.all AV.one=true then some (.own H.next 0 m m size false,{ H with next:=H.next+1 }.put H.next (.cells news ty true)) else none
  | none=>none
 | .insert size bytes ty,[.own b off n c sz ex,.int .i64 (.ofNat i),.own b2 off2 m c2 sz2 ex2] =>
  match bE H size m (.own b2 off2 m c2 sz2 ex2),H.get b,H.get b2 with
  | some news,some (.cells cs ty' true),some (.cells _ _ true) =>
   if off=0/\sz=size/\b≠b2/\0<m/\i<=n/\cs.length=n*size/\(n+m)*bytes<=2^46/\n+m<2^62/\ty'=ty/\news.all AV.one=true/\cs.all AV.one=true then
    some (.own H.next 0 (n+m) (n+m) size false,({ H with next:=H.next+1 }.kill b).put H.next (.cells (cs.take (i*size)++news++cs.drop (i*size)) ty true))
   else none
  | _,_,_=>none
 | _,_=>none
def kE (T:Tm) (H:Heap) (r:Nat × Option (Option Nat)):Option AV :=
 match r.2 with
 | none=>some (aa T r.1)
 | some k=>match aa T r.1 with
  | .ptr b o=>match H.get b with
   | some (.cells cs _ _)=>aB cs o k
   | _=>none
  | _=>none
def co (T:Tm) (H:Heap) (rs:List (Nat × Option (Option Nat))):Option AV:=do
 let vs <- rs.mapM (kE T H)
 match vs with
 | [v]=>some v
 | vs=>some (.tup vs)
def pm (cal:iH) (m:Nat) (fn:aN) (args:List AV) (H:Heap):Option (AV × Heap) :=
 if args.length=fn.nparams then
  match aw cal m false fn.body (args++List.replicate (fn.ntmps-args.length) .undef) H with
  | some (.nrm,T,H')=>(co T H' fn.results).map fun v=>(v,H')
  | some (.ret,T,H')=>(co T H' fn.results).map fun v=>(v,H')
  | _=>none
 else none
abbrev xJ:=Task->Heap->Option (AV × Heap)
def CC (ds:List gb):List Nat:=ds.filterMap fun d=>d.dst
def EE:iH:=fun _ _=>none
def Ak (M:List (List Int)) (i j:Nat):Bool:=decide ((M.getD i []).getD j 0<0)
def Ee (M:List (List Int)) (n:Nat):Prop:=(∀ i,i<n->Ak M i i=false)/\(∀ i,i<n->∀ j,j<n->i=j\/Ak M i j = !Ak M j i)/\(∀ i,i<n->∀ j,j<n->∀ k,k<n->Ak M i j=true->Ak M j k=true->Ak M i k=true)
instance (M:List (List Int)) (n:Nat):Decidable (Ee M n):=by unfold Ee; infer_instance
def mt (cal:iH) (g:Nat) (caps:List AV) (D:Heap) (x:AV):List AV->Option (List Int)
 | []=>some []
 | y :: l=>match cal (.fn g ([x,y]++caps)) D,mt cal g caps D x l with
  | some (.int .i64 c,_),some cs=>some (c :: cs)
  | _,_=>none
def nr (cal:iH) (g:Nat) (caps:List AV) (D:Heap) (all:List AV):List AV->Option (List (List Int))
 | []=>some []
 | x :: l=>match mt cal g caps D x all,nr cal g caps D all l with
  | some r,some rs=>some (r :: rs)
  | _,_=>none
def nE (M:List (List Int)) (n:Nat):List (Fin n):=(List.finRange n).mergeSort fun x y=>!Ak M y.val x.val
def yK (cal:iH) (ty:Nat) (gs:List Nat) (H:Heap):List AV->Option (AV × Heap)
 | [.nilSl,.fn (.func _) _ _]=>some (.tup [],H)
 | [.own b off n _ sz _,.fn (.func g) [] caps]=>if n=0 then some (.tup [],H) else match H.get b with
  | some (.cells cs ty' true) =>
   if ty'=ty/\off=0/\sz=1/\cs.length=n/\0<n/\n<4611686018427387904/\g∈gs/\cs.all AV.one=true then
    match nr cal g caps (H.kill b).ro cs cs with
    | some M=>if Ee M n then some (.tup [],H.put b (.cells ((nE M n).map fun i=>cs.getD i.val .undef) ty true)) else none
    | none=>none
   else none
  | _=>none
 | _=>none
def kp (tab:Nat->Option aN) (pc:xJ) (cal:iH) (m:Nat):Task->Heap->Option (AV × Heap)
 | .fn f args,H =>
  match tab f with
  | none=>none
  | some fn=>match fn.ext with
   | some (.sortF ty gs)=>yK cal ty gs H args
   | some e=>EQ H e args
   | none=>pm cal m fn args H
 | .ent f args,H =>
  match tab f with
  | none=>none
  | some fn=>match fn.ext with
   | some _=>none
   | none=>pm cal m fn args H
 | .round b args,H =>
  match H.get b with
  | some (.loop T ps asg body .ready none) =>
   if args.length=ps.length then
    match aw cal m true asg (ku T (ps.zip args)) H with
    | some (.nrm,T1,H1) =>
     match H1.get b with
     | some (.loop T1' ps1 asg1 body1 .ready none) =>
      match aw cal m true body T1 (H1.put b (.loop T1' ps1 asg1 body1 .busy none)) with
      | some (x,_,H2) =>
       match H2.get b with
       | some (.loop T2 ps2 asg2 body2 .busy none) =>
        match x with
        | .nrm=>some (.bool true,H2.put b (.loop T2 ps2 asg2 body2 .ready none))
        | .ret=>some (.bool false,H2.put b (.loop T2 ps2 asg2 body2 .done (some .ret)))
        | .exit id=>some (.bool false,H2.put b (.loop T2 ps2 asg2 body2 .done (some (.exit id))))
        | .goto g=>some (.bool false,H2.put b (.loop T2 ps2 asg2 body2 .done (some (.goto g))))
       | _=>none
      | none=>none
     | _=>none
    | _=>none
   else none
  | _=>none
def gy (tab:Nat->Option aN) (pc:xJ) (m:Nat):Nat->iH
 | 0=>fun _ _=>none
 | n+1=>kp tab pc (gy tab pc m n) m
def xK:Nat->Option (List AV):=fun _=>none
def Ad:Prop:=True
def pt:Value->Option AV
 | .bool b=>some (.bool b)
 | .int k n=>some (.int k n)
 | .string s=>some (.str s)
 | .pointer none=>some .nilPtr
 | .slice none 0 0=>some .nilSl
 | .map none=>some .nilMap
 | .nilFunc=>some .nilFn
 | .nilIface=>some .nilIf
 | .func f a b=>if a.size=0/\b.size=0 then some (.fn f [] []) else none
 | _=>none
def vp (v:Value):Option (List AV):=v.cells.toList.mapM pt
def kb:Value->Option AV
 | .agg cs=>do some (.agg (<- cs.toList.mapM pt))
 | .tuple vs=>if vs.size=0 then some (.tup []) else none
 | v=>pt v
def bD:Operand->Option Src
 | .tmp t=>some (.t t)
 | .const v=>(kb v).map .c
 | .global _=>none
 | .func f=>some (.c (.fn (.func f) [] []))
def tN:Operand->Option (List AV)
 | .global g=>xK g
 | _=>none
def lH:Operand->Bool
 | .const _=>true
 | _=>false
def ox:Option Operand->Option (Option Src)
 | none=>some none
 | some x=>(bD x).map some
section
variable (P:Program)
def zeroCells? (t:TypeId):Option (List AV):=do
 let i <- P.info? t
 let z <- i.zero
 vp z
def sizeOf? (t:TypeId):Option Nat:=(P.info? t).map (·.size)
def bytesOf? (t:TypeId):Option Nat:=(P.info? t).map (·.bytes)
def jh (t:TypeId):Option (Option Nat):=do
 match <- P.underlying t with
 | .struct _=>(sizeOf? P t).map some
 | .array _ _=>(sizeOf? P t).map some
 | _=>some none
def lp (fs:Array Field):Option (List (Nat × Nat)):=fs.toList.mapM fun f=>(sizeOf? P f.type).map fun n=>(f.offset,n)
def kL (t:TypeId):Bool :=
 match P.underlying t with
 | some (.array 2 e)=>(match P.underlying e with | some .bool=>true | _=>false) && (sizeOf? P e == some 1)
 | _=>false
def ft (t:TypeId):Nat :=
 match P.underlying t with
 | some (.struct fs)=>if (fs.toList.zipIdx.all fun p=>p.1.name != "_" && (p.1.offset == p.2 && (match P.underlying p.1.type with | some (.int _)=>true | _=>false))) && !P.stoodInHeld t then fs.size else 0
 | _=>0
def Cz (t:TypeId):Bool:=match P.underlying t with
 | some (.interface _)=>true
 | _=>false
def f8 (t:TypeId):Option BK :=
 match P.underlying t with
 | some (.int _)=>some .int
 | some .bool=>some .bool
 | some .string=>some .str
 | some (.slice _)=>some .sl
 | _=>none
def pA (t:TypeId):Bool :=
 match P.underlying t with
 | some (.int _) | some .string=>true
 | _=>false
def sD (o:Oper):Option AOp :=
 match o.op with
 | .move x | .assign x=>(bD x).map .mv
 | .pick c a b=>do some (.pick (<- bD c) (<- bD a) (<- bD b))
 | .alloc e=>do some (.alloc e (<- zeroCells? P e))
 | .box e x=>do
  let _ <- sizeOf? P e
  some (.box e (<- bD x))
 | .build t parts=>do
  let z <- zeroCells? P t
  match <- P.underlying t with
  | .struct fs=>do
   let pl <- lp P fs
   let ps <- parts.toList.mapM fun (i,x)=>do some ((<- pl[i]?),(<- bD x))
   some (.build z ps)
  | .array _ e=>do
   let n <- sizeOf? P e
   let ps <- parts.toList.mapM fun (i,x)=>do some ((i*n,n),(<- bD x))
   some (.build z ps)
  | _=>none
 | .buildSlice t len parts=>do
  match <- P.underlying t with
  | .slice e=>do
   let n <- sizeOf? P e
   let z <- zeroCells? P e
   let ps <- parts.toList.mapM fun (i,x)=>do some ((i*n,n),(<- bD x))
   if len*n<=2^24/\z.length=n then some (.buildSlice e n ((List.replicate len z).flatten) len ps) else none
  | _=>none
 | .load t x=>match tN x with
  | some cs=>do some (.globLoad (<- jh P t) cs)
  | none=>do some (.load (<- jh P t) (<- bD x))
 | .store t x v=>do some (.store (<- sizeOf? P t) (<- bD x) (<- bD v))
 | .nilCheck x=>(bD x).map .nilCheck
 | .binOp op t x y _ =>
  if kL P t then
   match op with
   | .eql=>do some (.eqAgg false 0 (<- bD x) (<- bD y))
   | .neq=>do some (.eqAgg true 0 (<- bD x) (<- bD y))
   | _=>none
  else if ft P t≠0 then
   match op with
   | .eql=>do some (.eqAgg false (ft P t) (<- bD x) (<- bD y))
   | .neq=>do some (.eqAgg true (ft P t) (<- bD x) (<- bD y))
   | _=>none
  else if Cz P t then (if lH x || lH y then do some (.bin op .ifc (<- bD x) (<- bD y)) else none)
  else do some (.bin op (<- f8 P t) (<- bD x) (<- bD y))
 | .unOp op _ x=>do some (.un op (<- bD x))
 | .convert a b x=>do
  match <- P.underlying a,<- P.underlying b with
  | .int _,.int k=>do some (.conv k (<- bD x))
  | .string,.string=>do some (.strId (<- bD x))
  | .slice e,.string=>do
   match <- P.underlying e with
   | .int .u8=>some (.toStr (<- bD x))
   | _=>none
  | .string,.slice e=>do
   match <- P.underlying e with
   | .int .u8=>do
    let n <- sizeOf? P e
    if n=1 then some (.toBytes e (<- bD x)) else none
   | _=>none
  | _,_=>none
 | .makeInterface t x=>do
  match <- P.underlying t with
  | .interface _=>none
  | _=>some (.iface t (<- bD x))
 | .makeFunc f first cap=>do some (.mkfn f (<- first.toList.mapM bD) (<- cap.toList.mapM bD))
 | .makeMap t r=>do
  match <- P.underlying t with
  | .map _ _=>if r.isNone then some .mkmap else none
  | _=>none
 | .makeSlice t l c=>do
  match <- P.underlying t with
  | .slice e=>do some (.mksl e (<- sizeOf? P e) (<- bytesOf? P e) (<- zeroCells? P e) (<- bD l) (<- bD c))
  | _=>none
 | .slice t x lo hi mx=>do
  match <- P.underlying t with
  | .slice e=>do some (.slice (<- sizeOf? P e) (<- bD x) (<- ox lo) (<- ox hi) (<- ox mx))
  | .string=>if mx.isSome then none else do some (.sliceStr (<- bD x) (<- ox lo) (<- ox hi))
  | _=>none
 | .fieldAddr t x i=>do
  match <- P.underlying t with
  | .struct fs=>do
   let f <- fs[i]?
   let n <- sizeOf? P f.type
   if n=0 then none else some (.fieldAddr f.offset (<- bD x))
  | _=>none
 | .field t x i=>do
  match <- P.underlying t with
  | .struct fs=>do let f <- fs[i]?; some (.field (<- jh P f.type) f.offset (<- bD x))
  | _=>none
 | .indexAddr t x i=>do
  match <- P.underlying t with
  | .slice e=>do some (.indexAddr (<- sizeOf? P e) (<- bD x) (<- bD i))
  | .array n e=>match tN x with
   | some cs=>do some (.globIdx cs n (<- sizeOf? P e) (<- bD i))
   | none=>do some (.indexArr n (<- sizeOf? P e) (<- bD x) (<- bD i))
  | _=>none
 | .index t x i=>do
  match <- P.underlying t with
  | .array n e=>do some (.indexAgg n (<- sizeOf? P e) (<- jh P e) (<- bD x) (<- bD i))
  | .string=>do some (.indexStr (<- bD x) (<- bD i))
  | _=>none
 | .lookup t x i ok=>do
  match <- P.underlying t with
  | .map k e =>
   if pA P k then do
    let z <- (P.info? e).bind (·.zero)
    some (.lookup (<- f8 P k) (<- kb z) (<- bD x) (<- bD i) ok)
   else none
  | _=>none
 | .mapUpdate t m k v | .insert t m k v=>do
  match <- P.underlying t with
  | .map kt _=>if pA P kt then do some (.mapUpd (<- f8 P kt) (<- bD m) (<- bD k) (<- bD v)) else none
  | _=>none
 | .extract x i=>do some (.extract i (<- bD x))
 | .call c=>do
  let args <- c.args.toList.mapM bD
  match c.callee with
  | .value f=>do some (.call (<- bD f) args)
  | .invoke _ _=>none
  | .builtin b =>
   match b,args,c.argTypes.toList with
   | .len,[x],[t]=>do
    match <- P.underlying t with
    | .slice _=>some (.len x)
    | .string=>some (.lenStr x)
    | .map _ _=>some (.lenMap x)
    | _=>none
   | .cap,[x],[t]=>do
    match <- P.underlying t with
    | .slice _=>some (.cap x)
    | _=>none
   | .min,xs,_=>some (.min xs)
   | .max,xs,_=>some (.max xs)
   | .append,[x,y],[t,t']=>do
    match <- P.underlying t,<- P.underlying t' with
    | .slice e,.slice _=>do
     let n <- sizeOf? P e; let z <- zeroCells? P e
     if z.length=n then some (.append n (<- bytesOf? P e) e z x y) else none
    | .slice e,.string=>do
     let n <- sizeOf? P e; let z <- zeroCells? P e
     if z.length=n then some (.append n (<- bytesOf? P e) e z x y) else none
    | .slice e,.int .i64=>do
     let n <- sizeOf? P e; let z <- zeroCells? P e
     if z.length=n then some (.appendZ n (<- bytesOf? P e) e z x y) else none
    | _,_=>none
   | .clear,[x],[t]=>do
    match <- P.underlying t with
    | .slice e=>do some (.clear (<- sizeOf? P e) (<- zeroCells? P e) x)
    | _=>none
   | .copy,[x,y],[t,_]=>do
    match <- P.underlying t with
    | .slice e=>do some (.copy (<- sizeOf? P e) x y)
    | _=>none
   | _,_,_=>none
 | .panic x=>(bD x).map .panic
 | .typeAssert x _ t ok=>do
  match <- P.underlying t with
  | .interface _=>none
  | _=>do
   let z <- (P.info? t).bind (·.zero)
   some (.tassert t (<- kb z) ok (<- bD x))
 | .range t x=>do
  match <- P.underlying t with
  | .string=>some (.rangeS (<- bD x))
  | _=>none
 | .next x s=>if s=true then (bD x).map .nextS else none
 | _=>none
def oy (ops:Array Oper):Option (Nat × Bool)->Option (Option (Nat × Bool))
 | none=>some none
 | some (j,want)=>match ops[j]? with
  | none=>none
  | some o'=>match o'.dst with
   | none=>none
   | some d=>some (some (d,want))
def ow (ops:Array Oper) (o:Oper):Option oF :=
 (oy ops o.guard).map fun g=>{ dst:=o.dst,op:=(sD P o).getD .bad,guard:=g }
def jn:Src->List Nat
 | .t n=>[n]
 | .c _=>[]
def oT:Option Src->List Nat
 | some s=>jn s
 | none=>[]
def AOp.slots:AOp->List Nat
 | .mv x | .box _ x | .load _ x | .nilCheck x | .un _ x | .conv _ x | .strId x | .iface _ x | .fieldAddr _ x | .field _ _ x | .extract _ x | .len x | .lenStr x | .lenMap x | .cap x | .clear _ _ x | .toStr x | .toBytes _ x | .rangeS x | .nextS x | .tassert _ _ _ x | .globIdx _ _ _ x | .panic x=>jn x
 | .pick a b c=>jn a++jn b++jn c
 | .build _ ps | .buildSlice _ _ _ _ ps=>ps.flatMap fun p=>jn p.2
 | .store _ x y | .bin _ _ x y | .eqAgg _ _ x y | .indexAddr _ x y | .indexArr _ _ x y | .indexAgg _ _ _ x y | .indexStr x y | .lookup _ _ x y _ | .mksl _ _ _ _ x y | .append _ _ _ _ x y | .appendZ _ _ _ _ x y | .copy _ x y=>jn x++jn y
 | .mkfn _ a b=>a.flatMap jn++b.flatMap jn
 | .slice _ x a b c=>jn x++oT a++oT b++oT c
 | .sliceStr x a b=>jn x++oT a++oT b
 | .mapUpd _ a b c=>jn a++jn b++jn c
 | .min xs | .max xs=>xs.flatMap jn
 | .call f xs=>jn f++xs.flatMap jn
 | .alloc .. | .mkmap | .bad | .globLoad ..=>[]
def gT (o:Oper):List Nat:=(o.after.toList.filter (Region.binds .any)).map (·.on)
def Bo (ops:List Oper):List (List Nat) :=
 ops.foldl (fun acc o=>acc++[((gT o).flatMap fun j=>j :: acc.getD j []).eraseDups]) []
def CD (a:AOp):Nat:=if a.isPure || a.looks then 0 else if a.makes then 1 else 2
structure DI where
 dst:Option Nat
 op:AOp
 guard:Option (Nat × Bool)
 preds:List Nat
 cls:Nat
 deriving Inhabited
def uV (l:List DI) (i:Nat) (p:List Nat) (t:Nat):Option Nat :=
 (List.range i).foldl (fun acc j=>if p.contains j && ((l.getD j default).dst == some t) then some j else acc) none
def ax (l:List DI):List Nat:=(List.range l.length).filter fun i=>(l.getD i default).cls == 2
def cX (l:List DI) (k:Nat):List Nat :=
 match k with
 | 0=>[]
 | k+1=>let w:=(ax l).getD k 0; (List.range l.length).filter fun a=>(l.getD a default).cls == 1 && (l.getD w default).preds.contains a
def uT (l:List DI) (i:Nat):List (Nat × List Nat) :=
 let d:=l.getD i default
 let ws:=ax l
 let lo:=(ws.filter fun w=>d.preds.contains w).length
 let hi:=if d.cls == 2 then lo else ws.length-(ws.filter fun w=>(l.getD w default).preds.contains i).length
 (List.range (hi+1-lo)).map fun x=>(lo+x,(List.range l.length).filter fun a=>(l.getD a default).cls == 1 && d.preds.contains a && !(cX l (lo+x)).contains a)
def ml (l:List DI):List Nat:=(List.range l.length).filter fun a=>(l.getD a default).cls == 1 && !(cX l (ax l).length).contains a
def uK (ops:List Oper) (l:List DI):Bool :=
 (List.range l.length).all fun i=>((gT (ops.getD i default)).all fun j=>decide (j<i)) &&
  (l.getD i default).preds.all fun p=>(gT (ops.getD i default)).any fun j=>p == j || (l.getD j default).preds.contains p
def uL (l:List DI):Bool :=
 (List.range l.length).all fun j=>(List.range j).all fun i =>
  ((l.getD i default).dst.isNone || (l.getD i default).dst != (l.getD j default).dst || (l.getD j default).preds.contains i) &&
  (!((l.getD i default).cls == 2 && (l.getD j default).cls == 2) || (l.getD j default).preds.contains i)
def y7 (l:List DI) (i:Nat) (u:Nat × Option Nat):Bool :=
 match u.2 with
 | some j=>(l.getD i default).preds.contains j && (l.getD j default).dst == some u.1 && decide (j<i) &&
   (List.range l.length).all fun j'=>(l.getD j' default).dst != some u.1 || decide (j'<=j) || (l.getD j' default).preds.contains i || j' == i
 | none=>(List.range l.length).all fun j'=>(l.getD j' default).dst != some u.1 || j' == i || (l.getD j' default).preds.contains i
def yZ (l:List DI) (ds:List gb):Bool:=(List.range l.length).all fun i=>(ds.getD i default).uses.all (y7 l i)
def y9 (l:List DI) (i:Nat) (p:Nat × List Nat):Bool :=
 p.2.all fun a=>(l.getD i default).preds.contains a && (l.getD a default).cls == 1 && !(cX l p.1).contains a && decide (a<i)
def y8 (l:List DI) (i:Nat) (looks:List (Nat × List Nat)):Bool :=
 (List.range ((ax l).length+1)).all fun k =>
  ((List.range (ax l).length).any fun q=>((l.getD i default).preds.contains ((ax l).getD q 0) && decide (k<=q)) || ((l.getD ((ax l).getD q 0) default).preds.contains i && decide (q<k))) ||
  looks.any fun p=>p.1 == k
def Cx (l:List DI) (i:Nat) (looks:List (Nat × List Nat)):Bool :=
 match looks with
 | [p]=>decide (p.1<(ax l).length) && (ax l).getD p.1 0 == i && (List.range l.length).all fun a=>(cX l (p.1+1)).contains a == ((cX l p.1).contains a || p.2.contains a)
 | _=>false
def uM (l:List DI) (ds:List gb):Bool :=
 (List.range l.length).all fun i=>((ds.getD i default).looks.all (y9 l i)) &&
  (if (l.getD i default).cls=0 then y8 l i (ds.getD i default).looks else if (l.getD i default).cls=1 then true else Cx l i (ds.getD i default).looks)
def tV (ops:List Oper) (l:List DI) (ds:List gb):Bool:=uK ops l && uL l && yZ l ds && uM l ds
def EY (ops:Array Oper) (pr:List (List Nat)) (o:Oper) (i:Nat):Option DI :=
 (oy ops o.guard).map fun g=>{ dst:=o.dst,op:=(sD P o).getD .bad,guard:=g,preds:=pr.getD i [],cls:=CD ((sD P o).getD .bad) }
def vq (ops:Array Oper):Option (List gb × List Nat) :=
 let pr:=Bo ops.toList
 match (ops.toList.zipIdx).mapM fun (o,i)=>EY P ops pr o i with
 | none=>none
 | some l =>
  let ds:=(List.range l.length).map fun i =>
   let d:=l.getD i default
   { dst:=d.dst,op:=d.op,guard:=d.guard,uses:=((d.op.slots++(match d.guard with | some (t,_)=>[t] | none=>[])).eraseDups).map fun t=>(t,uV l i d.preds t),cls:=d.cls,looks:=uT l i:gb }
  if tV ops.toList l ds=true then some (ds,ml l) else none
def uZ (ops:List oF):List Nat:=ops.filterMap fun o=>o.dst
def ACode.dsts:ACode->List Nat
 | .region ops=>uZ ops
 | .draw ds _=>CC ds
 | .drawF ds _ _ _=>CC ds
 | .seq a b=>a.dsts++b.dsts
 | .cond _ a b=>a.dsts++b.dsts
 | .block _ a=>a.dsts
 | .loop a=>a.dsts
 | .scope a=>a.dsts
 | .scopeL a _ _=>a.dsts
 | .rangeFunc _ _ a b=>a.dsts++b.dsts
 | .rangeM pre _ it nx ex _ _ en ops rest _=>it :: nx :: ex :: en :: (uZ pre++uZ ops++rest.dsts)
 | _=>[]
def zu (t:TypeId):Bool:=match P.underlying t with
 | some (.map _ _)=>true
 | _=>false
def jX (ops:Array Oper):Option (List Oper × Operand × Nat) :=
 match ops.toList.getLast? with
 | some { op:=.range t x,dst:=some it,guard:=none,.. }=>if zu P t=true then some (ops.toList.dropLast,x,it) else none
 | _=>none
def jW (ops:Array Oper):Option (Nat × Nat × Nat) :=
 match ops.toList with
 | [{ op:=.next (.tmp it) false,dst:=some nx,guard:=none,.. },{ op:=.extract (.tmp nx') 0,dst:=some ex,guard:=none,.. }]=>if nx=nx' then some (it,nx,ex) else none
 | _=>none
def ie (ops:Array Oper):Option (Nat × Nat × List Oper) :=
 match ops.toList with
 | { op:=.entry (.tmp it),dst:=some en,guard:=none,.. } :: os=>some (it,en,os)
 | _=>none
def qx:ACode->Option Nat
 | .seq a b=>match qx a with | some l=>some l | none=>qx b
 | .scopeL .skip l .skip=>some l
 | _=>none
def bA:ACode->Nat->Option ACode
 | .seq a b,l=>match bA a l with | some r=>some (.seq r b) | none=>bA b l
 | .scopeL .skip l' .skip,l=>if l' == l then some .skip else none
 | _,_=>none
def p9 (a:ACode):ACode:=match qx a with
 | some l=>match bA a l with
  | some r=>.scopeL a l r
  | none=>.scope a
 | none=>.scope a
def rp:ACode:=.rangeFunc (.c .undef) [] .skip .skip
def aY:Code->Option ACode
 | .skip=>some .skip
 | .label l=>some (.scopeL .skip l .skip)
 | .region _ ops draw=>if draw then (match vq P ops with | some p=>some (.draw p.1 p.2) | none=>some rp) else (ops.toList.mapM (ow P ops)).map .region
 | .seq (.region i0 ops0 false) (.block bid (.loop (.seq (.region i1 ops1 false) (.seq (.cond (.tmp ex') .skip (.exit bid')) (.block bid2 (.seq (.region i2 ops2 false) rest)))))) =>
  match jX P ops0,jW ops1,ie ops2 with
  | some (pre,x,it),some (it1,nx,ex),some (it2,en,os) =>
   if it1=it/\it2=it/\ex'=ex/\bid'=bid/\bid≠bid2/\nx≠it/\ex≠it/\en≠it then do
    let pre <- pre.mapM (ow P ops0)
    let os <- os.mapM (ow P ops2)
    let rest <- aY rest
    some (.rangeM pre (<- bD x) it nx ex bid bid2 en os rest (uZ os++rest.dsts))
   else some rp
  | _,_,_=>do some (.seq (<- (ops0.toList.mapM (ow P ops0)).map .region) (<- aY (.block bid (.loop (.seq (.region i1 ops1 false) (.seq (.cond (.tmp ex') .skip (.exit bid')) (.block bid2 (.seq (.region i2 ops2 false) rest))))))))
 | .seq a b=>do some (.seq (<- aY a) (<- aY b))
 | .cond c a b=>do some (.cond (<- bD c) (<- aY a) (<- aY b))
 | .block id a=>do some (.block id (<- aY a))
 | .loop a=>do some (.loop (<- aY a))
 | .rangeFunc f ps a b=>do some (.rangeFunc (<- bD f) ps.toList (<- aY a) (<- aY b))
 | .exit id=>some (.exit id)
 | .goto l=>some (.goto l)
 | .ret=>some .ret
 | .scope a=>do some (p9 (<- aY a))
 | .refuse _=>some rp
def sC:ResultVar->Option (Nat × Option (Option Nat))
 | .tmp t=>some (t,none)
 | .cell a t=>do some (a,some (<- jh P t))
def Ej (fn:Func):Option aN:=do
 if fn.name = "math/bits.Add64" then some { nparams:=3,ntmps:=3,results:=[],body:=.skip,ext:=some .add64 } else
 if fn.name = "math/bits.Sub64" then some { nparams:=3,ntmps:=3,results:=[],body:=.skip,ext:=some .sub64 } else
 if fn.origin = "slices.Insert" then do
  match <- P.underlying (<- fn.params[0]?) with
  | .slice e=>some { nparams:=3,ntmps:=3,results:=[],body:=.skip,ext:=some (.insert (<- sizeOf? P e) (<- bytesOf? P e) e) }
  | _=>none
 else do
 let b <- fn.body
 if fn.name = "runtime.NumGoroutine" then none else
 some { nparams:=fn.params.size+fn.nfree,ntmps:=fn.ntmps,results:=(<- fn.results.toList.mapM (sC P)),body:=(<- aY P b) }
end
structure oZ where
 blk:Nat
 N:Nat
 sz:Nat
abbrev Mu:=Nat->Option oZ
inductive VR (μ:Mu) (F:Nat->Prop) (w:World):AV->Value->Prop where
 | undef (v:Value):VR μ F w .undef v
 | bool (b:Bool):VR μ F w (.bool b) (.bool b)
 | int (k:IntKind) (n:Int):VR μ F w (.int k n) (.int k n)
 | str (s:ByteArray):VR μ F w (.str s) (.string s)
 | nilPtr:VR μ F w .nilPtr (.pointer none)
 | nilSl:VR μ F w .nilSl (.slice none 0 0)
 | nilFn:VR μ F w .nilFn .nilFunc
 | nilIf:VR μ F w .nilIf .nilIface
 | nilMap:VR μ F w .nilMap (.map none)
 | agg (cs:List AV) (vs:Array Value):cs.length=vs.size->(∀ (i:Nat) (c:AV) (v:Value),cs[i]? = some c->vs[i]? = some v->VR μ F w c v)->VR μ F w (.agg cs) (.agg vs)
 | tup (cs:List AV) (vs:Array Value):cs.length=vs.size->(∀ (i:Nat) (c:AV) (v:Value),cs[i]? = some c->vs[i]? = some v->VR μ F w c v)->VR μ F w (.tup cs) (.tuple vs)
 | sl0 (a:Addr) (cap:Nat):VR μ F w (.sl [] 0) (.slice (some a) 0 cap)
 | sl (cells:List AV) (n cap blk off:Nat) (arr:Array Value) (ty:TypeId) (fr:Nat × Nat):F blk->w.heap[blk]? = some (.cells arr ty fr)->n<=cap->off+cells.length<=arr.size ->
   (∀ (i:Nat) (c:AV) (v:Value),cells[i]? = some c->arr[off+i]? = some v->VR μ F w c v)->VR μ F w (.sl cells n) (.slice (some ⟨blk,off,none⟩) n cap)
 | dp (cells:List AV) (o blk off:Nat) (arr:Array Value) (ty:TypeId) (fr:Nat × Nat):F blk->w.heap[blk]? = some (.cells arr ty fr)->off+cells.length<=arr.size ->
   (∀ (i:Nat) (c:AV) (v:Value),cells[i]? = some c->arr[off+i]? = some v->VR μ F w c v)->VR μ F w (.dp cells o) (.pointer (some ⟨blk,off+o,none⟩))
 | own (b off n c sz:Nat) (ex:Bool) (L:oZ) (cap:Nat):μ b=some L->L.sz=sz->n<=c->c<=cap->(ex=true->cap=c)->off+cap*sz<=L.N->VR μ F w (.own b off n c sz ex) (.slice (some ⟨L.blk,off,none⟩) n cap)
 | ptr (b off:Nat) (L:oZ):μ b=some L->VR μ F w (.ptr b off) (.pointer (some ⟨L.blk,off,none⟩))
 | fn (f:Fn) (as bs:List AV) (us vs:Array Value):as.length=us.size->(∀ (i:Nat) (c:AV) (v:Value),as[i]? = some c->us[i]? = some v->VR μ F w c v) ->
   bs.length=vs.size->(∀ (i:Nat) (c:AV) (v:Value),bs[i]? = some c->vs[i]? = some v->VR μ F w c v)->VR μ F w (.fn f as bs) (.func f us vs)
 | ifc (t:Nat) (x:AV) (v:Value):VR μ F w x v->VR μ F w (.ifc t x) (.iface t v)
 | map (b:Nat) (L:oZ):μ b=some L->VR μ F w (.map b) (.map (some L.blk))
 | loopv (b:Nat) (L:oZ):μ b=some L->VR μ F w (.loopv b) (.func (.yield L.blk) #[] #[])
theorem VR.mono {μ μ':Mu} {F F':Nat->Prop} {w w':World} (hμ:∀ b L,μ b=some L->μ' b=some L) (hF:∀ c,F c->F' c)
  (hw:∀ c,F c->w'.heap[c]? = w.heap[c]?) {a:AV} {v:Value} (h:VR μ F w a v):VR μ' F' w' a v:=by
 induction h with
 | undef v=>exact .undef v
 | bool b=>exact .bool b
 | int k n=>exact .int k n
 | str s=>exact .str s
 | nilPtr=>exact .nilPtr
 | nilSl=>exact .nilSl
 | nilFn=>exact .nilFn
 | nilIf=>exact .nilIf
 | nilMap=>exact .nilMap
 | agg cs vs h _ ih=>exact .agg cs vs h ih
 | tup cs vs h _ ih=>exact .tup cs vs h ih
 | sl0 a cap=>exact .sl0 a cap
 | sl cells n cap blk off arr ty fr hf hb hn ho _ ih=>exact .sl cells n cap blk off arr ty fr (hF _ hf) ((hw _ hf).trans hb) hn ho ih
 | dp cells o blk off arr ty fr hf hb ho _ ih=>exact .dp cells o blk off arr ty fr (hF _ hf) ((hw _ hf).trans hb) ho ih
 | own b off n c sz ex L cap h1 h2 h3 h4 h5 h6=>exact .own b off n c sz ex L cap (hμ _ _ h1) h2 h3 h4 h5 h6
 | ptr b off L h=>exact .ptr b off L (hμ _ _ h)
 | fn f as bs us vs h1 _ h3 _ ih1 ih2=>exact .fn f as bs us vs h1 ih1 h3 ih2
 | ifc t x v _ ih=>exact .ifc t x v ih
 | map b L h=>exact .map b L (hμ _ _ h)
 | loopv b L h=>exact .loopv b L (hμ _ _ h)
def LR (μ:Mu) (F:Nat->Prop) (w:World) (as:List AV) (vs:List Value):Prop:=as.length=vs.length/\∀ (i:Nat) (c:AV) (v:Value),as[i]? = some c->vs[i]? = some v->VR μ F w c v
theorem LR.nil {μ:Mu} {F:Nat->Prop} {w:World}:LR μ F w [] []:=⟨rfl,fun i c v h=>by simp at h⟩
theorem LR.cons {μ:Mu} {F:Nat->Prop} {w:World} {a:AV} {v:Value} {as:List AV} {vs:List Value} (h:VR μ F w a v) (hs:LR μ F w as vs):LR μ F w (a :: as) (v :: vs):=by
 refine ⟨by simp [hs.1],fun i c u h1 h2=>?_⟩
 cases i with
 | zero=>simp at h1 h2; subst h1; subst h2; exact h
 | succ i=>simp at h1 h2; exact hs.2 i c u h1 h2
theorem LR.head {μ:Mu} {F:Nat->Prop} {w:World} {a:AV} {v:Value} {as:List AV} {vs:List Value} (hs:LR μ F w (a :: as) (v :: vs)):VR μ F w a v:=hs.2 0 a v rfl rfl
theorem LR.tail {μ:Mu} {F:Nat->Prop} {w:World} {a:AV} {v:Value} {as:List AV} {vs:List Value} (hs:LR μ F w (a :: as) (v :: vs)):LR μ F w as vs :=
 ⟨by have:=hs.1; simp at this; exact this,fun i c u h1 h2=>hs.2 (i+1) c u (by simpa using h1) (by simpa using h2)⟩
theorem LR.mono {μ μ':Mu} {F F':Nat->Prop} {w w':World} (hμ:∀ b L,μ b=some L->μ' b=some L) (hF:∀ c,F c->F' c)
  (hw:∀ c,F c->w'.heap[c]? = w.heap[c]?) {as:List AV} {vs:List Value} (h:LR μ F w as vs):LR μ' F' w' as vs :=
 ⟨h.1,fun i c v h1 h2=>(h.2 i c v h1 h2).mono hμ hF hw⟩
theorem LR.append {μ:Mu} {F:Nat->Prop} {w:World}:∀ {as:List AV} {vs:List Value} {bs:List AV} {us:List Value},LR μ F w as vs->LR μ F w bs us->LR μ F w (as++bs) (vs++us)
 | [],[],_,_,_,h=>h
 | [],_ :: _,_,_,h,_=>by have:=h.1; simp at this
 | _ :: _,[],_,_,h,_=>by have:=h.1; simp at this
 | a :: as,v :: vs,_,_,h,h'=>LR.cons h.head (LR.append h.tail h')
theorem LR.of_agg {μ:Mu} {F:Nat->Prop} {w:World} {cs:List AV} {vs:Array Value} (h1:cs.length=vs.size) (h2:∀ (i:Nat) (c:AV) (v:Value),cs[i]? = some c->vs[i]? = some v->VR μ F w c v):LR μ F w cs vs.toList :=
 ⟨by simpa using h1,fun i c v hc hv=>h2 i c v hc (by simpa using hv)⟩
theorem LR.take {μ:Mu} {F:Nat->Prop} {w:World} {as:List AV} {vs:List Value} (h:LR μ F w as vs) (n:Nat):LR μ F w (as.take n) (vs.take n):=by
 refine ⟨by simp [h.1],fun i c v h1 h2=>?_⟩
 rw [List.getElem?_take] at h1 h2
 split at h1
 ·rename_i hlt; rw [if_pos hlt] at h2; exact h.2 i c v h1 h2
 ·cases h1
theorem LR.drop {μ:Mu} {F:Nat->Prop} {w:World} {as:List AV} {vs:List Value} (h:LR μ F w as vs) (n:Nat):LR μ F w (as.drop n) (vs.drop n):=by
 refine ⟨by simp [h.1],fun i c v h1 h2=>?_⟩
 rw [List.getElem?_drop] at h1 h2
 exact h.2 _ c v h1 h2
theorem LR.get {μ:Mu} {F:Nat->Prop} {w:World} {as:List AV} {vs:List Value} (h:LR μ F w as vs) {i:Nat} {c:AV} (hc:as[i]? = some c):∃ v,vs[i]? = some v/\VR μ F w c v:=by
 have hi:i<as.length:=(List.getElem?_eq_some_iff.1 hc).1
 exact ⟨vs[i]'(h.1 ▸ hi),List.getElem?_eq_getElem _,h.2 i c _ hc (List.getElem?_eq_getElem _)⟩
theorem LR.set {μ:Mu} {F:Nat->Prop} {w:World} {as:List AV} {vs:List Value} (h:LR μ F w as vs) (i:Nat) {a:AV} {v:Value} (hv:VR μ F w a v):LR μ F w (as.set i a) (vs.set i v):=by
 refine ⟨by simp [h.1],fun j c u h1 h2=>?_⟩
 by_cases e:i=j
 ·subst e
  rw [List.getElem?_set_self'] at h1 h2
  cases hc:as[i]? with
  | none=>rw [hc] at h1; cases h1
  | some x =>
   obtain ⟨y,hy,_⟩:=h.get hc
   rw [hc] at h1; rw [hy] at h2
   cases h1; cases h2; exact hv
 ·rw [List.getElem?_set_ne e] at h1 h2
  exact h.2 j c u h1 h2
theorem LR.map {μ:Mu} {F:Nat->Prop} {w:World} {α:Type} (f:α->AV) (g:α->Value):∀ (l:List α),(∀ x,x∈l->VR μ F w (f x) (g x))->LR μ F w (l.map f) (l.map g)
 | [],_=>LR.nil
 | x :: l,h=>LR.cons (h x (List.mem_cons_self ..)) (LR.map f g l fun y hy=>h y (List.mem_cons_of_mem _ hy))
theorem VR.oneCell {μ:Mu} {F:Nat->Prop} {w:World} {a:AV} {v:Value} (h:VR μ F w a v) (h1:a.one=true):v.oneCell'=true:=by
 cases h <;> first | rfl | (simp [AV.one] at h1)
def uw (es:List MapEntry) (clock:Nat):Prop:=(∀ e∈es,e.born<clock)/\(es.map (·.born)).Nodup
def ER (P:Program) (μ:Mu) (F:Nat->Prop) (w:World) (L:oZ):Ent->Prop
 | .cells cs ty rw=>∃ arr fr,w.heap[L.blk]? = some (.cells arr ty fr)/\arr.size=L.N/\(P.info? ty).map (·.size)=some L.sz/\cs.length<=arr.size /\
   (∀ (i:Nat) (c:AV) (v:Value),cs[i]? = some c->arr[i]? = some v->VR μ F w c v)/\(rw=true->¬ F L.blk/\fr=(0,0))/\(rw=false->True)
 | .map es=>¬ F L.blk/\∃ entries clock,w.heap[L.blk]? = some (.map entries clock)/\LR μ F w (es.map (·.1)) (entries.toList.map (·.key))/\LR μ F w (es.map (·.2)) (entries.toList.map (·.val))/\uw entries.toList clock
 | .mapR es=>∃ entries clock,w.heap[L.blk]? = some (.map entries clock)/\LR μ F w (es.map (·.1)) (entries.toList.map (·.key))/\LR μ F w (es.map (·.2)) (entries.toList.map (·.val))/\uw entries.toList clock
 | .loop T ps asg body st pe=>¬ F L.blk/\∃ (r:Loop),w.heap[L.blk]? = some (.loop r)/\r.state=st/\LR μ F w T r.tmps.toList/\r.params.toList=ps/\aY P r.assign=some asg/\aY P r.body=some body /\
   (match pe,r.pending with | none,none=>True | some c,some c'=>aY P c'=some c | _,_=>False)
 | .siter s pos=>¬ F L.blk/\w.heap[L.blk]? = some (.stringIter s pos)
def Ent.rw:Ent->Bool
 | .cells _ _ rw=>rw
 | .mapR _=>false
 | _=>true
structure HR (P:Program) (μ:Mu) (F:Nat->Prop) (H:Heap) (w:World):Prop where
 dom:∀ b L,μ b=some L->b<H.next/\L.blk<w.heap.size
 fb:∀ c,F c->c<w.heap.size
 ent:∀ b e,H.get b=some e->∃ L,μ b=some L/\ER P μ F w L e
 inj:∀ b b' e e' L L',H.get b=some e->H.get b'=some e'->μ b=some L->μ b'=some L'->L.blk=L'.blk->b=b'
 gl:∀ g cs,xK g=some cs->VR μ F w (.dp cs 0) (.pointer (some ⟨g,0,none⟩))
def Heap.rwAt (H:Heap) (b:Nat):Prop:=∃ e,H.get b=some e/\e.rw=true
def Tp (w w':World):Prop:=w'.tape=w.tape/\(Ad->w.drawn<=w'.drawn)
theorem Tp.same {w w':World} (h:w'.tape=w.tape) (h':w'.drawn=w.drawn):Tp w w':=⟨h,fun _=>Nat.le_of_eq h'.symm⟩
theorem Tp.draw {w:World}:Tp w { w with drawn:=w.drawn+1 }:=⟨rfl,fun _=>Nat.le_succ _⟩
theorem Tp.trans {w w' w'':World} (h:Tp w w') (h':Tp w' w''):Tp w w'':=⟨h'.1.trans h.1,fun k=>Nat.le_trans (h.2 k) (h'.2 k)⟩
structure Stp (I:Nat->Prop) (P:Program) (μ:Mu) (F:Nat->Prop) (H:Heap) (w:World) (μ':Mu) (F':Nat->Prop) (H':Heap) (w':World):Prop where
 mu:∀ b L,μ b=some L->μ' b=some L
 fr:∀ c,F c->F' c
 size:w.heap.size<=w'.heap.size
 keep:∀ c,c<w.heap.size->(∀ b L,H.rwAt b->μ b=some L->L.blk≠c)->w'.heap[c]? = w.heap[c]?
 rw:∀ b L,H'.rwAt b->μ' b=some L->w.heap.size<=L.blk\/∃ b0 L0,H.rwAt b0/\μ b0=some L0/\L0.blk=L.blk
 next:H.next<=H'.next
 new:∀ b,b<H.next->¬ I b->μ b=none->μ' b=none
 rng:∀ b L,μ' b=some L->(∃ b0 L0,μ b0=some L0/\L0.blk=L.blk)\/w.heap.size<=L.blk
 old:∀ b e,H'.get b=some e->b<H.next->¬ I b->∃ e0,H.get b=some e0
 alv:∀ b e L,H'.get b=some e->μ' b=some L->w.heap.size<=L.blk\/∃ b0 e0 L0,H.get b0=some e0/\μ b0=some L0/\L0.blk=L.blk
 tape:Tp w w'
 os:w'.os=w.os
 out:w'.output=w.output
theorem ER.notF {P:Program} {μ:Mu} {F:Nat->Prop} {w:World} {L:oZ} {e:Ent} (h:ER P μ F w L e) (hr:e.rw=true):¬ F L.blk:=by
 cases e with
 | cells cs ty rw=>obtain ⟨_,_,_,_,_,_,_,h6,_⟩:=h; exact (h6 hr).1
 | map es=>exact h.1
 | loop T ps asg body st pe=>exact h.1
 | siter s pos=>exact h.1
 | mapR es=>cases hr
theorem HR.rw_notF {P:Program} {μ:Mu} {F:Nat->Prop} {H:Heap} {w:World} (h:HR P μ F H w) {b:Nat} {L:oZ} (hb:H.rwAt b) (hL:μ b=some L):¬ F L.blk:=by
 obtain ⟨e,he,hr⟩:=hb
 obtain ⟨L',hL',hE⟩:=h.ent b e he
 rw [hL] at hL'; cases hL'
 exact hE.notF hr
section
variable {I:Nat->Prop} {P:Program} {μ:Mu} {F:Nat->Prop} {H:Heap} {w:World} {μ':Mu} {F':Nat->Prop} {H':Heap} {w':World}
theorem Stp.keepF (h:Stp I P μ F H w μ' F' H' w') (hH:HR P μ F H w):∀ c,F c->w'.heap[c]? = w.heap[c]? :=
 fun c hc=>h.keep c (hH.fb c hc) fun _ _ hb hL e=>hH.rw_notF hb hL (e ▸ hc)
theorem Stp.vr (h:Stp I P μ F H w μ' F' H' w') (hH:HR P μ F H w) {a:AV} {v:Value} (hv:VR μ F w a v):VR μ' F' w' a v:=hv.mono h.mu h.fr (h.keepF hH)
theorem Stp.lr (h:Stp I P μ F H w μ' F' H' w') (hH:HR P μ F H w) {as:List AV} {vs:List Value} (hv:LR μ F w as vs):LR μ' F' w' as vs:=hv.mono h.mu h.fr (h.keepF hH)
theorem Stp.refl (I:Nat->Prop) (P:Program) (μ:Mu) (F:Nat->Prop) (H:Heap) (w:World):Stp I P μ F H w μ F H w :=
 ⟨fun _ _ h=>h,fun _ h=>h,Nat.le_refl _,fun _ _ _=>rfl,fun b L hb hL=>.inr ⟨b,L,hb,hL,rfl⟩,Nat.le_refl _,fun _ _ _ h=>h,fun b L h=>.inl ⟨b,L,h,rfl⟩,fun b e h _ _=>⟨e,h⟩,fun b e L h hL=>.inr ⟨b,e,L,h,hL,rfl⟩,Tp.same rfl rfl,rfl,rfl⟩
theorem Stp.mono {I':Nat->Prop} (hI:∀ b,I b->I' b) (h:Stp I P μ F H w μ' F' H' w'):Stp I' P μ F H w μ' F' H' w' :=
 ⟨h.mu,h.fr,h.size,h.keep,h.rw,h.next,fun b hb hn=>h.new b hb (fun hi=>hn (hI b hi)),h.rng,fun b e hb hl hn=>h.old b e hb hl (fun hi=>hn (hI b hi)),h.alv,h.tape,h.os,h.out⟩
theorem Stp.trans {μ₂:Mu} {F₂:Nat->Prop} {H₂:Heap} {w₂:World} (h:Stp I P μ F H w μ' F' H' w') (h':Stp I P μ' F' H' w' μ₂ F₂ H₂ w₂) :
  Stp I P μ F H w μ₂ F₂ H₂ w₂ where
 mu b L hb:=h'.mu _ _ (h.mu _ _ hb)
 fr c hc:=h'.fr _ (h.fr _ hc)
 size:=Nat.le_trans h.size h'.size
 keep c hc hn:=by
  rw [h'.keep c (Nat.lt_of_lt_of_le hc h.size) ?_,h.keep c hc hn]
  intro b L hb hL e
  rcases h.rw b L hb hL with hge | ⟨b0,L0,h0,hL0,e0⟩
  ·omega
  ·exact hn b0 L0 h0 hL0 (e0.trans e)
 rw b L hb hL:=by
  rcases h'.rw b L hb hL with hge | ⟨b1,L1,h1,hL1,e1⟩
  ·exact .inl (Nat.le_trans h.size hge)
  ·rcases h.rw b1 L1 h1 hL1 with hge | ⟨b0,L0,h0,hL0,e0⟩
   ·exact .inl (e1 ▸ hge)
   ·exact .inr ⟨b0,L0,h0,hL0,e0.trans e1⟩
 next:=Nat.le_trans h.next h'.next
 new b hb hi hn:=h'.new b (Nat.lt_of_lt_of_le hb h.next) hi (h.new b hb hi hn)
 rng b L hb:=by
  rcases h'.rng b L hb with ⟨b1,L1,h1,e1⟩ | hge
  ·rcases h.rng b1 L1 h1 with ⟨b0,L0,h0,e0⟩ | hge
   ·exact .inl ⟨b0,L0,h0,e0.trans e1⟩
   ·exact .inr (e1 ▸ hge)
  ·exact .inr (Nat.le_trans h.size hge)
 old b e hb hl hn:=by
  obtain ⟨e1,h1⟩:=h'.old b e hb (Nat.lt_of_lt_of_le hl h.next) hn
  exact h.old b e1 h1 hl hn
 alv b e L hb hL:=by
  rcases h'.alv b e L hb hL with hge | ⟨b1,e1,L1,h1,hL1,q1⟩
  ·exact .inl (Nat.le_trans h.size hge)
  ·rcases h.alv b1 e1 L1 h1 hL1 with hge | ⟨b0,e0,L0,h0,hL0,q0⟩
   ·exact .inl (q1 ▸ hge)
   ·exact .inr ⟨b0,e0,L0,h0,hL0,q0.trans q1⟩
 tape:=h.tape.trans h'.tape
 os:=h'.os.trans h.os
 out:=h'.out.trans h.out
end
theorem D8.of_eq {x y:Nat} (h:D8.of x=D8.of y):x % 8=y % 8:=by
 have key:∀ (a b c a' b' c':Bool),(Bool.casesOn (motive:=fun _=>D8) a (Bool.casesOn (motive:=fun _=>D8) b (Bool.casesOn (motive:=fun _=>D8) c .d0 .d1) (Bool.casesOn (motive:=fun _=>D8) c .d2 .d3)) (Bool.casesOn (motive:=fun _=>D8) b (Bool.casesOn (motive:=fun _=>D8) c .d4 .d5) (Bool.casesOn (motive:=fun _=>D8) c .d6 .d7))) =
   (Bool.casesOn (motive:=fun _=>D8) a' (Bool.casesOn (motive:=fun _=>D8) b' (Bool.casesOn (motive:=fun _=>D8) c' .d0 .d1) (Bool.casesOn (motive:=fun _=>D8) c' .d2 .d3)) (Bool.casesOn (motive:=fun _=>D8) b' (Bool.casesOn (motive:=fun _=>D8) c' .d4 .d5) (Bool.casesOn (motive:=fun _=>D8) c' .d6 .d7)))->a=a'/\b=b'/\c=c':=by decide
 obtain ⟨h1,h2,h3⟩:=key _ _ _ _ _ _ h
 have bit:∀ u v:Nat,Nat.beq (Nat.mod u 2) 1=Nat.beq (Nat.mod v 2) 1->u % 2=v % 2:=by
  intro u v hb
  have hu:Nat.mod u 2=u % 2:=rfl
  have hv:Nat.mod v 2=v % 2:=rfl
  rw [hu,hv] at hb
  rcases Nat.mod_two_eq_zero_or_one u with e | e <;> rcases Nat.mod_two_eq_zero_or_one v with e' | e' <;> rw [e,e'] at hb ⊢ <;> first | rfl | cases hb
 have b1:=bit _ _ h1
 have b2:=bit _ _ h2
 have b3:=bit _ _ h3
 have e1:∀ u v:Nat,Nat.div u v=u / v:=fun _ _=>rfl
 rw [e1,e1] at b1 b2
 omega
theorem Q.at_up {α:Type} (d d':D8) (u:α->α) (q:Q α):Q.at d (Q.up d' u q)=if d=d' then u (Q.at d q) else Q.at d q:=by
 cases q
 cases d <;> cases d' <;> rfl
theorem Tr.get_set (t:Tr) (n:Nat) (e:Option Ent) (m:Nat):(t.set n e).get m=if m=n then e else t.get m:=by
 have dv:∀ u v:Nat,Nat.div u v=u / v:=fun _ _=>rfl
 unfold Tr.set Tr.get
 cases hn:Nat.ble n 16777215 with
 | false =>
  cases hm:Nat.ble m 16777215 with
  | false=>simp only [ul]
  | true =>
   have hne:m≠n:=fun h=>by rw [h,hn] at hm; cases hm
   simp only [if_neg hne]
 | true =>
  cases hm:Nat.ble m 16777215 with
  | false =>
   have hne:m≠n:=fun h=>by rw [h,hn] at hm; cases hm
   simp only [if_neg hne]
  | true =>
   have hn':n<=16777215:=Nat.le_of_ble_eq_true hn
   have hm':m<=16777215:=Nat.le_of_ble_eq_true hm
   simp only [dv]
   by_cases hmn:m=n
   ·subst hmn
    simp only [Q.at_up,if_true]
   ·rw [if_neg hmn]
    by_cases h7:D8.of (m / 2097152)=D8.of (n / 2097152)
    ·rw [Q.at_up,if_pos h7]
     by_cases h6:D8.of (m / 262144)=D8.of (n / 262144)
     ·rw [Q.at_up,if_pos h6]
      by_cases h5:D8.of (m / 32768)=D8.of (n / 32768)
      ·rw [Q.at_up,if_pos h5]
       by_cases h4:D8.of (m / 4096)=D8.of (n / 4096)
       ·rw [Q.at_up,if_pos h4]
        by_cases h3:D8.of (m / 512)=D8.of (n / 512)
        ·rw [Q.at_up,if_pos h3]
         by_cases h2:D8.of (m / 64)=D8.of (n / 64)
         ·rw [Q.at_up,if_pos h2]
          by_cases h1:D8.of (m / 8)=D8.of (n / 8)
          ·rw [Q.at_up,if_pos h1]
           have h0:D8.of m≠D8.of n:=fun h0=>hmn (by
            have:=D8.of_eq h0; have:=D8.of_eq h1; have:=D8.of_eq h2; have:=D8.of_eq h3
            have:=D8.of_eq h4; have:=D8.of_eq h5; have:=D8.of_eq h6; have:=D8.of_eq h7
            omega)
           rw [Q.at_up,if_neg h0]
          ·rw [Q.at_up,if_neg h1]
         ·rw [Q.at_up,if_neg h2]
        ·rw [Q.at_up,if_neg h3]
       ·rw [Q.at_up,if_neg h4]
      ·rw [Q.at_up,if_neg h5]
     ·rw [Q.at_up,if_neg h6]
    ·rw [Q.at_up,if_neg h7]
theorem D6 (a b:Nat):Nat.ble (Nat.succ a) b=decide (a<b):=by
 cases h:Nat.ble (Nat.succ a) b with
 | true=>exact (decide_eq_true (Nat.le_of_ble_eq_true h)).symm
 | false =>
  refine (decide_eq_false fun hlt=>?_).symm
  rw [Nat.ble_eq_true_of_le (show Nat.succ a<=b from hlt)] at h
  cases h
theorem Heap.get_setO (H:Heap) (b:Nat) (o:Option Ent) (m:Nat):(H.setO b o).get m=if m=b then o else H.get m:=by
 unfold Heap.setO
 cases hb:Nat.ble (Nat.succ b) H.lim with
 | false =>
  simp only [Heap.get,hb]
  by_cases h:m=b
  ·subst h
   rw [hb,Tr.get_set,if_pos rfl]
  ·rw [if_neg h,Tr.get_set,if_neg h]
 | true =>
  simp only [Heap.get,hb]
  by_cases h:m=b
  ·subst h
   rw [if_pos rfl,hb]
   show ig _ m ((m,o) :: H.ovr)=o
   unfold ig
   rw [if_pos rfl]
  ·rw [if_neg h]
   simp only [ig,if_neg h]
theorem yU (o:Option Ent):wi (wi o)=wi o:=by
 cases o with
 | none=>rfl
 | some e=>cases e <;> rfl
theorem l8 (lim:Nat) (d:Option Ent) (b:Nat) (hb:b<lim):∀ l:List (Nat × Option Ent),ig (wi d) b ((l.filter fun p=>decide (p.1<lim)).map fun p=>(p.1,wi p.2))=wi (ig (wi d) b l)
 | []=>(yU d).symm
 | (k,e) :: l=>by
  by_cases hk:k<lim
  ·rw [List.filter_cons_of_pos (by simpa using hk),List.map_cons]
   simp only [ig]
   split
   ·rfl
   ·exact l8 lim d b hb l
  ·rw [List.filter_cons_of_neg (by simpa using hk)]
   have hne:¬ b=k:=fun e=>hk (e ▸ hb)
   simp only [ig,if_neg hne]
   exact l8 lim d b hb l
theorem kH (lim:Nat) (d:Option Ent) (b:Nat) (hb:¬ b<lim):∀ l:List (Nat × Option Ent),ig d b ((l.filter fun p=>decide (p.1<lim)).map fun p=>(p.1,wi p.2))=d
 | []=>rfl
 | (k,e) :: l=>by
  by_cases hk:k<lim
  ·rw [List.filter_cons_of_pos (by simpa using hk),List.map_cons]
   have hne:¬ b=k:=fun e=>hb (e ▸ hk)
   simp only [ig,if_neg hne]
   exact kH lim d b hb l
  ·rw [List.filter_cons_of_neg (by simpa using hk)]
   exact kH lim d b hb l
theorem Heap.get_ro (H:Heap) (b:Nat):H.ro.get b=if b<max H.next H.lim then wi (H.get b) else H.get b:=by
 unfold Heap.ro Heap.get
 simp only [D6]
 have e:Nat.max H.next H.lim=max H.next H.lim:=rfl
 rw [e]
 by_cases h1:b<max H.next H.lim
 ·rw [if_pos h1,decide_eq_true h1]
  by_cases h2:b<H.lim
  ·rw [decide_eq_true h2]
   exact l8 H.lim _ b h2 _
  ·rw [decide_eq_false h2]
   exact kH H.lim _ b h2 _
 ·have h2:¬ b<H.lim:=by omega
  rw [if_neg h1,decide_eq_false h1,decide_eq_false h2]
theorem Heap.get_put (H:Heap) (b:Nat) (e:Ent) (m:Nat):(H.put b e).get m=if m=b then some e else H.get m:=Heap.get_setO _ _ _ _
theorem Heap.get_kill (H:Heap) (b:Nat) (m:Nat):(H.kill b).get m=if m=b then none else H.get m:=Heap.get_setO _ _ _ _
@[simp] theorem Heap.next_put (H:Heap) (b:Nat) (e:Ent):(H.put b e).next=H.next:=rfl
@[simp] theorem Heap.next_kill (H:Heap) (b:Nat):(H.kill b).next=H.next:=rfl
section
variable {P:Program} {μ:Mu} {F:Nat->Prop} {w:World} {T:Tm} {a:Act}
theorem rH {v:Value} {x:AV} (h:pt v=some x):VR μ F w x v:=by
 unfold pt at h
 split at h <;> first | (cases h; done) | skip
 ·cases h; exact .bool _
 ·cases h; exact .int _ _
 ·cases h; exact .str _
 ·cases h; exact .nilPtr
 ·cases h; exact .nilSl
 ·cases h; exact .nilMap
 ·cases h; exact .nilFn
 ·cases h; exact .nilIf
 ·split at h
  ·rename_i hz
   cases h
   exact .fn _ _ _ _ _ hz.1.symm (fun i c v h=>by simp at h) hz.2.symm (fun i c v h=>by simp at h)
  ·cases h
theorem lB:∀ {l:List Value} {cs:List AV},l.mapM pt=some cs->LR μ F w cs l
 | [],cs,h=>by simp at h; subst h; exact LR.nil
 | v :: l,cs,h=>by
  simp only [List.mapM_cons,Option.pure_def,Option.bind_eq_bind,Option.bind_eq_some_iff] at h
  obtain ⟨x,hx,xs,hxs,h⟩:=h
  cases h
  exact LR.cons (rH hx) (lB hxs)
theorem ja {v:Value} {x:AV} (h:kb v=some x):VR μ F w x v:=by
 unfold kb at h
 split at h
 ·simp only [Option.bind_eq_bind,Option.bind_eq_some_iff] at h
  obtain ⟨cs,hcs,h⟩:=h
  cases h
  have hl:=lB (μ:=μ) (F:=F) (w:=w) hcs
  exact .agg _ _ (by simpa using hl.1) fun i c v h1 h2=>hl.2 i c v h1 (by simpa using h2)
 ·split at h
  ·rename_i hz
   cases h
   exact .tup _ _ hz.symm fun i c v h=>by simp at h
  ·cases h
 ·exact rH h
theorem np (hT:LR μ F w T a.tmps.toList) (t:Nat):VR μ F w (aa T t) (a.tmps.getD t undef):=by
 unfold aa
 cases hc:T[t]? with
 | none=>rw [List.getD_eq_getElem?_getD,hc]; exact .undef _
 | some c =>
  obtain ⟨v,hv,hr⟩:=hT.get hc
  have:a.tmps[t]? = some v:=by simpa using hv
  rw [List.getD_eq_getElem?_getD,hc]
  simp [this]
  exact hr
theorem aK {x:Operand} {s:Src} (hT:LR μ F w T a.tmps.toList) (h:bD x=some s):VR μ F w (s.ev T) (a.eval x):=by
 cases x with
 | tmp t=>cases h; exact np hT t
 | const v =>
  simp only [bD,Option.map_eq_some_iff] at h
  obtain ⟨y,hy,h⟩:=h
  cases h
  exact ja hy
 | global g=>cases h
 | func f=>cases h; exact .fn _ _ _ _ _ rfl (fun i c v h=>by simp at h) rfl (fun i c v h=>by simp at h)
theorem iY (hT:LR μ F w T a.tmps.toList):∀ {l:List Operand} {ss:List Src},l.mapM bD=some ss->LR μ F w (ss.map (Src.ev T)) (l.map a.eval)
 | [],ss,h=>by simp at h; subst h; exact LR.nil
 | x :: l,ss,h=>by
  simp only [List.mapM_cons,Option.pure_def,Option.bind_eq_bind,Option.bind_eq_some_iff] at h
  obtain ⟨s,hs,ss',hss,h⟩:=h
  cases h
  exact LR.cons (aK hT hs) (iY hT hss)
theorem ot {x:AV} {v:Value} (h:VR μ F w x v) (hone:x.cells.all AV.one=true):LR μ F w x.cells v.cells.toList:=by
 cases h with
 | agg cs vs hl hv=>exact LR.of_agg hl hv
 | undef v=>simp [AV.cells,AV.one] at hone
 | tup cs vs hl hv=>simp [AV.cells,AV.one] at hone
 | bool b=>exact LR.cons (.bool b) LR.nil
 | int k n=>exact LR.cons (.int k n) LR.nil
 | str s=>exact LR.cons (.str s) LR.nil
 | nilPtr=>exact LR.cons .nilPtr LR.nil
 | nilSl=>exact LR.cons .nilSl LR.nil
 | nilFn=>exact LR.cons .nilFn LR.nil
 | nilIf=>exact LR.cons .nilIf LR.nil
 | nilMap=>exact LR.cons .nilMap LR.nil
 | sl0 a cap=>exact LR.cons (.sl0 a cap) LR.nil
 | sl cells n cap blk off arr ty fr h1 h2 h3 h4 h5=>exact LR.cons (.sl cells n cap blk off arr ty fr h1 h2 h3 h4 h5) LR.nil
 | dp cells o blk off arr ty fr h1 h2 h4 h5=>exact LR.cons (.dp cells o blk off arr ty fr h1 h2 h4 h5) LR.nil
 | own b off n c sz ex L cap h1 h2 h3 h4 h5 h6=>exact LR.cons (.own b off n c sz ex L cap h1 h2 h3 h4 h5 h6) LR.nil
 | ptr b off L h=>exact LR.cons (.ptr b off L h) LR.nil
 | fn f as bs us vs h1 h2 h3 h4=>exact LR.cons (.fn f as bs us vs h1 h2 h3 h4) LR.nil
 | ifc t x v h=>exact LR.cons (.ifc t x v h) LR.nil
 | map b L h=>exact LR.cons (.map b L h) LR.nil
 | loopv b L h=>exact LR.cons (.loopv b L h) LR.nil
theorem LR.one {as:List AV} {vs:List Value} (h:LR μ F w as vs) (h1:as.all AV.one=true):∀ v∈vs,v.oneCell'=true:=by
 intro v hv
 obtain ⟨i,hi,rfl⟩:=List.mem_iff_getElem.1 hv
 have hi':i<as.length:=h.1 ▸ hi
 have:=h.2 i as[i] vs[i] (List.getElem?_eq_getElem _) (List.getElem?_eq_getElem _)
 exact this.oneCell (by rw [List.all_eq_true] at h1; exact h1 _ (List.getElem_mem _))
theorem eF {x:AV} {v:Value} {n:Nat} (h:iU x=some n) (hv:VR μ F w x v):∃ k,v=.int k (n:Int):=by
 unfold iU at h
 split at h
 ·cases h
  cases hv with
  | int k n=>exact ⟨_,rfl⟩
 ·cases h
theorem tO:∀ (l:List Value) (off:Nat) (cs:Array Value),off+l.length<=cs.size ->
  ((l.zipIdx).foldl (fun (cs:Array Value) (p:Value × Nat)=>cs.setIfInBounds (off+p.2) p.1) cs).toList=cs.toList.take off++l++cs.toList.drop (off+l.length):=by
 intro l off cs h
 have key:∀ (l:List Value) (k:Nat) (cs:Array Value),off+k+l.length<=cs.size ->
   ((l.zipIdx k).foldl (fun (cs:Array Value) (p:Value × Nat)=>cs.setIfInBounds (off+p.2) p.1) cs).toList=cs.toList.take (off+k)++l++cs.toList.drop (off+k+l.length):=by
  intro l
  induction l with
  | nil=>intro k cs h; simp
  | cons v l ih =>
   intro k cs h
   simp only [List.length_cons] at h
   simp only [List.zipIdx_cons,List.foldl_cons]
   rw [ih (k+1) _ (by simp; omega)]
   simp only [Array.toList_setIfInBounds,List.length_cons]
   have hlt:off+k<cs.toList.length:=by rw [Array.length_toList]; omega
   have h1:(cs.toList.set (off+k) v).take (off+(k+1))=cs.toList.take (off+k)++[v]:=by
    rw [<- Nat.add_assoc,List.take_add_one,List.take_set_of_le (Nat.le_refl _),List.getElem?_set_self hlt]; rfl
   have h2:(cs.toList.set (off+k) v).drop (off+(k+1)+l.length)=cs.toList.drop (off+k+(l.length+1)):=by
    rw [List.drop_set_of_lt (by omega)]; congr 1; omega
   rw [h1,h2]; simp
 simpa using key l 0 cs (by simpa using h)
theorem qK (hT:LR μ F w T a.tmps.toList) (place:Nat->Option (Nat × Nat)):∀ (parts:List (Nat × Operand)) (ps:List ((Nat × Nat) × Src)) (z:List AV) (zc:Array Value) (cs:List AV),
  (parts.mapM fun (p:Nat × Operand)=>(do some ((<- place p.1),(<- bD p.2)):Option ((Nat × Nat) × Src)))=some ps->LR μ F w z zc.toList->cD z (ps.map fun p=>(p.1,p.2.ev T))=some cs ->
  ∃ vs,Instr.fill place zc (parts.map fun p=>(p.1,a.eval p.2))=some vs/\LR μ F w cs vs.toList:=by
 intro parts
 induction parts with
 | nil =>
  intro ps z zc cs h hz hf
  simp at h; subst h
  simp [cD] at hf; subst hf
  exact ⟨zc,rfl,hz⟩
 | cons p parts ih =>
  intro ps z zc cs h hz hf
  simp only [List.mapM_cons,Option.pure_def,Option.bind_eq_bind,Option.bind_eq_some_iff] at h
  obtain ⟨q,⟨pl,hpl,s,hs,hq⟩,qs,hqs,h⟩:=h
  cases h; cases hq
  simp only [List.map_cons,cD] at hf
  split at hf
  ·rename_i hc
   obtain ⟨h1,h2,h3⟩:=hc
   have hv:=aK hT hs
   have hl:=ot hv h3
   have hsz:(a.eval p.2).cells.size=pl.2:=by have:=hl.1; simp at this; omega
   have hzl:=hz.1
   simp only [Array.length_toList] at hzl
   obtain ⟨vs,hvs,hr⟩:=ih qs _ (((a.eval p.2).cells.zipIdx.foldl (fun cs (c,j)=>cs.setIfInBounds (pl.1+j) c) zc)) cs hqs (by
    have e:=tO (a.eval p.2).cells.toList pl.1 zc (by simp; omega)
    rw [<- Array.toList_zipIdx,Array.foldl_toList] at e
    rw [e]
    refine LR.append (LR.append (hz.take _) hl) ?_
    have:pl.1+(a.eval p.2).cells.toList.length=pl.1+pl.2:=by simp [hsz]
    rw [this]
    exact hz.drop _) hf
   refine ⟨vs,?_,hr⟩
   simp only [List.map_cons,Instr.fill,hpl]
   rw [if_neg (by simp; omega)]
   exact hvs
  ·cases hf
end
section
variable {P:Program} {μ:Mu} {F:Nat->Prop} {w:World} {T:Tm} {a:Act}
theorem bN {s:Sem Value} {v:Value} {w':World} (h:s.run P w=.ok v w'):((do pure (Next.value (<- s))):Sem Next).run P w=.ok (.value v) w':=by
 simp [h]
theorem fN {t:TypeId} {i:TypeInfo} (h:P.info? t=some i) (w:World):(typeInfo t).run P w=.ok i w:=by
 simp [typeInfo,h]
theorem bK {t:TypeId} {n:Nat} (h:sizeOf? P t=some n) (w:World):(Go.sizeOf t).run P w=.ok n w:=by
 simp only [sizeOf?,Option.map_eq_some_iff] at h
 obtain ⟨i,hi,rfl⟩:=h
 simp [Go.sizeOf,fN hi]
theorem wh {t:TypeId} {n:Nat} (h:bytesOf? P t=some n) (w:World):∃ i,(typeInfo t).run P w=.ok i w/\i.bytes=n:=by
 simp only [bytesOf?,Option.map_eq_some_iff] at h
 obtain ⟨i,hi,rfl⟩:=h
 exact ⟨i,fN hi w,rfl⟩
theorem jt {t:TypeId} {z:List AV} (h:zeroCells? P t=some z) (w:World):∃ v,(zeroValue t).run P w=.ok v w/\∀ μ F W,LR μ F W z v.cells.toList:=by
 simp only [zeroCells?,Option.bind_eq_bind,Option.bind_eq_some_iff] at h
 obtain ⟨i,hi,zv,hz,h⟩:=h
 exact ⟨zv,by simp [zeroValue,fN hi,hz],fun μ F W=>lB h⟩
theorem oa {t:TypeId} (h:jh P t=some none) (w:World):(isAgg t).run P w=.ok false w:=by
 simp only [jh,Option.bind_eq_bind,Option.bind_eq_some_iff] at h
 obtain ⟨d,hd,h⟩:=h
 split at h
 ·simp at h
 ·simp at h
 ·rename_i h1 h2
  simp only [isAgg,Sem.run_bind,run_underlying hd,Result.andThen_ok]
  cases d <;> first | rfl | (exact absurd rfl (h1 _)) | (exact absurd rfl (h2 _ _))
theorem n9 {t:TypeId} {n:Nat} (h:jh P t=some (some n)) (w:World):(isAgg t).run P w=.ok true w/\(Go.sizeOf t).run P w=.ok n w:=by
 simp only [jh,Option.bind_eq_bind,Option.bind_eq_some_iff] at h
 obtain ⟨d,hd,h⟩:=h
 split at h
 ·simp only [Option.map_eq_some_iff] at h
  obtain ⟨m,hm,h⟩:=h
  cases h
  exact ⟨by simp [isAgg,run_underlying hd],bK hm w⟩
 ·simp only [Option.map_eq_some_iff] at h
  obtain ⟨m,hm,h⟩:=h
  cases h
  exact ⟨by simp [isAgg,run_underlying hd],bK hm w⟩
 ·cases h
theorem mF {cs:List AV} {vs:Array Value} {off:Nat} {k:Option Nat} {t:TypeId} {v:AV} (hk:jh P t=some k) (hl:LR μ F w cs vs.toList) (h:aB cs off k=some v) :
  ∃ u,(part t vs off).run P w=.ok u w/\VR μ F w v u:=by
 cases k with
 | none =>
  obtain ⟨u,hu,hr⟩:=hl.get h
  have hu':vs[off]? = some u:=by simpa using hu
  exact ⟨u,by simp [part,oa hk,hu'],hr⟩
 | some n =>
  simp only [aB] at h
  split at h
  ·rename_i hle
   cases h
   obtain ⟨h1,h2⟩:=n9 hk w
   refine ⟨.agg (vs.extract off (off+n)),by simp [part,h1,h2],?_⟩
   have hlen:=hl.1
   simp at hlen
   refine .agg _ _ (by simp; omega) fun i c v hc hv=>?_
   rw [List.getElem?_take] at hc
   split at hc
   ·rename_i hi
    rw [List.getElem?_drop] at hc
    refine hl.2 _ c v hc ?_
    rw [Array.getElem?_extract] at hv
    split at hv
    ·simpa using hv
    ·cases hv
   ·cases hc
  ·cases h
theorem jD (op:BinOp) (ty:TypeId) (X Y:Operand) (j k:IntKind) (m n:Int):(eqGuard op ty X Y (.int j m) (.int k n)).run P w=.ok () w:=by
 unfold eqGuard; cases op <;> rfl
theorem lM (op:BinOp) (ty:TypeId) (X Y:Operand) (b c:Bool):(eqGuard op ty X Y (.bool b) (.bool c)).run P w=.ok () w:=by
 unfold eqGuard; cases op <;> rfl
theorem jC (op:BinOp) (ty:TypeId) (X Y:Operand) (b c:ByteArray):(eqGuard op ty X Y (.string b) (.string c)).run P w=.ok () w:=by
 unfold eqGuard; cases op <;> rfl
theorem eR (op:BinOp) (ty:TypeId) (X Y:Operand) (x:Value) (b:Option Addr) (m n:Nat):(eqGuard op ty X Y x (.slice b m n)).run P w=.ok () w:=by
 unfold eqGuard; cases op <;> cases x <;> rfl
theorem lu {op:BinOp} {k yk:IntKind} {x y:Int} {v:AV} (h:iL op k x y=some v):∃ u,(Op.shift op k x yk y).run P w=.ok u w/\VR μ F w v u:=by
 unfold iL at h
 split at h
 ·cases h
 ·rename_i hy
  unfold Op.shift
  cases op <;> simp at h <;> subst h <;> simp [hy] <;> exact .int _ _
theorem qT {op:BinOp} {ty:TypeId} {k:IntKind} {x y:Int} {v:AV} (h:gH op k x y=some v):∃ u,(binOp op ty (.int k x) (.int k y)).run P w=.ok u w/\VR μ F w v u:=by
 unfold gH at h
 cases op
 case quo=>simp at h; obtain ⟨h0,h⟩:=h; subst h; exact ⟨_,by simp [binOp,Op.intDiv,h0],.int _ _⟩
 case rem=>simp at h; obtain ⟨h0,h⟩:=h; subst h; exact ⟨_,by simp [binOp,Op.intDiv,h0],.int _ _⟩
 case shl=>cases h
 case shr=>cases h
 all_goals (injection h with h; subst h; cases k <;> first | exact ⟨_,rfl,.int _ _⟩ | exact ⟨_,rfl,.bool _⟩)
theorem uk {op:BinOp} {kd:BK} {ty:TypeId} {x y:AV} {vx vy:Value} {v:AV} (hkd:f8 P ty=some kd)
  (hx:VR μ F w x vx) (hy:VR μ F w y vy) (h:cw op kd x y=some v) (X Y:Operand) :
  ∃ u,((do eqGuard op ty X Y vx vy; binOp op ty vx vy):Sem Value).run P w=.ok u w/\VR μ F w v u:=by
 unfold cw at h
 split at h
 ·cases hx; cases hy
  rename_i k1 a1 k2 b1
  split at h
  ·obtain ⟨u,hu,hr⟩:=lu (P:=P) (μ:=μ) (F:=F) (w:=w) (yk:=k2) h
   exact ⟨u,by simp [jD,binOp,hu],hr⟩
  ·obtain ⟨u,hu,hr⟩:=lu (P:=P) (μ:=μ) (F:=F) (w:=w) (yk:=k2) h
   exact ⟨u,by simp [jD,binOp,hu],hr⟩
  ·split at h
   ·rename_i hk
    subst hk
    obtain ⟨u,hu,hr⟩:=qT (P:=P) (μ:=μ) (F:=F) (w:=w) (ty:=ty) h
    exact ⟨u,by simp [jD,hu],hr⟩
   ·cases h
 ·cases hx; cases hy
  rename_i b c _ _
  have hb:P.underlying ty=some .bool:=by
   unfold f8 at hkd; split at hkd <;> first | assumption | (cases hkd)
  split at h <;> first | (cases h; done) | skip
  ·cases h; exact ⟨_,by simp only [Sem.run_bind,lM,Result.andThen_ok]; exact run_eql_bool w ty _ _ hb,.bool _⟩
  ·cases h; exact ⟨_,by simp only [Sem.run_bind,lM,Result.andThen_ok]; exact run_neq_bool w ty _ _ hb,.bool _⟩
 ·cases hx; cases hy
  split at h <;> first | (cases h; done) | skip
  ·cases h; exact ⟨_,by simp [jC,binOp,Op.stringOp],.bool _⟩
  ·cases h; exact ⟨_,by simp [jC,binOp,Op.stringOp],.bool _⟩
  ·split at h
   ·cases h
   ·rename_i hle
    cases h; exact ⟨_,by simp only [Sem.run_bind,jC,Result.andThen_ok,binOp,Op.stringOp]; rw [if_neg hle]; rfl,.str _⟩
 ·cases hy
  have hb:∃ e,P.underlying ty=some (.slice e):=by
   unfold f8 at hkd; split at hkd <;> first | (cases hkd; done) | exact ⟨_,by assumption⟩
  obtain ⟨e,hb⟩:=hb
  split at h <;> first | (cases h; done) | skip
  ·simp only [Option.map_eq_some_iff] at h
   obtain ⟨b,hb1,rfl⟩:=h
   unfold nj at hb1
   split at hb1 <;> first | (cases hb1; done) | skip
   ·cases hb1; cases hx
    exact ⟨_,by simp only [Sem.run_bind,eR,Result.andThen_ok,binOp,run_equal_slice_nil w ty e _ _ _ hb,Sem.run_pure]; rfl,.bool _⟩
   ·cases hb1; cases hx
    exact ⟨_,by simp only [Sem.run_bind,eR,Result.andThen_ok,binOp,run_equal_slice_nil w ty e _ _ _ hb,Sem.run_pure]; rfl,.bool _⟩
   ·cases hb1; cases hx
    ·exact ⟨_,by simp only [Sem.run_bind,eR,Result.andThen_ok,binOp,run_equal_slice_nil w ty e _ _ _ hb,Sem.run_pure]; rfl,.bool _⟩
    ·exact ⟨_,by simp only [Sem.run_bind,eR,Result.andThen_ok,binOp,run_equal_slice_nil w ty e _ _ _ hb,Sem.run_pure]; rfl,.bool _⟩
  ·simp only [Option.map_eq_some_iff] at h
   obtain ⟨b,hb1,rfl⟩:=h
   unfold nj at hb1
   split at hb1 <;> first | (cases hb1; done) | skip
   ·cases hb1; cases hx
    exact ⟨_,by simp only [Sem.run_bind,eR,Result.andThen_ok,binOp,run_equal_slice_nil w ty e _ _ _ hb,Sem.run_pure]; rfl,.bool _⟩
   ·cases hb1; cases hx
    exact ⟨_,by simp only [Sem.run_bind,eR,Result.andThen_ok,binOp,run_equal_slice_nil w ty e _ _ _ hb,Sem.run_pure]; rfl,.bool _⟩
   ·cases hb1; cases hx
    ·exact ⟨_,by simp only [Sem.run_bind,eR,Result.andThen_ok,binOp,run_equal_slice_nil w ty e _ _ _ hb,Sem.run_pure]; rfl,.bool _⟩
    ·exact ⟨_,by simp only [Sem.run_bind,eR,Result.andThen_ok,binOp,run_equal_slice_nil w ty e _ _ _ hb,Sem.run_pure]; rfl,.bool _⟩
 ·exfalso
  unfold f8 at hkd
  split at hkd <;> cases hkd
 ·cases h
theorem wP {op:BinOp} {ty:TypeId} {ms:Array (String × TypeId)} {x y:AV} {vx vy:Value} {v:AV} (ht:P.underlying ty=some (.interface ms))
  (hx:VR μ F w x vx) (hy:VR μ F w y vy) (h:cw op .ifc x y=some v) {X Y:Operand} (hc:(lH X || lH Y)=true) :
  ∃ u,((do eqGuard op ty X Y vx vy; binOp op ty vx vy):Sem Value).run P w=.ok u w/\VR μ F w v u:=by
 have hu:=run_underlying (P:=P) ht
 have g1:∀ op,(eqGuard op ty X Y .nilIface .nilIface).run P w=.ok () w:=by
  intro op
  unfold eqGuard
  cases op <;> cases X <;> cases Y <;> first | rfl | (simp [lH] at hc; done)
 have g2:∀ op t z,(eqGuard op ty X Y .nilIface (.iface t z)).run P w=.ok () w:=fun op t z=>by unfold eqGuard; cases op <;> rfl
 have g3:∀ op t z,(eqGuard op ty X Y (.iface t z) .nilIface).run P w=.ok () w:=fun op t z=>by unfold eqGuard; cases op <;> rfl
 have k1:∀ d,(Op.equalIn (d+1) ty .nilIface .nilIface).run P w=.ok true w:=fun d=>by simp [Op.equalIn,hu]
 have k2:∀ d t z,(Op.equalIn (d+1) ty .nilIface (.iface t z)).run P w=.ok false w:=fun d t z=>by simp [Op.equalIn,hu]
 have k3:∀ d t z,(Op.equalIn (d+1) ty (.iface t z) .nilIface).run P w=.ok false w:=fun d t z=>by simp [Op.equalIn,hu]
 have q1:(Op.equal ty .nilIface .nilIface).run P w=.ok true w:=k1 9999
 have q2:∀ t z,(Op.equal ty .nilIface (.iface t z)).run P w=.ok false w:=k2 9999
 have q3:∀ t z,(Op.equal ty (.iface t z) .nilIface).run P w=.ok false w:=k3 9999
 simp only [cw] at h
 split at h <;> first | (cases h; done) | skip
 all_goals
  simp only [Option.map_eq_some_iff] at h
  obtain ⟨b,hb,rfl⟩:=h
  unfold tD at hb
  split at hb <;> first | (cases hb; done) | skip
  all_goals
   cases hb
   cases hx
   cases hy
   refine ⟨_,?_,.bool _⟩
   first
    | (simp only [Sem.run_bind,g1,q1,binOp,Result.andThen_ok,Sem.run_pure]; done)
    | (simp only [Sem.run_bind,g2,q2,binOp,Result.andThen_ok,Sem.run_pure]; done)
    | (simp only [Sem.run_bind,g3,q3,binOp,Result.andThen_ok,Sem.run_pure]; done)
    | (simp only [Sem.run_bind,g1,q1,binOp,Result.andThen_ok,Sem.run_pure]; rfl)
    | (simp only [Sem.run_bind,g2,q2,binOp,Result.andThen_ok,Sem.run_pure]; rfl)
    | (simp only [Sem.run_bind,g3,q3,binOp,Result.andThen_ok,Sem.run_pure]; rfl)
theorem xj {as bs:List AV} {r:Bool} (h:r8 as bs=some r):∃ a b c d,as=[.bool a,.bool b]/\bs=[.bool c,.bool d]/\r=(a == c && b == d):=by
 unfold r8 at h
 split at h
 ·cases h; exact ⟨_,_,_,_,rfl,rfl,rfl⟩
 ·cases h
theorem zg {b c:Bool} {us:Array Value} (h:LR μ F w [.bool b,.bool c] us.toList):us = #[.bool b,.bool c]:=by
 obtain ⟨l⟩:=us
 obtain ⟨hl,hv⟩:=h
 match l,hl with
 | [x,y],_ =>
  have h0:=hv 0 _ x rfl rfl
  have h1:=hv 1 _ y rfl rfl
  cases h0; cases h1
  rfl
theorem xi (d:Nat) {t e:TypeId} (ht:P.underlying t=some (.array 2 e)) (he:P.underlying e=some .bool) (hs:sizeOf? P e=some 1) (a b c f:Bool) :
  (Op.equalIn (d+2) t (.agg #[.bool a,.bool b]) (.agg #[.bool c,.bool f])).run P w=.ok (a == c && b == f) w:=by
 have hag:(isAgg e).run P w=.ok false w:=by simp [isAgg,run_underlying he]
 have hp:∀ (x y:Bool) (i:Nat) (z:Bool),#[Value.bool x,Value.bool y][i]? = some (.bool z)->(part e #[.bool x,.bool y] i).run P w=.ok (.bool z) w:=by
  intro x y i z h
  simp [part,hag,h]
 have hq:=fun (x y:Bool)=>run_equalIn_bool (P:=P) w d e x y he
 unfold Op.equalIn
 simp only [Sem.run_bind,run_underlying ht,Result.andThen_ok,bK hs]
 simp only [Std.Legacy.Range.forIn_eq_forIn_range',Std.Legacy.Range.size]
 simp [List.range',hp,hq]
 cases a <;> cases b <;> cases c <;> cases f <;> simp
theorem r7 {ty:TypeId} {as bs:List AV} {us vs:Array Value} {r:Bool} (hty:kL P ty=true) (ha:LR μ F w as us.toList) (hb:LR μ F w bs vs.toList) (h:r8 as bs=some r) (X Y:Operand) :
  ((do eqGuard .eql ty X Y (.agg us) (.agg vs); binOp .eql ty (.agg us) (.agg vs)):Sem Value).run P w=.ok (.bool r) w /\
  ((do eqGuard .neq ty X Y (.agg us) (.agg vs); binOp .neq ty (.agg us) (.agg vs)):Sem Value).run P w=.ok (.bool !r) w:=by
 obtain ⟨a,b,c,d,rfl,rfl,rfl⟩:=xj h
 obtain rfl:=zg ha
 obtain rfl:=zg hb
 unfold kL at hty
 split at hty
 ·rename_i e he
  simp only [Bool.and_eq_true,beq_iff_eq] at hty
  obtain ⟨h1,hs⟩:=hty
  split at h1
  ·rename_i hbool
   have hg:P.eqGuardType P.depth ty=false:=by
    have:P.depth=(2*(P.types.size+Made.depth))+2:=rfl
    rw [this]
    simp [Program.eqGuardType,he,hbool]
   have hk:∀ op,(eqGuard op ty X Y (.agg #[.bool a,.bool b]) (.agg #[.bool c,.bool d])).run P w=.ok () w:=by
    intro op
    unfold eqGuard
    cases op <;> simp [hg]
   have he2:=xi (w:=w) 9998 he hbool hs a b c d
   refine ⟨?_,?_⟩
   ·simp only [Sem.run_bind,hk,Result.andThen_ok,binOp,Op.equal,Op.maxDepth,he2,Sem.run_pure]
   ·simp only [Sem.run_bind,hk,Result.andThen_ok,binOp,Op.equal,Op.maxDepth,he2,Sem.run_pure]
  ·cases h1
 ·cases hty
theorem lL (d:Nat) (xs ys:Array Value):∀ (fs:List Field) (i:Nat) (as bs:List AV) (r:Bool),(∀ j f,fs[j]? = some f → f.name ≠ "_" ∧ f.offset=i+j ∧ ∃ k,P.underlying f.type=some (.int k)) →
  (∀ j k a,as[j]? = some (.int k a)->xs[i+j]? = some (.int k a))->(∀ j k a,bs[j]? = some (.int k a)->ys[i+j]? = some (.int k a))->jB fs.length as bs=some r ->
  (Op.eqFields (d+1) xs ys fs).run P w=.ok r w
 | [],i,as,bs,r,hf,ha,hb,h=>by
  unfold jB at h
  split at h
  ·cases h; simp [Op.eqFields]
  ·rename_i e; cases e
  ·cases h
 | f :: fs,i,as,bs,r,hf,ha,hb,h=>by
  unfold jB at h
  split at h
  ·rename_i e; cases e
  ·rename_i n k a as' k' b bs' e
   injection e with e
   split at h
   ·rename_i hk
    subst hk
    simp only [Option.map_eq_some_iff] at h
    obtain ⟨r',hr',rfl⟩:=h
    obtain ⟨hn,ho,q,hq⟩:=hf 0 f rfl
    have hag:(isAgg f.type).run P w=.ok false w:=by simp [isAgg,run_underlying hq]
    have hp:∀ (zs:Array Value) (z:Value),zs[i]? = some z->(part f.type zs f.offset).run P w=.ok z w:=by
     intro zs z hz
     rw [ho]
     simp [part,hag,hz]
    have hx:=hp xs _ (ha 0 k a rfl)
    have hy:=hp ys _ (hb 0 k b rfl)
    have ih:=lL d xs ys fs (i+1) as' bs' r' (fun j g hg=>by have:=hf (j+1) g hg; exact ⟨this.1,by omega,this.2.2⟩) (fun j k a hj=>by have:=ha (j+1) k a hj; rwa [show i+1+j=i+(j+1) by omega]) (fun j k a hj=>by have:=hb (j+1) k a hj; rwa [show i+1+j=i+(j+1) by omega]) (by rw [<- e] at hr'; exact hr')
    simp only [Op.eqFields,hn,ne_eq,not_false_eq_true,if_true,Sem.run_bind,hx,hy,Result.andThen_ok,run_equalIn_int w d f.type k q a b hq]
    cases hab:(a == b)
    ·simp
    ·simpa using ih
   ·cases h
  ·cases h
theorem oj {ty:TypeId} {as bs:List AV} {us vs:Array Value} {r:Bool} (hty:ft P ty≠0) (ha:LR μ F w as us.toList) (hb:LR μ F w bs vs.toList) (h:jB (ft P ty) as bs=some r) (X Y:Operand) :
  ((do eqGuard .eql ty X Y (.agg us) (.agg vs); binOp .eql ty (.agg us) (.agg vs)):Sem Value).run P w=.ok (.bool r) w /\
  ((do eqGuard .neq ty X Y (.agg us) (.agg vs); binOp .neq ty (.agg us) (.agg vs)):Sem Value).run P w=.ok (.bool !r) w:=by
 unfold ft at hty h
 split at hty
 rotate_left
 ·exact absurd rfl hty
 rename_i fs hu
 simp only [hu] at h
 split at hty
 rotate_left
 ·exact absurd rfl hty
 rename_i hc
 simp only [hc,if_true] at h
 simp only [Bool.and_eq_true,Bool.not_eq_true',List.all_eq_true,bne_iff_ne,ne_eq,beq_iff_eq] at hc
 obtain ⟨hall,hst⟩:=hc
 have hfs:P.fieldsOf ty=fs:=by simp [Program.fieldsOf,hu]
 have hf:∀ j f,fs.toList[j]? = some f → f.name ≠ "_" ∧ f.offset=0+j ∧ ∃ k,P.underlying f.type=some (.int k):=by
  intro j f hj
  have hm:(f,j)∈fs.toList.zipIdx:=by
   rw [List.mem_zipIdx_iff_getElem?]; exact hj
  have:=hall _ hm
  refine ⟨this.1,by simpa using this.2.1,?_⟩
  have h3:=this.2.2
  split at h3
  ·exact ⟨_,by assumption⟩
  ·cases h3
 have hag:∀ {ls:List AV} {zs:Array Value},LR μ F w ls zs.toList->∀ j k a,ls[j]? = some (.int k a)->zs[0+j]? = some (.int k a):=by
  intro ls zs hl j k a hj
  obtain ⟨hlen,hv⟩:=hl
  have hlt:j<ls.length:=(List.getElem?_eq_some_iff.1 hj).1
  have hz:zs.toList[j]? = some (zs.toList[j]'(by omega)):=List.getElem?_eq_getElem _
  have hvr:=hv j _ _ hj hz
  generalize hzz:zs.toList[j]'(by omega)=z at hvr hz
  cases hvr
  rw [Nat.zero_add,<- Array.getElem?_toList]
  exact hz
 have hg:P.eqGuardType P.depth ty=false:=by
  have:P.depth=(2*(P.types.size+Made.depth))+2:=rfl
  rw [this]
  simp only [Program.eqGuardType,hu]
  rw [<- Array.any_toList,List.any_eq_false]
  intro f hfm
  obtain ⟨j,hj⟩:=List.mem_iff_getElem?.1 hfm
  obtain ⟨-,-,k,hk⟩:=hf j f hj
  simp [hk]
 have he:=lL (w:=w) 9998 us vs fs.toList 0 as bs r hf (hag ha) (hag hb) (by simpa using h)
 have he2:(Op.equalIn 10000 ty (.agg us) (.agg vs)).run P w=.ok r w:=by
  rw [run_equalIn_struct w 9999 ty us vs (by rw [hfs]; exact hu) hst,hfs]
  exact he
 refine ⟨?_,?_⟩
 ·simp only [Sem.run_bind,run_eqGuard_agg w _ _ _ _ _ _ hg,Result.andThen_ok,run_eql_struct,he2]
 ·simp only [Sem.run_bind,run_eqGuard_agg w _ _ _ _ _ _ hg,Result.andThen_ok,run_neq_struct,he2]
end
section
variable {P:Program} {μ:Mu} {F:Nat->Prop} {w:World} {T:Tm} {a:Act}
theorem vR {op:UnOp} {x:AV} {vx:Value} {v:AV} (hx:VR μ F w x vx) (h:Dc op x=some v):∃ u,(Op.unary op vx).run P w=.ok u w/\VR μ F w v u:=by
 unfold Dc at h
 split at h
 ·cases h; cases hx; exact ⟨_,rfl,.int _ _⟩
 ·cases h; cases hx; exact ⟨_,rfl,.int _ _⟩
 ·cases h; cases hx; exact ⟨_,rfl,.bool _⟩
 ·cases h
def OR (μ:Mu) (F:Nat->Prop) (w:World) (x:Option AV) (v:Option Value):Prop :=
 match x,v with
 | none,none=>True
 | some x,some v=>VR μ F w x v
 | _,_=>False
theorem fZ (k:IntKind) (n y:Nat) (code:BoundsCode) (h:n<=y):(Instr.sliceBound (.int k (n:Int)) y code).run P w=.ok n w:=by
 simp [Instr.sliceBound,asIntOf,h]
theorem kP {len cap m h l:Nat} {k1 k2:IntKind} {lo:Option Value} (hl:(lo=none/\l=0)\/∃ k,lo=some (.int k (l:Int))) (h1:m<=cap) (h2:h<=m) (h3:l<=h) :
  (Instr.sliceBounds true len cap lo (some (.int k1 (h:Int))) (some (.int k2 (m:Int)))).run P w=.ok (l,h,m) w:=by
 rcases hl with ⟨rfl,rfl⟩ | ⟨k,rfl⟩
 ·simp [Instr.sliceBounds,fZ k2 m cap _ h1,fZ k1 h m _ h2]
 ·simp [Instr.sliceBounds,fZ k2 m cap _ h1,fZ k1 h m _ h2,fZ k l h _ h3]
theorem jb {s:Bool} {len cap h l:Nat} {lo hi:Option Value} (hl:(lo=none/\l=0)\/∃ k,lo=some (.int k (l:Int))) (hh:(hi=none/\h=len)\/∃ k,hi=some (.int k (h:Int))) (h2:h<=cap) (h3:l<=h) :
  (Instr.sliceBounds s len cap lo hi none).run P w=.ok (l,h,cap) w:=by
 rcases hl with ⟨rfl,rfl⟩ | ⟨k,rfl⟩ <;> rcases hh with ⟨rfl,rfl⟩ | ⟨k',rfl⟩
 ·simp [Instr.sliceBounds]
 ·simp [Instr.sliceBounds,fZ k' h cap _ h2]
 ·simp [Instr.sliceBounds,fZ k l h _ h3]
 ·simp [Instr.sliceBounds,fZ k' h cap _ h2,fZ k l h _ h3]
theorem ii {x:Option AV} {v:Option Value} {n d:Nat} (h:OR μ F w x v) (hn:(x.map iU).getD (some d)=some n):(v=none/\n=d)\/∃ k,v=some (.int k (n:Int)):=by
 cases x with
 | none =>
  cases v with
  | none=>simp at hn; exact .inl ⟨rfl,hn.symm⟩
  | some v=>exact h.elim
 | some x =>
  cases v with
  | none=>exact h.elim
  | some v =>
   simp at hn
   obtain ⟨k,hk⟩:=eF hn h
   exact .inr ⟨k,by rw [hk]⟩
theorem gr (b o k:Nat):(⟨b,o,none⟩:Addr).add k=⟨b,o+k,none⟩:=by
 unfold Addr.add; split <;> simp_all
theorem fG {t e:TypeId} {size:Nat} (ht:P.underlying t=some (.slice e)) (hs:sizeOf? P e=some size) {a:Option Addr} {len cap l h m:Nat} {lo hi mx:Option Value}
  (hb:(Instr.sliceBounds true len cap lo hi mx).run P w=.ok (l,h,m) w) :
  (Instr.sliceAt t (.slice a len cap) lo hi mx).run P w=.ok (.slice (if m=l then a else a.map (·.add (l*size))) (h-l) (m-l)) w:=by
 simp [Instr.sliceAt,Instr.slice,run_underlying ht,hb,bK hs]
theorem p7 {size:Nat} {t e:TypeId} {x:AV} {vx:Value} {lo hi mx:Option AV} {vlo vhi vmx:Option Value} {v:AV}
  (ht:P.underlying t=some (.slice e)) (hs:sizeOf? P e=some size)
  (hx:VR μ F w x vx) (hstr:∀ s,x ≠ .str s) (hlo:OR μ F w lo vlo) (hhi:OR μ F w hi vhi) (hmx:OR μ F w mx vmx) (h:fd size x lo hi mx=some v) :
  ∃ u,(Instr.sliceAt t vx vlo vhi vmx).run P w=.ok u w/\VR μ F w v u:=by
 unfold fd at h
 split at h
 ·rename_i b off n c sz ex
  split at h
  ·cases h
  rename_i hsz
  have hsz:sz=size:=by simpa using hsz
  subst hsz
  cases hx with
  | own _ _ _ _ _ _ L cap h1 h2 h3 h4 h5 h6 =>
  split at h
  ·rename_i m0 h0 lo
   simp only [Option.bind_eq_bind,Option.bind_eq_some_iff] at h
   obtain ⟨m,hm,h',hh,l,hl,h⟩:=h
   split at h
   ·rename_i hc
    obtain ⟨c1,c2,c3⟩:=hc
    obtain ⟨vm,rfl⟩:∃ vm,vmx=some vm:=by cases vmx with | none=>exact hmx.elim | some vm=>exact ⟨_,rfl⟩
    obtain ⟨vh,rfl⟩:∃ vh,vhi=some vh:=by cases vhi with | none=>exact hhi.elim | some vm=>exact ⟨_,rfl⟩
    obtain ⟨k2,rfl⟩:=eF hm hmx
    obtain ⟨k1,rfl⟩:=eF hh hhi
    have hb:=kP (P:=P) (w:=w) (len:=n) (cap:=cap) (k1:=k1) (k2:=k2) (ii hlo hl) (Nat.le_trans c1 h4) c2 c3
    refine ⟨_,fG ht hs hb,?_⟩
    split at h
    ·rename_i e'
     cases h
     subst e'
     simp only [if_true,Nat.sub_self]
     have:h'-m=0:=by omega
     rw [this]
     exact .own _ _ _ _ _ _ L 0 h1 h2 (Nat.le_refl _) (Nat.le_refl _) (fun _=>rfl) (by omega)
    ·rename_i e'
     cases h
     rw [if_neg e']
     simp only [Option.map_some,gr]
     refine .own _ _ _ _ _ _ L _ h1 h2 (by omega) (Nat.le_refl _) (fun _=>rfl) ?_
     have:l*sz+(m-l)*sz=m*sz:=by rw [<- Nat.add_mul]; congr 1; omega
     have h7:m*sz<=cap*sz:=Nat.mul_le_mul_right _ (by omega)
     omega
   ·cases h
  ·rename_i hi lo
   simp only [Option.bind_eq_bind,Option.bind_eq_some_iff] at h
   obtain ⟨h',hh,l,hl,h⟩:=h
   obtain rfl:vmx=none:=by cases vmx with | none=>rfl | some vm=>exact hmx.elim
   split at h
   ·rename_i hc
    obtain ⟨c1,c2⟩:=hc
    have hb:=jb (P:=P) (w:=w) (s:=true) (len:=n) (cap:=cap) (ii hlo hl) (ii hhi hh) (by omega) c2
    refine ⟨_,fG ht hs hb,?_⟩
    have h7:(cap-l)*sz+l*sz<=cap*sz:=by rw [<- Nat.add_mul]; exact Nat.mul_le_mul_right _ (by omega)
    split at h
    ·rename_i e'
     cases h
     by_cases e2:cap=l
     ·have hl0:l=0:=by omega
      subst hl0
      simp only [e2,if_true,Nat.zero_mul,Nat.add_zero,Nat.sub_zero]
      subst e2
      exact .own _ _ _ _ _ _ L 0 h1 h2 (by omega) (by omega) (fun e=>by have:=h5 e; omega) (by omega)
     ·rw [if_neg e2]
      simp only [Option.map_some,gr]
      exact .own _ _ _ _ _ _ L _ h1 h2 (by omega) (by omega) (fun e=>by have:=h5 e; omega) (by omega)
    ·rename_i e'
     have hlc:l=c:=by omega
     subst hlc
     split at h
     ·rename_i e3
      cases h
      have:=h5 e3
      subst this
      rw [if_pos rfl]
      exact .own _ _ _ _ _ _ L _ h1 h2 (by omega) (by omega) (fun e=>rfl) (by omega)
     ·cases h
      have:h'-l=0:=by omega
      rw [this]
      split
      ·exact .sl0 _ _
      ·exact .sl0 _ _
   ·cases h
  ·cases h
 ·rename_i cs n
  have hsl:∀ l h' m,h'<=n->l<=h'->h'<=m->h'*size<=cs.length->∀ (a0:Addr) (cap:Nat),VR μ F w (.sl cs n) (.slice (some a0) n cap)->m<=cap ->
    VR μ F w (.sl ((cs.drop (l*size)).take ((h'-l)*size)) (h'-l)) (.slice (if m=l then some a0 else (some a0).map (·.add (l*size))) (h'-l) (m-l)):=by
   intro l h' m q1 q2 q3 q5 a0 cap hv q4
   by_cases e0:h'=l
   ·subst e0
    simp only [Nat.sub_self,Nat.zero_mul,List.take_zero]
    split
    ·exact .sl0 _ _
    ·exact .sl0 _ _
   ·rw [if_neg (by omega)]
    cases hv with
    | sl0=>omega
    | sl _ _ _ blk off arr ty fr g1 g2 g3 g4 g5 =>
     simp only [Option.map_some,gr]
     have hle:l*size<=h'*size:=Nat.mul_le_mul_right _ q2
     refine .sl _ _ _ blk _ arr ty fr g1 g2 (by omega) ?_ ?_
     ·simp only [List.length_take,List.length_drop]; omega
     ·intro i c v hc hv
      rw [List.getElem?_take] at hc
      split at hc
      ·rw [List.getElem?_drop] at hc
       exact g5 _ c v hc (by rw [<- Nat.add_assoc]; exact hv)
      ·cases hc
  obtain ⟨a0,cap,rfl,hcap⟩:∃ a0 cap,vx=.slice (some a0) n cap/\n<=cap:=by
   cases hx with
   | sl0 a cap=>exact ⟨_,_,rfl,Nat.zero_le _⟩
   | sl _ _ _ blk off arr ty fr g1 g2 g3 g4 g5=>exact ⟨_,_,rfl,g3⟩
  split at h
  ·rename_i hi lo
   simp only [Option.bind_eq_bind,Option.bind_eq_some_iff] at h
   obtain ⟨h',hh,l,hl,h⟩:=h
   obtain rfl:vmx=none:=by cases vmx with | none=>rfl | some vm=>exact hmx.elim
   split at h
   ·rename_i hc
    obtain ⟨c1,c2,c3⟩:=hc
    cases h
    have hb:=jb (P:=P) (w:=w) (s:=true) (len:=n) (cap:=cap) (ii hlo hl) (ii hhi hh) (by omega) c2
    exact ⟨_,fG ht hs hb,hsl l h' cap c1 c2 (by omega) c3 a0 cap hx (Nat.le_refl _)⟩
   ·cases h
  ·rename_i m0 h0 lo
   simp only [Option.bind_eq_bind,Option.bind_eq_some_iff] at h
   obtain ⟨m,hm,h',hh,l,hl,h⟩:=h
   split at h
   ·rename_i hc
    obtain ⟨c1,c2,c3,c4⟩:=hc
    cases h
    obtain ⟨vm,rfl⟩:∃ vm,vmx=some vm:=by cases vmx with | none=>exact hmx.elim | some vm=>exact ⟨_,rfl⟩
    obtain ⟨vh,rfl⟩:∃ vh,vhi=some vh:=by cases vhi with | none=>exact hhi.elim | some vm=>exact ⟨_,rfl⟩
    obtain ⟨k2,rfl⟩:=eF hm hmx
    obtain ⟨k1,rfl⟩:=eF hh hhi
    have hb:=kP (P:=P) (w:=w) (len:=n) (cap:=cap) (k1:=k1) (k2:=k2) (ii hlo hl) (by omega) c2 c3
    exact ⟨_,fG ht hs hb,hsl l h' m (by omega) c3 c2 c4 a0 cap hx (by omega)⟩
   ·cases h
  ·cases h
 ·cases hx
  split at h
  ·rename_i m0 h0
   split at h
   ·rename_i hc
    obtain ⟨hm,hh,hl⟩:=hc
    cases h
    obtain ⟨vm,rfl⟩:∃ vm,vmx=some vm:=by cases vmx with | none=>exact hmx.elim | some vm=>exact ⟨_,rfl⟩
    obtain ⟨vh,rfl⟩:∃ vh,vhi=some vh:=by cases vhi with | none=>exact hhi.elim | some vm=>exact ⟨_,rfl⟩
    obtain ⟨k2,rfl⟩:=eF hm hmx
    obtain ⟨k1,rfl⟩:=eF hh hhi
    have hb:=kP (P:=P) (w:=w) (len:=0) (cap:=0) (k1:=k1) (k2:=k2) (ii hlo hl) (Nat.le_refl _) (Nat.le_refl _) (Nat.le_refl _)
    exact ⟨_,fG ht hs hb,.nilSl⟩
   ·cases h
  ·rename_i hi
   obtain rfl:vmx=none:=by cases vmx with | none=>rfl | some vm=>exact hmx.elim
   split at h
   ·rename_i hc
    obtain ⟨hh,hl⟩:=hc
    cases h
    have hb:=jb (P:=P) (w:=w) (s:=true) (len:=0) (cap:=0) (ii hlo hl) (ii hhi hh) (Nat.le_refl _) (Nat.le_refl _)
    exact ⟨_,fG ht hs hb,.nilSl⟩
   ·cases h
  ·cases h
 ·exact absurd rfl (hstr _)
 ·cases h
theorem nF {size:Nat} {t:TypeId} {s:ByteArray} {lo hi mx:Option AV} {vlo vhi vmx:Option Value} {v:AV}
  (ht:P.underlying t=some .string) (hlo:OR μ F w lo vlo) (hhi:OR μ F w hi vhi) (hmx:OR μ F w mx vmx) (h:fd size (.str s) lo hi mx=some v) :
  ∃ u,(Instr.sliceAt t (.string s) vlo vhi vmx).run P w=.ok u w/\VR μ F w v u:=by
 unfold fd at h
 simp only at h
 split at h
 ·simp only [Option.bind_eq_bind,Option.bind_eq_some_iff] at h
  obtain ⟨h',hh,l,hl,h⟩:=h
  obtain rfl:vmx=none:=by cases vmx with | none=>rfl | some vm=>exact hmx.elim
  split at h
  ·rename_i hc
   simp only [Bool.and_eq_true,decide_eq_true_eq] at hc
   cases h
   have hb:=jb (P:=P) (w:=w) (s:=false) (len:=s.size) (cap:=s.size) (ii hlo hl) (ii hhi hh) hc.1 hc.2
   exact ⟨_,by simp [Instr.sliceAt,Instr.slice,run_underlying ht,hb],.str _⟩
  ·cases h
 ·cases h
end
section
variable {P:Program} {μ:Mu} {F:Nat->Prop} {w:World} {T:Tm} {a:Act}
theorem ly (hT:LR μ F w T a.tmps.toList) {x:Option Operand} {s:Option Src} (h:ox x=some s):OR μ F w (s.map (Src.ev T)) (x.map a.eval):=by
 cases x with
 | none=>cases h; trivial
 | some x =>
  simp only [ox,Option.map_eq_some_iff] at h
  obtain ⟨y,hy,rfl⟩:=h
  exact aK hT hy
theorem eQ {as:List AV} {vs:Array Value} (h:LR μ F w as vs.toList):as.length=vs.size/\∀ (i:Nat) (c:AV) (v:Value),as[i]? = some c->vs[i]? = some v->VR μ F w c v :=
 ⟨by simpa using h.1,fun i c v h1 h2=>h.2 i c v h1 (by simpa using h2)⟩
theorem tA {o:Oper} {c x y:Operand} (ho:o.op=.pick c x y) {b:Bool} (hc:a.eval c=.bool b):(execOp a.eval o).run P w=.ok (.value (if b then a.eval x else a.eval y)) w:=by
 simp [execOp,ho,hc,asBool]
theorem rO (k:IntKind):∀ (l:List AV) (vs:List Value) (m:Int) (r:AV),LR μ F w l vs->l.foldlM uQ (AV.int k m)=some r ->
  ∃ u,(vs.foldlM Builtin.min2 (.int k m)).run P w=.ok u w/\VR μ F w r u
 | [],[],m,r,_,h=>by simp at h; subst h; exact ⟨_,rfl,.int _ _⟩
 | [],_ :: _,_,_,hl,_=>by have:=hl.1; simp at this
 | _ :: _,[],_,_,hl,_=>by have:=hl.1; simp at this
 | x :: l,v :: vs,m,r,hl,h=>by
  simp only [List.foldlM_cons,Option.bind_eq_bind,Option.bind_eq_some_iff] at h
  obtain ⟨y,hy,h⟩:=h
  have hx:=hl.head
  cases x <;> simp only [uQ] at hy <;> first | (cases hy; done) | skip
  cases hy
  cases hx
  obtain ⟨u,hu,hr⟩:=rO k l vs _ r hl.tail h
  exact ⟨u,by simp only [List.foldlM_cons,Sem.run_bind,Builtin.min2,Sem.run_pure,Result.andThen_ok]; exact hu,hr⟩
theorem rP (k:IntKind):∀ (l:List AV) (vs:List Value) (m:Int) (r:AV),LR μ F w l vs->l.foldlM uS (AV.int k m)=some r ->
  ∃ u,(vs.foldlM Builtin.max2 (.int k m)).run P w=.ok u w/\VR μ F w r u
 | [],[],m,r,_,h=>by simp at h; subst h; exact ⟨_,rfl,.int _ _⟩
 | [],_ :: _,_,_,hl,_=>by have:=hl.1; simp at this
 | _ :: _,[],_,_,hl,_=>by have:=hl.1; simp at this
 | x :: l,v :: vs,m,r,hl,h=>by
  simp only [List.foldlM_cons,Option.bind_eq_bind,Option.bind_eq_some_iff] at h
  obtain ⟨y,hy,h⟩:=h
  have hx:=hl.head
  cases x <;> simp only [uS] at hy <;> first | (cases hy; done) | skip
  cases hy
  cases hx
  obtain ⟨u,hu,hr⟩:=rP k l vs _ r hl.tail h
  exact ⟨u,by simp only [List.foldlM_cons,Sem.run_bind,Builtin.max2,Sem.run_pure,Result.andThen_ok]; exact hu,hr⟩
theorem iu (w:World):∀ (l:List Field) (pl:List (Nat × Nat)),(l.mapM fun f=>(sizeOf? P f.type).map fun n=>(f.offset,n))=some pl ->
  (l.mapM fun f=>(do pure (f.offset,<- Go.sizeOf f.type):Sem (Nat × Nat))).run P w=.ok pl w
 | [],pl,h=>by simp at h; subst h; simp
 | f :: l,pl,h=>by
  simp only [List.mapM_cons,Option.pure_def,Option.bind_eq_bind,Option.bind_eq_some_iff,Option.map_eq_some_iff] at h
  obtain ⟨q,⟨n,hn,rfl⟩,qs,hqs,h⟩:=h
  cases h
  have:=iu w l qs hqs
  simp only [List.mapM_cons,Sem.run_bind,bK hn,Result.andThen_ok,this,Sem.run_pure]
theorem lZ {fs:Array Field} {pl:List (Nat × Nat)} (h:lp P fs=some pl) (w:World) :
  (fs.mapM fun f=>(do pure (f.offset,<- Go.sizeOf f.type):Sem (Nat × Nat))).run P w=.ok pl.toArray w:=by
 rw [Array.mapM_eq_mapM_toList]
 simp only [Sem.run_map,iu w fs.toList pl h,Result.andThen_ok]
theorem jd (parts:Array (Nat × Operand)) (ρ:Operand->Value):(parts.map fun (x:Nat × Operand)=>match x with | (i,x)=>(i,ρ x)).toList=parts.toList.map fun p=>(p.1,ρ p.2):=by
 simp
theorem rE {o:Oper} {ao:AOp} {v:AV} (hc:sD P o=some ao) (hp:aF (Src.ev T) ao=some v) (hT:LR μ F w T a.tmps.toList) :
  ∃ u,(execOp a.eval o).run P w=.ok (.value u) w/\VR μ F w v u:=by
 obtain ⟨dst,op,ty,pos,after,guard⟩:=o
 cases op <;> simp only [sD] at hc
 case move x =>
  simp only [Option.map_eq_some_iff] at hc; obtain ⟨s,hs,rfl⟩:=hc
  cases hp; exact ⟨_,rfl,aK hT hs⟩
 case assign x =>
  simp only [Option.map_eq_some_iff] at hc; obtain ⟨s,hs,rfl⟩:=hc
  cases hp; exact ⟨_,rfl,aK hT hs⟩
 case pick c x y =>
  simp only [Option.bind_eq_bind,Option.bind_eq_some_iff] at hc
  obtain ⟨sc,hsc,sx,hsx,sy,hsy,hc⟩:=hc; cases hc
  simp only [aF] at hp
  split at hp
  ·rename_i t ht
   cases hp
   have:=aK hT hsc
   rw [ht] at this
   generalize hcv:a.eval c=cv at this
   cases this
   refine ⟨_,tA rfl hcv,?_⟩
   cases t
   ·exact aK hT hsy
   ·exact aK hT hsx
  ·cases hp
 case nilCheck x =>
  simp only [Option.map_eq_some_iff] at hc; obtain ⟨s,hs,rfl⟩:=hc
  have hx:=aK hT hs
  simp only [aF] at hp
  split at hp
  ·rename_i e; rw [e] at hx; cases hp; generalize hv:a.eval x=vx at hx; cases hx; rename_i L hL
   exact ⟨_,by simp [execOp,hv],.ptr _ _ L hL⟩
  ·rename_i e; rw [e] at hx; cases hp; generalize hv:a.eval x=vx at hx
   cases hx with
   | dp _ _ blk off arr ty fr g1 g2 g3 g4=>exact ⟨_,by simp [execOp,hv],.dp _ _ blk off arr ty fr g1 g2 g3 g4⟩
  ·rename_i e; rw [e] at hx; cases hp; generalize hv:a.eval x=vx at hx
   cases hx with
   | fn _ _ _ us vs h1 h2 h3 h4=>exact ⟨_,by simp [execOp,hv],.fn _ _ _ us vs h1 h2 h3 h4⟩
  ·rename_i e; rw [e] at hx; cases hp; generalize hv:a.eval x=vx at hx; cases hx; rename_i L hL
   exact ⟨_,by simp [execOp,hv],.loopv _ L hL⟩
  ·cases hp
 case unOp op t x =>
  simp only [Option.bind_eq_bind,Option.bind_eq_some_iff] at hc
  obtain ⟨s,hs,hc⟩:=hc; cases hc
  obtain ⟨u,hu,hr⟩:=vR (P:=P) (aK hT hs) hp
  exact ⟨u,bN hu,hr⟩
 case extract x i =>
  simp only [Option.bind_eq_bind,Option.bind_eq_some_iff] at hc
  obtain ⟨s,hs,hc⟩:=hc; cases hc
  have hx:=aK hT hs
  simp only [aF] at hp
  split at hp
  ·rename_i e; rw [e] at hx; generalize hv:a.eval x=vx at hx
   cases hx with
   | tup cs vs h1 h2 =>
    obtain ⟨u,hu,hr⟩:=(LR.of_agg h1 h2).get hp
    have hu':vs[i]? = some u:=by simpa using hu
    exact ⟨u,by simp [execOp,hv,Instr.extract,hu'],hr⟩
  ·cases hp
 case makeFunc f first cap =>
  simp only [Option.bind_eq_bind,Option.bind_eq_some_iff] at hc
  obtain ⟨fs,hfs,cs,hcs,hc⟩:=hc; cases hc
  cases hp
  have h1:=iY hT hfs
  have h2:=iY hT hcs
  refine ⟨.func f (first.map a.eval) (cap.map a.eval),by simp [execOp,Instr.makeFunc],?_⟩
  have e1:LR μ F w (fs.map (Src.ev T)) (first.map a.eval).toList:=by simpa using h1
  have e2:LR μ F w (cs.map (Src.ev T)) (cap.map a.eval).toList:=by simpa using h2
  exact .fn _ _ _ _ _ (eQ e1).1 (eQ e1).2 (eQ e2).1 (eQ e2).2
 case build t parts =>
  simp only [Option.bind_eq_bind,Option.bind_eq_some_iff] at hc
  obtain ⟨z,hz,d,hd,hc⟩:=hc
  obtain ⟨zv,hzv,hzl⟩:=jt hz w
  split at hc
  ·rename_i fs
   simp only [Option.bind_eq_some_iff] at hc
   obtain ⟨pl,hpl,ps,hps,hc⟩:=hc
   cases hc
   simp only [aF,Option.bind_eq_bind,Option.bind_eq_some_iff] at hp
   obtain ⟨cs,hcs,hp⟩:=hp
   cases hp
   obtain ⟨vs,hvs,hr⟩:=qK hT (pl[·]?) parts.toList ps z zv.cells cs hps (hzl μ F w) hcs
   refine ⟨.agg vs,bN ?_,.agg _ _ (eQ hr).1 (eQ hr).2⟩
   simp only [Instr.build,Sem.run_bind,hzv,Result.andThen_ok,run_underlying hd,lZ hpl,jd]
   have:(fun x:Nat=>pl.toArray[x]?)=(fun x:Nat=>pl[x]?):=by funext x; simp
   rw [this,hvs]
   rfl
  ·rename_i m e
   simp only [Option.bind_eq_some_iff] at hc
   obtain ⟨n,hn,ps,hps,hc⟩:=hc
   cases hc
   simp only [aF,Option.bind_eq_bind,Option.bind_eq_some_iff] at hp
   obtain ⟨cs,hcs,hp⟩:=hp
   cases hp
   obtain ⟨vs,hvs,hr⟩:=qK hT (fun i=>some (i*n,n)) parts.toList ps z zv.cells cs hps (hzl μ F w) hcs
   refine ⟨.agg vs,bN ?_,.agg _ _ (eQ hr).1 (eQ hr).2⟩
   simp only [Instr.build,Sem.run_bind,hzv,Result.andThen_ok,run_underlying hd,bK hn,jd]
   rw [hvs]
   rfl
  ·cases hc
 case binOp op t x y yt =>
  split at hc
  ·rename_i hty
   split at hc
   all_goals first | (cases hc; done) | skip
   all_goals
    simp only [Option.bind_eq_bind,Option.bind_eq_some_iff] at hc
    obtain ⟨sx,hsx,sy,hsy,hc⟩:=hc; cases hc
    have hx:=aK hT hsx
    have hy:=aK hT hsy
    simp only [aF] at hp
    split at hp
    ·rename_i as bs e1 e2
     rw [e1] at hx; rw [e2] at hy
     simp only [Option.map_eq_some_iff] at hp
     obtain ⟨r,hr,rfl⟩:=hp
     generalize hvx:a.eval x=vx at hx
     generalize hvy:a.eval y=vy at hy
     cases hx with
     | agg _ us h1 h2 =>
     cases hy with
     | agg _ vs h3 h4 =>
     have:=r7 hty (LR.of_agg h1 h2) (LR.of_agg h3 h4) hr x y
     refine ⟨.bool _,bN (by rw [hvx,hvy]; first | exact this.1 | exact this.2),.bool _⟩
    ·cases hp
  ·split at hc
   ·rename_i hty
    split at hc
    all_goals first | (cases hc; done) | skip
    all_goals
     simp only [Option.bind_eq_bind,Option.bind_eq_some_iff] at hc
     obtain ⟨sx,hsx,sy,hsy,hc⟩:=hc; cases hc
     have hx:=aK hT hsx
     have hy:=aK hT hsy
     simp only [aF] at hp
     split at hp
     ·rename_i as bs e1 e2
      rw [e1] at hx; rw [e2] at hy
      simp only [Option.map_eq_some_iff] at hp
      obtain ⟨r,hr,rfl⟩:=hp
      generalize hvx:a.eval x=vx at hx
      generalize hvy:a.eval y=vy at hy
      have hr':jB (ft P t) as bs=some r:=by
       obtain ⟨n,hn⟩:=Nat.exists_eq_succ_of_ne_zero hty
       rw [hn] at hr ⊢
       exact hr
      cases hx with
      | agg _ us h1 h2 =>
      cases hy with
      | agg _ vs h3 h4 =>
      have:=oj hty (LR.of_agg h1 h2) (LR.of_agg h3 h4) hr' x y
      refine ⟨.bool _,bN (by rw [hvx,hvy]; first | exact this.1 | exact this.2),.bool _⟩
     ·cases hp
   split at hc
   ·rename_i hifc
    split at hc
    ·rename_i hcst
     simp only [Option.bind_eq_bind,Option.bind_eq_some_iff] at hc
     obtain ⟨sx,hsx,sy,hsy,hc⟩:=hc; cases hc
     obtain ⟨ms,hms⟩:∃ ms,P.underlying t=some (.interface ms):=by
      unfold Cz at hifc
      split at hifc
      ·exact ⟨_,by assumption⟩
      ·cases hifc
     obtain ⟨u,hu,hr⟩:=wP hms (aK hT hsx) (aK hT hsy) hp hcst
     exact ⟨u,bN hu,hr⟩
    ·cases hc
   simp only [Option.bind_eq_bind,Option.bind_eq_some_iff] at hc
   obtain ⟨kd,hkd,sx,hsx,sy,hsy,hc⟩:=hc; cases hc
   obtain ⟨u,hu,hr⟩:=uk hkd (aK hT hsx) (aK hT hsy) hp x y
   exact ⟨u,bN hu,hr⟩
 case convert s d x =>
  simp only [Option.bind_eq_bind,Option.bind_eq_some_iff] at hc
  obtain ⟨ds,hds,dd,hdd,hc⟩:=hc
  split at hc
  ·simp only [Option.bind_eq_some_iff] at hc
   obtain ⟨sx,hsx,hc⟩:=hc; cases hc
   have hx:=aK hT hsx
   simp only [aF] at hp
   split at hp
   ·rename_i e; rw [e] at hx; cases hp
    generalize hv:a.eval x=vx at hx
    cases hx
    exact ⟨_,bN (by rw [hv]; simp [convert,run_underlying hds,run_underlying hdd,Conv.intToInt]),.int _ _⟩
   ·cases hp
  ·simp only [Option.bind_eq_some_iff] at hc
   obtain ⟨sx,hsx,hc⟩:=hc; cases hc
   have hx:=aK hT hsx
   simp only [aF] at hp
   split at hp
   ·rename_i e; rw [e] at hx; cases hp
    generalize hv:a.eval x=vx at hx
    cases hx
    exact ⟨_,bN (by rw [hv]; simp [convert,run_underlying hds,run_underlying hdd]),.str _⟩
   ·cases hp
  ·simp only [Option.bind_eq_some_iff] at hc
   obtain ⟨e,he,hc⟩:=hc
   split at hc
   ·simp only [Option.bind_eq_some_iff] at hc
    obtain ⟨sx,hsx,hc⟩:=hc; cases hc; cases hp
   ·cases hc
  ·simp only [Option.bind_eq_some_iff] at hc
   obtain ⟨e,he,hc⟩:=hc
   split at hc
   ·simp only [Option.bind_eq_some_iff] at hc
    obtain ⟨n,hn,hc⟩:=hc
    split at hc
    ·simp only [Option.bind_eq_some_iff] at hc
     obtain ⟨sx,hsx,hc⟩:=hc; cases hc; cases hp
    ·cases hc
   ·cases hc
  ·cases hc
 case makeInterface t x =>
  simp only [Option.bind_eq_bind,Option.bind_eq_some_iff] at hc
  obtain ⟨d,hd,hc⟩:=hc
  split at hc
  ·cases hc
  ·rename_i hn
   simp only [Option.bind_eq_some_iff] at hc
   obtain ⟨sx,hsx,hc⟩:=hc; cases hc
   have hx:=aK hT hsx
   simp only [aF] at hp
   split at hp
   ·cases hp
   ·cases hp
    refine ⟨.iface t (a.eval x),bN ?_,.ifc _ _ _ hx⟩
    simp only [Instr.makeInterface,Sem.run_bind,run_underlying hd,Result.andThen_ok]
    cases d <;> first | rfl | (exact absurd rfl (hn _))
 case slice t x lo hi mx =>
  simp only [Option.bind_eq_bind,Option.bind_eq_some_iff] at hc
  obtain ⟨d,hd,hc⟩:=hc
  split at hc
  ·simp only [Option.bind_eq_some_iff] at hc
   obtain ⟨n,hn,sx,hsx,sl,hsl,sh,hsh,sm,hsm,hc⟩:=hc; cases hc
   simp only [aF] at hp
   split at hp
   ·cases hp
   ·rename_i hstr
    obtain ⟨u,hu,hr⟩:=p7 hd hn (aK hT hsx) hstr (ly hT hsl) (ly hT hsh) (ly hT hsm) hp
    exact ⟨u,bN hu,hr⟩
  ·split at hc
   ·cases hc
   ·rename_i hmx
    simp only [Option.bind_eq_some_iff] at hc
    obtain ⟨sx,hsx,sl,hsl,sh,hsh,hc⟩:=hc; cases hc
    have hx:=aK hT hsx
    simp only [aF] at hp
    split at hp
    ·rename_i s e
     rw [e] at hx
     generalize hv:a.eval x=vx at hx
     cases hx
     have hm:mx=none:=by simpa using hmx
     subst hm
     obtain ⟨u,hu,hr⟩:=nF (mx:=none) (vmx:=none) hd (ly hT hsl) (ly hT hsh) (show OR μ F w none none from trivial) hp
     exact ⟨u,bN (by rw [hv]; exact hu),hr⟩
    ·cases hp
  ·cases hc
 case fieldAddr t x i =>
  simp only [Option.bind_eq_bind,Option.bind_eq_some_iff] at hc
  obtain ⟨d,hd,hc⟩:=hc
  split at hc
  ·rename_i fs
   simp only [Option.bind_eq_some_iff] at hc
   obtain ⟨f,hf,n,hn,hc⟩:=hc
   split at hc
   ·cases hc
   ·rename_i hn0
    simp only [Option.bind_eq_some_iff] at hc
    obtain ⟨sx,hsx,hc⟩:=hc; cases hc
    have hx:=aK hT hsx
    have hrun:∀ b o,(Instr.fieldAt t (.pointer (some ⟨b,o,none⟩)) i).run P w=.ok (.pointer (some ⟨b,o+f.offset,none⟩)) w:=by
     intro b o
     simp [Instr.fieldAt,run_underlying hd,hf,Instr.sureAddr,fieldPlace,bK hn,hn0,gr]
    simp only [aF] at hp
    split at hp
    ·rename_i b o e; rw [e] at hx; cases hp; generalize hv:a.eval x=vx at hx; cases hx; rename_i L hL
     exact ⟨_,bN (by rw [hv]; exact hrun _ _),.ptr _ _ L hL⟩
    ·rename_i cs o e; rw [e] at hx; cases hp; generalize hv:a.eval x=vx at hx
     cases hx with
     | dp _ _ blk off arr ty fr g1 g2 g3 g4 =>
      refine ⟨_,bN (by rw [hv]; exact hrun _ _),?_⟩
      rw [Nat.add_assoc]
      exact .dp _ _ blk off arr ty fr g1 g2 g3 g4
    ·cases hp
  ·cases hc
 case field t x i =>
  simp only [Option.bind_eq_bind,Option.bind_eq_some_iff] at hc
  obtain ⟨d,hd,hc⟩:=hc
  split at hc
  ·rename_i fs
   simp only [Option.bind_eq_some_iff] at hc
   obtain ⟨f,hf,k,hk,sx,hsx,hc⟩:=hc; cases hc
   have hx:=aK hT hsx
   simp only [aF] at hp
   split at hp
   ·rename_i cs e; rw [e] at hx; generalize hv:a.eval x=vx at hx
    cases hx with
    | agg _ vs h1 h2 =>
     obtain ⟨u,hu,hr⟩:=mF hk (LR.of_agg h1 h2) hp
     exact ⟨u,bN (by rw [hv]; simp [Instr.field,run_underlying hd,hf,asAgg,hu]),hr⟩
   ·cases hp
  ·cases hc
 case indexAddr t x i =>
  simp only [Option.bind_eq_bind,Option.bind_eq_some_iff] at hc
  obtain ⟨d,hd,hc⟩:=hc
  split at hc
  ·rename_i e
   simp only [Option.bind_eq_some_iff] at hc
   obtain ⟨n,hn,sx,hsx,si,hsi,hc⟩:=hc; cases hc
   have hx:=aK hT hsx
   have hi:=aK hT hsi
   simp only [aF,Option.bind_eq_bind,Option.bind_eq_some_iff] at hp
   obtain ⟨ix,hix,hp⟩:=hp
   obtain ⟨k,hk⟩:=eF hix hi
   have hrun:∀ b o len cap,ix<len->(Instr.indexAt t (.slice (some ⟨b,o,none⟩) len cap) (.int k (ix:Int))).run P w=.ok (.pointer (some ⟨b,o+ix*n,none⟩)) w:=by
    intro b o len cap hlt
    simp [Instr.indexAt,asIntOf,run_underlying hd,bK hn,gr,hlt]
   split at hp
   ·rename_i b off m c sz ex e'; rw [e'] at hx; generalize hv:a.eval x=vx at hx
    split at hp
    ·rename_i hlt
     cases hp
     cases hx with
     | own _ _ _ _ _ _ L cap h1 h2 h3 h4 h5 h6 =>
      exact ⟨_,bN (by rw [hv,hk]; exact hrun _ _ _ _ hlt.1),.ptr _ _ L h1⟩
    ·cases hp
   ·rename_i cs m e'; rw [e'] at hx; generalize hv:a.eval x=vx at hx
    split at hp
    ·rename_i hlt
     cases hp
     cases hx with
     | sl0=>omega
     | sl _ _ _ blk off arr ty fr g1 g2 g3 g4 g5 =>
      exact ⟨_,bN (by rw [hv,hk]; exact hrun _ _ _ _ hlt),.dp _ _ blk off arr ty fr g1 g2 g4 g5⟩
    ·cases hp
   ·cases hp
  ·rename_i len e
   split at hc
   ·simp only [Option.bind_eq_some_iff] at hc
    obtain ⟨n,hn,si,hsi,hc⟩:=hc; cases hc; cases hp
   ·simp only [Option.bind_eq_some_iff] at hc
    obtain ⟨n,hn,sx,hsx,si,hsi,hc⟩:=hc; cases hc
    have hx:=aK hT hsx
    have hi:=aK hT hsi
    simp only [aF,Option.bind_eq_bind,Option.bind_eq_some_iff] at hp
    obtain ⟨ix,hix,hp⟩:=hp
    obtain ⟨k,hk⟩:=eF hix hi
    have hrun:∀ b o,ix<len->(Instr.indexAt t (.pointer (some ⟨b,o,none⟩)) (.int k (ix:Int))).run P w=.ok (.pointer (some ⟨b,o+ix*n,none⟩)) w:=by
     intro b o hlt
     simp [Instr.indexAt,Instr.sureAddr,asIntOf,run_underlying hd,bK hn,gr,hlt]
    split at hp
    ·rename_i b o e'; rw [e'] at hx; generalize hv:a.eval x=vx at hx
     split at hp
     ·rename_i hlt
      cases hp
      cases hx with
      | ptr _ _ L h1=>exact ⟨_,bN (by rw [hv,hk]; exact hrun _ _ hlt),.ptr _ _ L h1⟩
     ·cases hp
    ·rename_i cs o e'; rw [e'] at hx; generalize hv:a.eval x=vx at hx
     split at hp
     ·rename_i hlt
      cases hp
      cases hx with
      | dp _ _ blk off arr ty fr g1 g2 g4 g5 =>
       refine ⟨_,bN (by rw [hv,hk]; exact hrun _ _ hlt),?_⟩
       rw [Nat.add_assoc]
       exact .dp _ _ blk off arr ty fr g1 g2 g4 g5
     ·cases hp
    ·cases hp
  ·cases hc
 case index t x i =>
  simp only [Option.bind_eq_bind,Option.bind_eq_some_iff] at hc
  obtain ⟨d,hd,hc⟩:=hc
  split at hc
  ·rename_i len e
   simp only [Option.bind_eq_some_iff] at hc
   obtain ⟨n,hn,kk,hkk,sx,hsx,si,hsi,hc⟩:=hc; cases hc
   have hx:=aK hT hsx
   have hi:=aK hT hsi
   simp only [aF,Option.bind_eq_bind,Option.bind_eq_some_iff] at hp
   obtain ⟨ix,hix,hp⟩:=hp
   obtain ⟨k,hk⟩:=eF hix hi
   split at hp
   ·rename_i cs e'; rw [e'] at hx; generalize hv:a.eval x=vx at hx
    split at hp
    ·rename_i hlt
     cases hx with
     | agg _ vs h1 h2 =>
      obtain ⟨u,hu,hr⟩:=mF hkk (LR.of_agg h1 h2) hp
      exact ⟨u,bN (by rw [hv,hk]; simp [Instr.index,asIntOf,run_underlying hd,hlt,bK hn,hu]),hr⟩
    ·cases hp
   ·cases hp
  ·simp only [Option.bind_eq_some_iff] at hc
   obtain ⟨sx,hsx,si,hsi,hc⟩:=hc; cases hc
   have hx:=aK hT hsx
   have hi:=aK hT hsi
   simp only [aF,Option.bind_eq_bind,Option.bind_eq_some_iff] at hp
   obtain ⟨ix,hix,hp⟩:=hp
   obtain ⟨k,hk⟩:=eF hix hi
   split at hp
   ·rename_i s e'; rw [e'] at hx; generalize hv:a.eval x=vx at hx
    simp only [Option.map_eq_some_iff] at hp
    obtain ⟨b,hb,rfl⟩:=hp
    cases hx
    exact ⟨_,bN (by rw [hv,hk]; simp [Instr.index,asIntOf,run_underlying hd,hb]),.int _ _⟩
   ·cases hp
  ·cases hc
 case call c =>
  simp only [Option.bind_eq_bind,Option.bind_eq_some_iff] at hc
  obtain ⟨args,hargs,hc⟩:=hc
  have hl:=iY hT hargs
  obtain ⟨callee,cargs,argTypes⟩:=c
  simp only at hc hl hargs
  cases callee with
  | value f =>
   simp only [Option.bind_eq_some_iff] at hc
   obtain ⟨s,hs,hc⟩:=hc; cases hc; cases hp
  | invoke r m=>cases hc
  | builtin b =>
   have hrun:∀ (s:Sem Value) (u:Value),s.run P w=.ok u w->(∀ consts,builtin b argTypes ty consts (cargs.map a.eval)=(do pure (.value (<- s)))) ->
     (execOp a.eval ⟨dst,.call ⟨.builtin b,cargs,argTypes⟩,ty,pos,after,guard⟩).run P w=.ok (.value u) w:=by
    intro s u h1 h2
    simp only [execOp,resolve,Sem.run_bind,Sem.run_pure,Result.andThen_ok,invoke]
    exact (congrArg (fun s=>s.run P w) (h2 _)).trans (bN h1)
   have one:∀ {x:Src},args=[x]->∃ v,cargs.map a.eval = #[v]/\VR μ F w (x.ev T) v:=by
    intro x hx
    subst hx
    have h1:=hl.1
    simp only [List.map_cons,List.map_nil,List.length_cons,List.length_nil,List.length_map,Array.length_toList] at h1
    obtain ⟨l⟩:=cargs
    match l,h1 with
    | [y],_=>exact ⟨a.eval y,by simp,hl.2 0 _ _ rfl rfl⟩
   have aty:∀ {t:TypeId},argTypes.toList=[t]->argTypes = #[t]:=by
    intro t ht
    obtain ⟨l⟩:=argTypes; simp at ht; subst ht; rfl
   simp only at hc
   split at hc
   ·rename_i x t
    obtain ⟨v1,hv1,hr1⟩:=one rfl
    simp only [Option.bind_eq_some_iff] at hc
    obtain ⟨d,hd,hc⟩:=hc
    split at hc
    ·rename_i e ht
     have hat:=aty (by assumption)
     cases hc
     simp only [aF] at hp
     split at hp
     ·rename_i b off n c sz ex e'; rw [e'] at hr1; cases hp
      cases hr1
      exact ⟨_,hrun _ _ (by rw [hv1,hat]; simp [Builtin.len_,run_underlying hd]; rfl) (fun _=>rfl),.int _ _⟩
     ·rename_i b off e'; rw [e'] at hr1; cases hp
      cases hr1
      ·exact ⟨_,hrun _ _ (by rw [hv1,hat]; simp [Builtin.len_,run_underlying hd]; rfl) (fun _=>rfl),.int _ _⟩
      ·exact ⟨_,hrun _ _ (by rw [hv1,hat]; simp [Builtin.len_,run_underlying hd]; rfl) (fun _=>rfl),.int _ _⟩
     ·rename_i e'; rw [e'] at hr1; cases hp
      cases hr1
      exact ⟨_,hrun _ _ (by rw [hv1,hat]; simp [Builtin.len_,run_underlying hd]; rfl) (fun _=>rfl),.int _ _⟩
     ·cases hp
    ·rename_i ht
     have hat:=aty (by assumption)
     cases hc
     simp only [aF] at hp
     split at hp
     ·rename_i s e'; rw [e'] at hr1; cases hp
      cases hr1
      exact ⟨_,hrun _ _ (by rw [hv1,hat]; simp [Builtin.len_,run_underlying hd]; rfl) (fun _=>rfl),.int _ _⟩
     ·cases hp
    ·cases hc; cases hp
    ·cases hc
   ·rename_i x t
    obtain ⟨v1,hv1,hr1⟩:=one rfl
    simp only [Option.bind_eq_some_iff] at hc
    obtain ⟨d,hd,hc⟩:=hc
    split at hc
    ·rename_i e ht
     have hat:=aty (by assumption)
     cases hc
     simp only [aF] at hp
     split at hp
     ·rename_i b off n c sz e'; rw [e'] at hr1; cases hp
      cases hr1 with
      | own _ _ _ _ _ _ L cap h1 h2 h3 h4 h5 h6 =>
      have:=h5 rfl
      subst this
      exact ⟨_,hrun _ _ (by rw [hv1,hat]; simp [Builtin.cap_,run_underlying hd]; rfl) (fun _=>rfl),.int _ _⟩
     ·rename_i e'; rw [e'] at hr1; cases hp
      cases hr1
      exact ⟨_,hrun _ _ (by rw [hv1,hat]; simp [Builtin.cap_,run_underlying hd]; rfl) (fun _=>rfl),.int _ _⟩
     ·cases hp
    ·cases hc
   ·cases hc
    simp only [aF] at hp
    rw [show cargs.toList.map a.eval=(cargs.map a.eval).toList by simp] at hl
    split at hp
    ·rename_i k m rest e'
     rw [e'] at hl
     obtain ⟨l,hvs⟩:∃ l,(cargs.map a.eval).toList=l:=⟨_,rfl⟩
     rw [hvs] at hl
     cases l with
     | nil=>have:=hl.1; simp at this
     | cons v vs =>
      have h0:=hl.head
      cases h0
      obtain ⟨u,hu,hr⟩:=rO (P:=P) k rest vs m _ hl.tail hp
      exact ⟨u,hrun (Builtin.min_ argTypes ty (cargs.map a.eval)) u (by unfold Builtin.min_; rw [hvs]; exact hu) (fun _=>rfl),hr⟩
    ·cases hp
   ·cases hc
    simp only [aF] at hp
    rw [show cargs.toList.map a.eval=(cargs.map a.eval).toList by simp] at hl
    split at hp
    ·rename_i k m rest e'
     rw [e'] at hl
     obtain ⟨l,hvs⟩:∃ l,(cargs.map a.eval).toList=l:=⟨_,rfl⟩
     rw [hvs] at hl
     cases l with
     | nil=>have:=hl.1; simp at this
     | cons v vs =>
      have h0:=hl.head
      cases h0
      obtain ⟨u,hu,hr⟩:=rP (P:=P) k rest vs m _ hl.tail hp
      exact ⟨u,hrun (Builtin.max_ argTypes ty (cargs.map a.eval)) u (by unfold Builtin.max_; rw [hvs]; exact hu) (fun _=>rfl),hr⟩
    ·cases hp
   all_goals (try simp only [Option.bind_eq_some_iff] at hc)
   all_goals (repeat' (first | (cases hc; done) | (obtain ⟨_,_,hc⟩:=hc) | (simp only [Option.bind_eq_some_iff] at hc) | (split at hc)))
   all_goals first | (cases hp; done) | (cases hc; cases hp; done)
 case typeAssert x xt t ok =>
  simp only [Option.bind_eq_bind,Option.bind_eq_some_iff] at hc
  obtain ⟨d,hd,hc⟩:=hc
  split at hc
  ·cases hc
  ·rename_i hni
   simp only [Option.bind_eq_some_iff] at hc
   obtain ⟨zv,hzv,z,hz,sx,hsx,hc⟩:=hc
   cases hc
   have hx:=aK hT hsx
   obtain ⟨i,hi,hzi⟩:=hzv
   have hzr:(zeroValue t).run P w=.ok zv w:=by simp [zeroValue,typeInfo,hi,hzi]
   have hu:=run_underlying (P:=P) hd
   simp only [aF] at hp
   have two:∀ {x:AV} {u:Value} {b:Bool},VR μ F w x u->VR μ F w (.tup [x,.bool b]) (.tuple #[u,.bool b]):=fun {x u b} h=>by
    refine .tup _ _ rfl fun i c v hc hv=>?_
    have:i=0\/i=1\/2<=i:=by omega
    rcases this with rfl | rfl | h2
    ·simp at hc hv; subst hc; subst hv; exact h
    ·simp at hc hv; subst hc; subst hv; exact .bool _
    ·rw [List.getElem?_eq_none (by simpa using h2)] at hc; cases hc
   split at hp
   ·rename_i t' y e; rw [e] at hx; generalize hv:a.eval x=vx at hx
    cases hx with
    | ifc _ _ u hy =>
    split at hp
    ·rename_i ht
     cases hp
     subst ht
     cases ok
     ·refine ⟨_,bN (?_:(Instr.typeAssert (a.eval x) xt t' false).run P w=.ok u w),hy⟩
      rw [hv]; unfold Instr.typeAssert
      cases d <;> first | exact absurd rfl (hni _) | simp [hu]
     ·refine ⟨_,bN (?_:(Instr.typeAssert (a.eval x) xt t' true).run P w=.ok (.tuple #[u,.bool true]) w),two hy⟩
      rw [hv]; unfold Instr.typeAssert
      cases d <;> first | exact absurd rfl (hni _) | simp [hu]
    ·rename_i ht
     split at hp
     ·rename_i hok
      cases hp
      subst hok
      refine ⟨_,bN (?_:(Instr.typeAssert (a.eval x) xt t true).run P w=.ok (.tuple #[zv,.bool false]) w),two (ja hz)⟩
      rw [hv]; unfold Instr.typeAssert
      cases d <;> first | exact absurd rfl (hni _) | simp [hu,ht,hzr]
     ·cases hp
   ·rename_i e; rw [e] at hx; generalize hv:a.eval x=vx at hx
    cases hx
    split at hp
    ·rename_i hok
     cases hp
     subst hok
     refine ⟨_,bN (?_:(Instr.typeAssert (a.eval x) xt t true).run P w=.ok (.tuple #[zv,.bool false]) w),two (ja hz)⟩
     rw [hv]; unfold Instr.typeAssert
     cases d <;> first | exact absurd rfl (hni _) | simp [hu,hzr]
    ·cases hp
   ·cases hp
 case load t x =>
  split at hc
  ·simp only [Option.bind_eq_bind,Option.bind_eq_some_iff] at hc
   obtain ⟨_,_,hc⟩:=hc
   cases hc; cases hp
  ·simp only [Option.bind_eq_bind,Option.bind_eq_some_iff] at hc
   obtain ⟨_,_,_,_,hc⟩:=hc
   cases hc; cases hp
 case next x sb =>
  split at hc
  ·simp only [Option.map_eq_some_iff] at hc
   obtain ⟨_,_,hc⟩:=hc
   cases hc; cases hp
  ·cases hc
 all_goals (try simp only [Option.bind_eq_bind,Option.bind_eq_some_iff,Option.map_eq_some_iff] at hc)
 all_goals (repeat' (first | (cases hc; done) | (obtain ⟨_,_,hc⟩:=hc) | (simp only [Option.bind_eq_some_iff] at hc) | (split at hc)))
 all_goals first | (cases hp; done) | (cases hc; cases hp; done)
end
def Mu.upd (μ:Mu) (b:Nat) (L:oZ):Mu:=fun x=>if x=b then some L else μ x
section
variable {I:Nat->Prop} {P:Program} {μ:Mu} {F:Nat->Prop} {H:Heap} {w:World}
theorem dU {b:Nat} {L:oZ} (hb:μ b=none):∀ x M,μ x=some M->(μ.upd b L) x=some M:=by
 intro x M h
 unfold Mu.upd
 split
 ·rename_i e; subst e; rw [hb] at h; cases h
 ·exact h
@[simp] theorem upd_same (b:Nat) (L:oZ):(μ.upd b L) b=some L:=by simp [Mu.upd]
theorem aZ {b x:Nat} (L:oZ) (h:x≠b):(μ.upd b L) x=μ x:=by simp [Mu.upd,h]
theorem ER.mono {μ μ':Mu} {F F':Nat->Prop} {w w':World} {L:oZ} {e:Ent} (hμ:∀ b L,μ b=some L->μ' b=some L) (hF:∀ c,F c->F' c)
  (hw:∀ c,F c->w'.heap[c]? = w.heap[c]?) (hs:w'.heap[L.blk]? = w.heap[L.blk]?) (hn:e.rw=true->¬ F' L.blk) (h:ER P μ F w L e):ER P μ' F' w' L e:=by
 cases e with
 | cells cs ty rw =>
  obtain ⟨arr,fr,h1,h2,h3,h4,h5,h6,h7⟩:=h
  exact ⟨arr,fr,hs.trans h1,h2,h3,h4,fun i c v hc hv=>(h5 i c v hc hv).mono hμ hF hw,fun hr=>⟨hn hr,(h6 hr).2⟩,fun _=>trivial⟩
 | map es =>
  obtain ⟨h0,entries,clock,h1,h2,h3,h4⟩:=h
  exact ⟨hn rfl,entries,clock,hs.trans h1,h2.mono hμ hF hw,h3.mono hμ hF hw,h4⟩
 | mapR es =>
  obtain ⟨entries,clock,h1,h2,h3,h4⟩:=h
  exact ⟨entries,clock,hs.trans h1,h2.mono hμ hF hw,h3.mono hμ hF hw,h4⟩
 | loop T ps asg body st pe =>
  obtain ⟨h0,r,h1,h2,h3,h4⟩:=h
  exact ⟨hn rfl,r,hs.trans h1,h2,h3.mono hμ hF hw,h4⟩
 | siter s pos=>exact ⟨hn rfl,hs.trans h.2⟩
theorem gQ (w:World) (o:Obj) {c:Nat} (h:c<w.heap.size):(w.alloc o).heap[c]? = w.heap[c]?:=by
 simp only [World.alloc,Array.getElem?_push]
 rw [if_neg (by omega)]
theorem iQ (hH:HR P μ F H w) {id:Nat} (hid:μ id=none) (hlt:id<H.next) (o:Obj) (e:Ent) (N sz:Nat)
  (he:∀ w',(∀ c,F c->w'.heap[c]? = w.heap[c]?)->w'.heap[w.heap.size]? = some o->¬ F w.heap.size->ER P (μ.upd id ⟨w.heap.size,N,sz⟩) F w' ⟨w.heap.size,N,sz⟩ e) (hI:I id)
  (w1:World) (h1:w1.heap=w.heap) (ht:Tp w w1) (hos:w1.os=w.os) (hout:w1.output=w.output) :
  HR P (μ.upd id ⟨w.heap.size,N,sz⟩) F (H.put id e) (w1.alloc o)/\Stp I P μ F H w (μ.upd id ⟨w.heap.size,N,sz⟩) F (H.put id e) (w1.alloc o):=by
 have hw:∀ c,c<w.heap.size->(w1.alloc o).heap[c]? = w.heap[c]?:=fun c hc=>by rw [gQ _ _ (by rw [h1]; exact hc),h1]
 have hnew:(w1.alloc o).heap[w.heap.size]? = some o:=by rw [<- h1]; exact World.alloc_heap_new w1 o
 have hsz:(w1.alloc o).heap.size=w.heap.size+1:=by simp [World.alloc,h1]
 have hnF:¬ F w.heap.size:=fun h=>by have:=hH.fb _ h; omega
 have hFw:∀ c,F c->(w1.alloc o).heap[c]? = w.heap[c]?:=fun c hc=>hw c (hH.fb c hc)
 have hnone:∀ e',H.get id≠some e':=fun e' h=>by obtain ⟨L,hL,_⟩:=hH.ent id e' h; rw [hid] at hL; cases hL
 refine ⟨⟨?_,?_,?_,?_,fun g cs hg=>(hH.gl g cs hg).mono (dU hid) (fun _ h=>h) hFw⟩,⟨dU hid,fun _ h=>h,by rw [hsz]; omega,fun c hc _=>hw c hc,?_,Nat.le_refl _,?_,?_,?_,?_,ht,hos,hout⟩⟩
 ·intro b L hb
  rw [hsz]
  by_cases e0:b=id
  ·subst e0; simp at hb; subst hb; exact ⟨hlt,by simp⟩
  ·rw [aZ _ e0] at hb
   have:=hH.dom b L hb
   exact ⟨this.1,by omega⟩
 ·intro c hc; rw [hsz]; have:=hH.fb c hc; omega
 ·intro b e' hb
  rw [Heap.get_put] at hb
  split at hb
  ·rename_i e0; subst e0; cases hb
   exact ⟨_,upd_same _ _,he _ hFw hnew hnF⟩
  ·rename_i e0
   obtain ⟨L,hL,hE⟩:=hH.ent b e' hb
   exact ⟨L,dU hid _ _ hL,hE.mono (dU hid) (fun _ h=>h) hFw (hw _ (hH.dom b L hL).2) (fun hr=>hE.notF hr)⟩
 ·intro b b' e1 e2 L L' hb hb' hL hL' hblk
  rw [Heap.get_put] at hb hb'
  by_cases e0:b=id
  ·by_cases e0':b'=id
   ·rw [e0,e0']
   ·subst e0
    simp at hL; subst hL
    rw [aZ _ e0'] at hL'
    have:=(hH.dom b' L' hL').2
    simp only at hblk; omega
  ·by_cases e0':b'=id
   ·subst e0'
    simp at hL'; subst hL'
    rw [aZ _ e0] at hL
    have:=(hH.dom b L hL).2
    simp only at hblk; omega
   ·rw [if_neg e0] at hb; rw [if_neg e0'] at hb'
    rw [aZ _ e0] at hL; rw [aZ _ e0'] at hL'
    exact hH.inj b b' e1 e2 L L' hb hb' hL hL' hblk
 ·intro b L ⟨e',hb,hr⟩ hL
  rw [Heap.get_put] at hb
  split at hb
  ·rename_i e0; subst e0; simp at hL; subst hL; exact .inl (Nat.le_refl _)
  ·rename_i e0; rw [aZ _ e0] at hL; exact .inr ⟨b,L,⟨e',hb,hr⟩,hL,rfl⟩
 ·intro b hb hi hn
  have:b≠id:=fun e0=>hi (e0 ▸ hI)
  rw [aZ _ this]; exact hn
 ·intro b L hb
  by_cases e0:b=id
  ·subst e0; simp at hb; subst hb; exact .inr (Nat.le_refl _)
  ·rw [aZ _ e0] at hb; exact .inl ⟨b,L,hb,rfl⟩
 ·intro b e' hb _ hi
  rw [Heap.get_put,if_neg (fun e0:b=id=>hi (e0 ▸ hI))] at hb
  exact ⟨e',hb⟩
 ·intro b e' L hb hL
  by_cases e0:b=id
  ·subst e0; simp at hL; subst hL; exact .inl (Nat.le_refl _)
  ·rw [aZ _ e0] at hL; rw [Heap.get_put,if_neg e0] at hb; exact .inr ⟨b,e',L,hb,hL,rfl⟩
theorem gg (hH:HR P μ F H w) {b:Nat} {L:oZ} {e0 e:Ent} (hb:H.get b=some e0) (hr:e0.rw=true) (hL:μ b=some L) (w':World)
  (hoth:∀ c,c≠L.blk->w'.heap[c]? = w.heap[c]?) (hsz:w'.heap.size=w.heap.size) (ht:Tp w w') (hos:w'.os=w.os) (hout:w'.output=w.output)
  (he:(∀ c,F c->w'.heap[c]? = w.heap[c]?)->ER P μ F w' L e) (hre:e.rw=true) :
  HR P μ F (H.put b e) w'/\Stp I P μ F H w μ F (H.put b e) w':=by
 have hnF:¬ F L.blk:=hH.rw_notF ⟨e0,hb,hr⟩ hL
 have hFw:∀ c,F c->w'.heap[c]? = w.heap[c]?:=fun c hc=>hoth c fun e=>hnF (e ▸ hc)
 refine ⟨⟨?_,?_,?_,?_,fun g cs hg=>(hH.gl g cs hg).mono (fun _ _ h=>h) (fun _ h=>h) hFw⟩,⟨fun _ _ h=>h,fun _ h=>h,by omega,?_,?_,Nat.le_refl _,fun _ _ _ h=>h,fun b L h=>.inl ⟨b,L,h,rfl⟩,?_,?_,ht,hos,hout⟩⟩
 ·intro b' L' h; rw [hsz]; exact hH.dom b' L' h
 ·intro c hc; rw [hsz]; exact hH.fb c hc
 ·intro b' e' h
  rw [Heap.get_put] at h
  split at h
  ·rename_i eb; subst eb; cases h; exact ⟨L,hL,he hFw⟩
  ·rename_i eb
   obtain ⟨L',hL',hE⟩:=hH.ent b' e' h
   refine ⟨L',hL',hE.mono (fun _ _ h=>h) (fun _ h=>h) hFw (hoth _ fun e=>eb ?_) (fun hr=>hE.notF hr)⟩
   exact hH.inj b' b e' e0 L' L h hb hL' hL e
 ·intro b1 b2 e1 e2 L1 L2 h1 h2 hL1 hL2 hblk
  rw [Heap.get_put] at h1 h2
  have g1:∃ e,H.get b1=some e:=by
   split at h1; · rename_i eb; subst eb; exact ⟨_,hb⟩
   ·exact ⟨_,h1⟩
  have g2:∃ e,H.get b2=some e:=by
   split at h2; · rename_i eb; subst eb; exact ⟨_,hb⟩
   ·exact ⟨_,h2⟩
  obtain ⟨f1,g1⟩:=g1
  obtain ⟨f2,g2⟩:=g2
  exact hH.inj b1 b2 f1 f2 L1 L2 g1 g2 hL1 hL2 hblk
 ·intro c hc hn
  exact hoth c fun e=>hn b L ⟨e0,hb,hr⟩ hL e.symm
 ·intro b' L' ⟨e',h,hr'⟩ hL'
  rw [Heap.get_put] at h
  split at h
  ·rename_i eb; subst eb; exact .inr ⟨_,L',⟨e0,hb,hr⟩,hL',rfl⟩
  ·exact .inr ⟨b',L',⟨e',h,hr'⟩,hL',rfl⟩
 ·intro x e' h _ _
  rw [Heap.get_put] at h
  split at h
  ·rename_i eb; subst eb; exact ⟨_,hb⟩
  ·exact ⟨_,h⟩
 ·intro x e' L' h hL'
  rw [Heap.get_put] at h
  split at h
  ·rename_i eb; subst eb; exact .inr ⟨_,_,L',hb,hL',rfl⟩
  ·exact .inr ⟨x,e',L',h,hL',rfl⟩
theorem ob (hH:HR P μ F H w) (b:Nat):HR P μ F (H.kill b) w/\Stp I P μ F H w μ F (H.kill b) w:=by
 have hg:∀ x e,(H.kill b).get x=some e->H.get x=some e:=by
  intro x e h
  rw [Heap.get_kill] at h
  split at h
  ·cases h
  ·exact h
 refine ⟨⟨hH.dom,hH.fb,fun x e h=>hH.ent x e (hg x e h),fun x y e1 e2 L L' h1 h2=>hH.inj x y e1 e2 L L' (hg _ _ h1) (hg _ _ h2),hH.gl⟩,⟨fun _ _ h=>h,fun _ h=>h,Nat.le_refl _,fun _ _ _=>rfl,?_,Nat.le_refl _,fun _ _ _ h=>h,fun b L h=>.inl ⟨b,L,h,rfl⟩,fun x e h _ _=>⟨e,hg x e h⟩,fun x e L h hL=>.inr ⟨x,e,L,hg x e h,hL,rfl⟩,Tp.same rfl rfl,rfl,rfl⟩⟩
 intro x L ⟨e,h,hr⟩ hL
 exact .inr ⟨x,L,⟨e,hg x e h,hr⟩,hL,rfl⟩
theorem qj (hH:HR P μ F H w) {b id:Nat} {L:oZ} {e0:Ent} (hb:H.get b=some e0) (hL:μ b=some L) (hid:μ id=none) (hlt:id<H.next) (hI:I id) :
  HR P (μ.upd id L) F ((H.kill b).put id e0) w/\Stp I P μ F H w (μ.upd id L) F ((H.kill b).put id e0) w:=by
 have hne:b≠id:=fun e=>by subst e; rw [hL] at hid; cases hid
 obtain ⟨L0,hL0,hE0⟩:=hH.ent b e0 hb
 rw [hL] at hL0; cases hL0
 have hg:∀ x e,x≠id->((H.kill b).put id e0).get x=some e->H.get x=some e/\x≠b:=by
  intro x e hx h
  rw [Heap.get_put,if_neg hx,Heap.get_kill] at h
  split at h
  ·cases h
  ·rename_i hb'; exact ⟨h,hb'⟩
 refine ⟨⟨?_,hH.fb,?_,?_,fun g cs hg=>(hH.gl g cs hg).mono (dU hid) (fun _ h=>h) (fun _ _=>rfl)⟩,⟨dU hid,fun _ h=>h,Nat.le_refl _,fun _ _ _=>rfl,?_,Nat.le_refl _,?_,?_,?_,?_,Tp.same rfl rfl,rfl,rfl⟩⟩
 ·intro x M hx
  by_cases e:x=id
  ·subst e; simp at hx; subst hx; exact ⟨hlt,(hH.dom b L hL).2⟩
  ·rw [aZ _ e] at hx; exact hH.dom x M hx
 ·intro x e h
  by_cases ex:x=id
  ·subst ex
   rw [Heap.get_put,if_pos rfl] at h; cases h
   exact ⟨L,upd_same _ _,hE0.mono (dU hid) (fun _ h=>h) (fun _ _=>rfl) rfl (fun hr=>hE0.notF hr)⟩
  ·obtain ⟨h',_⟩:=hg x e ex h
   obtain ⟨M,hM,hE⟩:=hH.ent x e h'
   exact ⟨M,dU hid _ _ hM,hE.mono (dU hid) (fun _ h=>h) (fun _ _=>rfl) rfl (fun hr=>hE.notF hr)⟩
 ·intro x y e1 e2 M M' h1 h2 hM hM' hblk
  by_cases ex:x=id
  ·by_cases ey:y=id
   ·rw [ex,ey]
   ·subst ex
    simp at hM; subst hM
    obtain ⟨h2',hyb⟩:=hg y e2 ey h2
    rw [aZ _ ey] at hM'
    exact absurd (hH.inj y b e2 e0 M' L h2' hb hM' hL hblk.symm) hyb
  ·obtain ⟨h1',hxb⟩:=hg x e1 ex h1
   rw [aZ _ ex] at hM
   by_cases ey:y=id
   ·subst ey
    simp at hM'; subst hM'
    exact absurd (hH.inj x b e1 e0 M L h1' hb hM hL hblk) hxb
   ·obtain ⟨h2',hyb⟩:=hg y e2 ey h2
    rw [aZ _ ey] at hM'
    exact hH.inj x y e1 e2 M M' h1' h2' hM hM' hblk
 ·intro x M ⟨e,h,hr⟩ hM
  by_cases ex:x=id
  ·subst ex
   rw [Heap.get_put,if_pos rfl] at h; cases h
   simp at hM; subst hM
   exact .inr ⟨b,L,⟨e0,hb,hr⟩,hL,rfl⟩
  ·obtain ⟨h',_⟩:=hg x e ex h
   rw [aZ _ ex] at hM
   exact .inr ⟨x,M,⟨e,h',hr⟩,hM,rfl⟩
 ·intro x hx hi hn
  have:x≠id:=fun e0=>hi (e0 ▸ hI)
  rw [aZ _ this]; exact hn
 ·intro x M hM
  by_cases e0:x=id
  ·subst e0; simp at hM; subst hM; exact .inl ⟨b,_,hL,rfl⟩
  ·rw [aZ _ e0] at hM; exact .inl ⟨x,M,hM,rfl⟩
 ·intro x e h _ hi
  exact ⟨e,(hg x e (fun e0=>hi (e0 ▸ hI)) h).1⟩
 ·intro x e M h hM
  by_cases e1:x=id
  ·subst e1; simp at hM; subst hM; exact .inr ⟨b,e0,_,hb,hL,rfl⟩
  ·rw [aZ _ e1] at hM; exact .inr ⟨x,e,M,(hg x e e1 h).1,hM,rfl⟩
end
end Go.Proofs.Ytekmejlgocineaa.Ev
