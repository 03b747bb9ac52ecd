/- Names. -/
import Init
import Derived.WalkKit
import Derived.RangeFuncIn
import GoSem.Core.Utf8
import Derived.Laws.CopyRow
import Derived.Laws.Cells
import Derived.Laws.Entries
import Derived.Laws.Sem
import Derived.Laws.Small
import Derived.Laws.StructEq
import Derived.Laws.Cover3
import Derived.RangeFuncRecord
set_option linter.all false
namespace Go.Proofs.YtiigaeehghcjiaaGreat
def zO {P:Prop} (h:P:=by omega):P:=h
def zS {P:Prop} (h:P:=by simp; omega):P:=h
def eD:=@Option.bind_eq_some_iff
def jL:=@List.length_set
def qf:=@List.getD_eq_getElem?_getD
def zh:=@List.getElem?_eq_getElem
def BU:=@And.intro
def C6:=@Option.bind_eq_bind
def DT:=@List.mem_map
def EL:=@List.getElem_mem
def Jv:=@Nat.le_refl
def Nj:=@List.length_map
def SA:=@List.map_cons
def SO:=@List.mem_cons_of_mem
def TY:=@List.take_succ_eq_append_getElem
def Ud:=@List.cons.injEq
def WE:=@Option.map_eq_some_iff
def WF:=@List.map_nil
def WG:=@Nat.zero_le
def WH:=@List.mem_cons_self
def WI:=@List.getElem?_eq_some_iff
def WJ:=@Nat.mul_le_mul_right
def WK:=@Nat.le_trans
def WL:=@List.mem_singleton
def WM:=@List.length_append
def WN:=@List.mem_of_getElem?
def WO:=@List.mem_filter
def WP:=@Nat.lt_of_lt_of_le
def WQ:=@List.mem_append
def WR:=@Nat.mul_comm
def WS:=@List.take_of_length_le
def WT:=@List.all_eq_true
def WU:=@List.length_take
def WV:=@List.mem_cons
def WW:=@List.getElem?_take
def WX:=@List.getElem?_drop
def WY:=@Nat.div_lt_iff_lt_mul
def WZ:=@List.take_length
def W0:=@Classical.byContradiction
def W2:=@Int.mul_eq_zero
def W3:=@Nat.le_add_right
def W4:=@List.getElem?_append_left
def W5:=@List.length_cons
def W6:=@Bool.and_eq_true
def W7:=@List.any_eq_true
def W8:=@Nat.pow_le_pow_right
def W9:=@List.mem_of_mem_eraseIdx
def Xa:=@List.getElem?_eq_none
def Xb:=@Option.some.injEq
def Xc:=@Nat.pow_succ
def Xd:=@List.map_append
def Xe:=@List.getElem?_of_mem
def Xf:=@Nat.mod_eq_of_lt
def Xg:=@Nat.zero_add
def Xh:=@Nat.pow_pos
def Xi:=@Int.mul_nonneg
def Xj:=@Nat.mul_assoc
def Xk:=@List.pairwise_iff_getElem
def Xl:=@List.eq_nil_of_length_eq_zero
def Xm:=@List.getElem?_append_right
def Xn:=@List.findIdx?_eq_some_iff_getElem
def Xo:=@Bool.eq_iff_iff
def Xp:=@Nat.mod_lt
def Xq:=@List.getElem?_map
def Xr:=@Option.bind_some
def Xs:=@Bool.false_eq_true
def Xt:=@List.replicate_succ
def Xu:=@List.pairwise_map
def Xv:=@List.getElem?_replicate
def Xw:=@Nat.pow_add
def Xx:=@List.append_nil
def Xy:=@Nat.mul_add
def Xz:=@Nat.add_assoc
def XA:=@Bool.not_eq_true'
def XB:=@Array.getElem?_eq_some_iff
def XC:=@List.mem_range
def XD:=@Nat.lt_of_le_of_lt
def XE:=@Nat.div_div_eq_div_mul
def XF:=@List.length_drop
def XG:=@Option.getD_some
def XH:=@List.getElem_of_mem
def XI:=@Nat.add_mul
def XJ:=@Nat.min_eq_left
def XK:=@List.mem_append_left
def XL:=@Nat.div_add_mod
def XM:=@List.length_eq_zero_iff
def XN:=@Array.getElem?_eq_getElem
def XO:=@List.length_filter_le
def XP:=@Nat.mul_one
def XQ:=@List.filter_append
def XS:=@List.nil_append
def XT:=@Array.getElem?_append_left
def XU:=@List.take_append_of_le_length
def XV:=@List.any_eq_false
def XW:=@List.getElem?_cons_zero
def XX:=@Option.getD_none
def XY:=@Option.map_some
def XZ:=@List.length_nil
def X0:=@List.map_congr_left
def X1:=@List.ext_getElem
def X2:=@Option.map_none
def X3:=@Nat.mul_le_mul
def Ya:=@List.getElem?_toArray
def Yb:=@List.mem_append_right
def Yc:=@List.getElem?_cons_succ
def Yd:=@List.mapM_cons
def Ye:=@Nat.add_zero
def Yf:=@List.append_assoc
def Yg:=@List.ext_getElem?
def Yh:=@Int.mul_pos
def Yi:=@List.pairwise_append
def Yj:=@List.eraseIdx_eq_take_drop_succ
def Yk:=@Nat.succ_mul
def Yl:=@List.getD_cons_succ
def Ym:=@List.foldl_cons
def Yn:=@List.cons_append
def Yo:=@Int.toNat_natCast
def Yp:=@List.pairwise_cons
def Yq:=@Bool.or_eq_true
def Yr:=@List.countP_eq_length_filter
def Ys:=@Nat.div_eq_of_lt
def Yt:=@List.mem_map_of_mem
def Yu:=@List.length_replicate
def Yv:=@List.contains_iff_mem
def Yw:=@List.map_map
def Yx:=@Nat.le_of_lt
def Yy:=@Int.le_refl
def Yz:=@Bool.or_eq_false_iff
def YA:=@Int.le_of_lt
def YB:=@Int.nonneg_of_mul_nonneg_right
def YC:=@Nat.pow_le_pow_left
def YD:=@Array.getElem?_modify
def YE:=@List.eq_nil_or_concat
def YF:=@List.concat_eq_append
def YG:=@Nat.eq_zero_or_pos
def YH:=@Nat.add_sub_cancel
def YI:=@List.filter_cons
def YJ:=@List.mem_of_mem_take
def YK:=@Nat.mul_lt_mul_of_pos_right
def YL:=@List.set_eq_take_append_cons_drop
def YM:=@Array.size_append
def YN:=@Nat.eq_of_mul_eq_mul_right
def YO:=@List.take_take
def YP:=@List.getElem?_set
def YQ:=@List.drop_eq_nil_of_le
def YR:=@Nat.mul_le_mul_left
def YS:=@Option.pure_def
def YT:=@Nat.le_antisymm
def YU:=@List.findIdx?_eq_none_iff
def YV:=@Nat.le_of_not_lt
def YW:=@Int.natAbs_natCast
def YX:=@List.Pairwise.imp_of_mem
def YY:=@List.Pairwise.filter
def YZ:=@List.mem_of_mem_drop
def Y0:=@List.getElem?_set_self'
def Y1:=@Nat.lt_trichotomy
def Y2:=@List.size_toArray
def Y3:=@List.nodup_cons
def Y4:=@Nat.div_le_self
def Y5:=@List.getD_cons_zero
def Y6:=@List.take_zero
def Y7:=@Nat.add_mul_mod_self_left
def Y8:=@List.getElem_append_right
def Y9:=@List.getElem?_set_ne
def Za:=@Nat.le_of_eq
def Zb:=@Nat.add_comm
def Zc:=@List.flatten_cons
def Zd:=@List.map_set
def Ze:=@Nat.le_of_lt_succ
def Zf:=@Nat.mul_zero
def Zg:=@List.length_eq_countP_add_countP
def Zh:=@Array.length_toList
def Zi:=@Array.getElem?_push
def Zj:=@List.getElem?_range
def Zk:=@Array.eq_empty_of_size_eq_zero
def Zl:=@Nat.add_sub_cancel_left
def Zm:=@Int.eq_ofNat_of_zero_le
def Zn:=@List.getElem_map
def Zo:=@List.mem_eraseIdx_iff_getElem?
def Zp:=@Nat.one_mul
def Zq:=@List.map_id
def Zr:=@Array.getElem?_eq_none
def Zs:=@Nat.mul_right_comm
def Zt:=@Nat.pow_zero
def Zu:=@List.filter_nil
def Zv:=@List.sum_cons
def Zw:=@Int.natAbs_dvd_natAbs
def Zx:=@List.foldl_append
def Zy:=@Array.toList_setIfInBounds
def Zz:=@Int.natAbs_neg
def ZA:=@Int.tdiv_eq_ediv_of_nonneg
def ZB:=@Nat.pow_lt_pow_right
def ZC:=@Nat.pow_mul
def ZD:=@Nat.le_sub_one_of_lt
def ZE:=@List.length_eraseIdx_of_lt
def ZF:=@Nat.sub_self
def ZG:=@Nat.lt_succ_self
def ZH:=@Nat.div_add_mod'
def ZI:=@Int.mul_zero
def ZJ:=@Bool.not_true
def ZK:=@Option.isSome_iff_exists
def ZL:=@List.eq_of_mem_replicate
def ZM:=@List.Perm.eq_of_pairwise
def ZN:=@List.getElem_append_left
def ZO:=@Int.ofNat_dvd_left
def ZP:=@List.filter_cons_of_pos
def ZQ:=@List.filter_cons_of_neg
def ZR:=@Nat.zero_mul
def ZS:=@Nat.sub_zero
def ZT:=@Array.toList_push
def ZU:=@List.pairwise_lt_range
def ZV:=@List.filter_congr
def ZW:=@Nat.mul_left_comm
def ZX:=@Int.natAbs_mul
def ZY:=@Int.natAbs_add_le
def ZZ:=@Iff.rfl
def Z0:=@Classical.not_not
def Z1:=@List.getElem_cons_zero
def Z2:=@List.findIdx_lt_length_of_exists
def Z3:=@Nat.le_of_ble_eq_true
def Z4:=@Array.getElem?_toList
def Z5:=@List.length_mergeSort
def Z6:=@List.take_append_drop
def Z7:=@Nat.le_div_iff_mul_le
def Z8:=@Nat.mul_div_mul_right
def Z9:=@Nat.add_mul_div_right
end Go.Proofs.YtiigaeehghcjiaaGreat
namespace Go.Proofs.YtiigaeehghcjiaaGreat.Ev
open Go
inductive AV where
 | undef
 | bool (b:Bool)
 | int (k:IntKind) (n:Int)
 | str (s:ByteArray)
 | nilPtr | nilSl | nilFn | nilIf | nilMap
 | agg (cs:List AV)
 | tup (vs:List AV)
 | sl (cells:List AV) (n:Nat)
 | dp (cells:List AV) (off:Nat)
 | own (b off n c sz:Nat) (ex:Bool)
 | ptr (b off:Nat)
 | fn (f:Fn) (first captured:List AV)
 | ifc (t:Nat) (v:AV)
 | map (b:Nat)
 | loopv (b:Nat)
 deriving Inhabited
inductive Src where
 | t (n:Nat)
 | c (v:AV)
 deriving Inhabited
inductive BK where
 | int | bool | str | sl | ifc
 deriving Inhabited
inductive AOp where
 | mv (x:Src)
 | pick (c a b:Src)
 | alloc (ty:Nat) (zero:List AV)
 | box (ty:Nat) (x:Src)
 | build (zero:List AV) (parts:List ((Nat × Nat) × Src))
 | buildSlice (ty size:Nat) (zeros:List AV) (len:Nat) (parts:List ((Nat × Nat) × Src))
 | load (k:Option Nat) (x:Src)
 | store (n:Nat) (x v:Src)
 | nilCheck (x:Src)
 | bin (op:BinOp) (kd:BK) (x y:Src)
 | eqAgg (neg:Bool) (n:Nat) (x y:Src)
 | un (op:UnOp) (x:Src)
 | conv (k:IntKind) (x:Src)
 | strId (x:Src)
 | iface (ty:Nat) (x:Src)
 | mkfn (fn:Fn) (first captured:List Src)
 | mkmap
 | mksl (ty size bytes:Nat) (zero:List AV) (l c:Src)
 | slice (size:Nat) (x:Src) (lo hi mx:Option Src)
 | sliceStr (x:Src) (lo hi:Option Src)
 | fieldAddr (off:Nat) (x:Src)
 | field (k:Option Nat) (off:Nat) (x:Src)
 | indexAddr (size:Nat) (x i:Src)
 | indexAgg (len size:Nat) (k:Option Nat) (x i:Src)
 | indexStr (x i:Src)
 | lookup (kd:BK) (zero:AV) (x i:Src) (ok:Bool)
 | mapUpd (kd:BK) (m k v:Src)
 | extract (i:Nat) (x:Src)
 | len (x:Src)
 | lenStr (x:Src)
 | lenMap (x:Src)
 | cap (x:Src)
 | min (xs:List Src)
 | max (xs:List Src)
 | append (size bytes ty:Nat) (zero:List AV) (x y:Src)
 | appendZ (size bytes ty:Nat) (zero:List AV) (x y:Src)
 | clear (size:Nat) (zero:List AV) (x:Src)
 | copy (size:Nat) (x y:Src)
 | toStr (x:Src)
 | toBytes (ty:Nat) (x:Src)
 | tassert (t:Nat) (zero:AV) (ok:Bool) (x:Src)
 | indexArr (len size:Nat) (x i:Src)
 | globIdx (cs:List AV) (len size:Nat) (i:Src)
 | globLoad (k:Option Nat) (cs:List AV)
 | rangeS (x:Src)
 | nextS (x:Src)
 | bad
 | call (f:Src) (args:List Src)
 | panic (x:Src)
 deriving Inhabited
structure EZ where
 dst:Option Nat
 op:AOp
 guard:Option (Nat × Bool)
 deriving Inhabited
structure ke where
 dst:Option Nat
 op:AOp
 guard:Option (Nat × Bool)
 uses:List (Nat × Option Nat)
 cls:Nat
 looks:List (Nat × List Nat)
 deriving Inhabited
inductive ACode where
 | skip
 | region (ops:List EZ)
 | draw (ops:List ke) (late:List Nat)
 | seq (a b:ACode)
 | cond (c:Src) (thn els:ACode)
 | block (id:Nat) (body:ACode)
 | loop (body:ACode)
 | rangeFunc (f:Src) (params:List Nat) (assign body:ACode)
 | exit (id:Nat)
 | goto (l:Nat)
 | ret
 | scope (a:ACode)
 | drawF (ds:List ke) (late:List Nat) (last:ke) (mid:List Nat)
 | rangeM (pre:List EZ) (x:Src) (it nx ex bid bid2 en:Nat) (ops:List EZ) (rest:ACode) (W:List Nat)
 | scopeL (a:ACode) (l:Nat) (rest:ACode)
 deriving Inhabited
inductive Ent where
 | cells (cs:List AV) (ty:Nat) (rw:Bool)
 | map (es:List (AV × AV))
 | loop (T:List AV) (params:List Nat) (assign body:ACode) (state:LoopState) (pending:Option ACode)
 | siter (s:ByteArray) (pos:Nat)
 | mapR (es:List (AV × AV))
 deriving Inhabited
def Ent.ro:Ent->Option Ent
 | .cells cs ty _=>some (.cells cs ty false)
 | .map es=>some (.mapR es)
 | .mapR es=>some (.mapR es)
 | .loop ..=>none
 | .siter ..=>none
mutual
def AV.beq:AV->AV->Bool
 | .undef,.undef=>true
 | .bool a,.bool b=>a == b
 | .int j a,.int k b=>decide (j=k) && decide (a=b)
 | .str a,.str b=>decide (a=b)
 | .nilPtr,.nilPtr=>true
 | .nilSl,.nilSl=>true
 | .nilFn,.nilFn=>true
 | .nilIf,.nilIf=>true
 | .nilMap,.nilMap=>true
 | .agg a,.agg b=>AV.beqs a b
 | .tup a,.tup b=>AV.beqs a b
 | .sl a n,.sl b m=>AV.beqs a b && n == m
 | .dp a n,.dp b m=>AV.beqs a b && n == m
 | .own a b c d e f,.own a' b' h i e' g=>a == a' && b == b' && c == h && d == i && e == e' && f == g
 | .ptr a b,.ptr a' b'=>a == a' && b == b'
 | .fn f a b,.fn g a' b'=>decide (f=g) && AV.beqs a a' && AV.beqs b b'
 | .ifc t v,.ifc l o=>t == l && AV.beq v o
 | .map b,.map b'=>b == b'
 | .loopv b,.loopv b'=>b == b'
 | _,_=>false
def AV.beqs:List AV->List AV->Bool
 | [],[]=>true
 | a :: as,b :: bs=>AV.beq a b && AV.beqs as bs
 | _,_=>false
end
structure Q (α:Type) where
 a:α
 b:α
 c:α
 d:α
 e:α
 f:α
 g:α
 h:α
 deriving Inhabited
inductive D8 where
 | d0 | d1 | d2 | d3 | d4 | d5 | d6 | d7
 deriving DecidableEq
def D8.of (n:Nat):D8 :=
 Bool.casesOn (motive:=fun _=>D8) (Nat.beq (Nat.mod (Nat.div n 4) 2) 1)
  (Bool.casesOn (motive:=fun _=>D8) (Nat.beq (Nat.mod (Nat.div n 2) 2) 1) (Bool.casesOn (motive:=fun _=>D8) (Nat.beq (Nat.mod n 2) 1) .d0 .d1) (Bool.casesOn (motive:=fun _=>D8) (Nat.beq (Nat.mod n 2) 1) .d2 .d3))
  (Bool.casesOn (motive:=fun _=>D8) (Nat.beq (Nat.mod (Nat.div n 2) 2) 1) (Bool.casesOn (motive:=fun _=>D8) (Nat.beq (Nat.mod n 2) 1) .d4 .d5) (Bool.casesOn (motive:=fun _=>D8) (Nat.beq (Nat.mod n 2) 1) .d6 .d7))
def Q.at {α:Type} (d:D8):Q α->α:=D8.casesOn (motive:=fun _=>Q α->α) d Q.a Q.b Q.c Q.d Q.e Q.f Q.g Q.h
def Q.ua {α:Type} (u:α->α) (q:Q α):Q α:=Q.casesOn (motive:=fun _=>Q α) q fun a b c d e f g h=>⟨u a,b,c,d,e,f,g,h⟩
def Q.ub {α:Type} (u:α->α) (q:Q α):Q α:=Q.casesOn (motive:=fun _=>Q α) q fun a b c d e f g h=>⟨a,u b,c,d,e,f,g,h⟩
def Q.uc {α:Type} (u:α->α) (q:Q α):Q α:=Q.casesOn (motive:=fun _=>Q α) q fun a b c d e f g h=>⟨a,b,u c,d,e,f,g,h⟩
def Q.ud {α:Type} (u:α->α) (q:Q α):Q α:=Q.casesOn (motive:=fun _=>Q α) q fun a b c d e f g h=>⟨a,b,c,u d,e,f,g,h⟩
def Q.ue {α:Type} (u:α->α) (q:Q α):Q α:=Q.casesOn (motive:=fun _=>Q α) q fun a b c d e f g h=>⟨a,b,c,d,u e,f,g,h⟩
def Q.uf {α:Type} (u:α->α) (q:Q α):Q α:=Q.casesOn (motive:=fun _=>Q α) q fun a b c d e f g h=>⟨a,b,c,d,e,u f,g,h⟩
def Q.ug {α:Type} (u:α->α) (q:Q α):Q α:=Q.casesOn (motive:=fun _=>Q α) q fun a b c d e f g h=>⟨a,b,c,d,e,f,u g,h⟩
def Q.uh {α:Type} (u:α->α) (q:Q α):Q α:=Q.casesOn (motive:=fun _=>Q α) q fun a b c d e f g h=>⟨a,b,c,d,e,f,g,u h⟩
def Q.up {α:Type} (d:D8):(α->α)->Q α->Q α:=D8.casesOn (motive:=fun _=>(α->α)->Q α->Q α) d Q.ua Q.ub Q.uc Q.ud Q.ue Q.uf Q.ug Q.uh
def Q.all {α:Type} (x:α):Q α:=⟨x,x,x,x,x,x,x,x⟩
structure Tr where
 t:Q (Q (Q (Q (Q (Q (Q (Q (Option Ent))))))))
 big:List (Nat × Option Ent)
 deriving Inhabited
def Tr.nil:Tr:=⟨.all (.all (.all (.all (.all (.all (.all (.all none))))))),[]⟩
def IR:List (Nat × Option Ent)->Nat->Option Ent
 | [],_=>none
 | (k,e) :: l,n=>if n=k then e else IR l n
def Tr.get (T:Tr) (n:Nat):Option Ent :=
 Bool.casesOn (motive:=fun _=>Option Ent) (Nat.ble n 16777215) (IR T.big n)
  (Q.at (D8.of n) (Q.at (D8.of (Nat.div n 8)) (Q.at (D8.of (Nat.div n 64)) (Q.at (D8.of (Nat.div n 512)) (Q.at (D8.of (Nat.div n 4096)) (Q.at (D8.of (Nat.div n 32768)) (Q.at (D8.of (Nat.div n 262144)) (Q.at (D8.of (Nat.div n 2097152)) T.t))))))))
def Tr.set (T:Tr) (n:Nat) (e:Option Ent):Tr :=
 Bool.casesOn (motive:=fun _=>Tr) (Nat.ble n 16777215) ⟨T.t,(n,e) :: T.big⟩
  ⟨Q.up (D8.of (Nat.div n 2097152)) (Q.up (D8.of (Nat.div n 262144)) (Q.up (D8.of (Nat.div n 32768)) (Q.up (D8.of (Nat.div n 4096)) (Q.up (D8.of (Nat.div n 512)) (Q.up (D8.of (Nat.div n 64)) (Q.up (D8.of (Nat.div n 8)) (Q.up (D8.of n) (fun _=>e)))))))) T.t,T.big⟩
structure Heap where
 next:Nat
 tr:Tr
 lim:Nat
 ovr:List (Nat × Option Ent)
 deriving Inhabited
def Mt (o:Option Ent):Option Ent:=Option.casesOn (motive:=fun _=>Option Ent) o none Ent.ro
def mV (d:Option Ent) (b:Nat):List (Nat × Option Ent)->Option Ent
 | []=>d
 | (k,e) :: l=>if b=k then e else mV d b l
def Heap.get (H:Heap) (b:Nat):Option Ent:=Bool.casesOn (motive:=fun _=>Option Ent) (Nat.ble (Nat.succ b) H.lim) (H.tr.get b) (mV (Mt (H.tr.get b)) b H.ovr)
def Heap.setO (H:Heap) (b:Nat) (o:Option Ent):Heap:=⟨H.next,Bool.casesOn (motive:=fun _=>Tr) (Nat.ble (Nat.succ b) H.lim) (H.tr.set b o) H.tr,H.lim,Bool.casesOn (motive:=fun _=>List (Nat × Option Ent)) (Nat.ble (Nat.succ b) H.lim) H.ovr ((b,o) :: H.ovr)⟩
def Heap.put (H:Heap) (b:Nat) (e:Ent):Heap:=H.setO b (some e)
def Heap.kill (H:Heap) (b:Nat):Heap:=H.setO b none
def Heap.nil (n:Nat):Heap:=⟨n,Tr.nil,0,[]⟩
def Heap.ro (H:Heap):Heap:=⟨H.next,H.tr,Nat.max H.next H.lim,(H.ovr.filter fun p=>decide (p.1<H.lim)).map fun p=>(p.1,Mt p.2)⟩
abbrev Tm:=List AV
def ad (T:Tm) (n:Nat):AV:=T.getD n .undef
def Src.ev (T:Tm):Src->AV
 | .t n=>ad T n
 | .c v=>v
def putT (T:Tm) (d:Option Nat) (v:AV):Tm :=
 match d with
 | some d=>T.set d v
 | none=>T
def AV.cells:AV->List AV
 | .agg cs=>cs
 | v=>[v]
def AV.one:AV->Bool
 | .agg _ | .tup _ | .undef=>false
 | _=>true
def cP:List AV->List ((Nat × Nat) × AV)->Option (List AV)
 | cs,[]=>some cs
 | cs,((off,size),v) :: rest =>
  let a:=v.cells
  if a.length=size/\off+size<=cs.length/\a.all AV.one=true then cP (cs.take off++a++cs.drop (off+size)) rest else none
def qm (v:AV):Option Nat :=
 match v with
 | .int _ (.ofNat n)=>some n
 | _=>none
def bN (cs:List AV) (off:Nat):Option Nat->Option AV
 | none=>cs[off]?
 | some n=>if off+n<=cs.length then some (.agg ((cs.drop off).take n)) else none
def lX (op:BinOp) (k:IntKind) (x y:Int):Option AV :=
 match op with
 | .add=>some (.int k (k.wrap (x+y)))
 | .sub=>some (.int k (k.wrap (x-y)))
 | .mul=>some (.int k (k.wrap (x*y)))
 | .quo=>if y=0 then none else some (.int k (k.wrap (x.tdiv y)))
 | .rem=>if y=0 then none else some (.int k (x.tmod y))
 | .and=>some (.int k (k.wrap (BitVec.ofInt k.bits x &&& BitVec.ofInt k.bits y).toNat))
 | .or=>some (.int k (k.wrap (BitVec.ofInt k.bits x ||| BitVec.ofInt k.bits y).toNat))
 | .xor=>some (.int k (k.wrap (BitVec.ofInt k.bits x ^^^ BitVec.ofInt k.bits y).toNat))
 | .andNot=>some (.int k (k.wrap (BitVec.ofInt k.bits x &&& ~~~ (BitVec.ofInt k.bits y)).toNat))
 | .eql=>some (.bool (x == y))
 | .neq=>some (.bool (x != y))
 | .lss=>some (.bool (decide (x<y)))
 | .leq=>some (.bool (decide (x<=y)))
 | .gtr=>some (.bool (decide (x > y)))
 | .geq=>some (.bool (decide (x ≥ y)))
 | _=>none
def lP (op:BinOp) (k:IntKind) (x y:Int):Option AV :=
 if y<0 then none else
 match op with
 | .shl=>some (.int k (k.wrap (x*2^(Nat.min y.toNat k.bits))))
 | .shr=>some (.int k (x.fdiv (2^(Nat.min y.toNat k.bits))))
 | _=>none
def zg:AV->Option Bool
 | .nilSl=>some true
 | .own ..=>some false
 | .sl ..=>some false
 | _=>none
def HW:AV->AV->Option Bool
 | .nilIf,.nilIf=>some true
 | .nilIf,.ifc _ _=>some false
 | .ifc _ _,.nilIf=>some false
 | _,_=>none
def b7 (op:BinOp) (kd:BK) (x y:AV):Option AV :=
 match kd,x,y with
 | .int,.int k a,.int c b =>
  match op with
  | .shl=>lP .shl k a b
  | .shr=>lP .shr k a b
  | op=>if k=c then lX op k a b else none
 | .bool,.bool a,.bool b =>
  match op with
  | .eql=>some (.bool (a == b))
  | .neq=>some (.bool (!(a == b)))
  | _=>none
 | .str,.str a,.str b =>
  match op with
  | .eql=>some (.bool (a.toList == b.toList))
  | .neq=>some (.bool (!(a.toList == b.toList)))
  | .add=>if ((a.size+b.size:Nat):Int) > IntKind.i64.max then none else some (.str (a++b))
  | _=>none
 | .sl,x,.nilSl =>
  match op with
  | .eql=>(zg x).map .bool
  | .neq=>(zg x).map fun b=>.bool !b
  | _=>none
 | .ifc,x,y=>match op with
  | .eql=>(HW x y).map .bool
  | .neq=>(HW x y).map fun b=>.bool !b
  | _=>none
 | _,_,_=>none
def Gj:List AV->List AV->Option Bool
 | [.bool a,.bool b],[.bool c,.bool d]=>some (a == c && b == d)
 | _,_=>none
def rD:Nat->List AV->List AV->Option Bool
 | 0,[],[]=>some true
 | n+1,.int k a :: as,.int c b :: bs=>if k=c then (rD n as bs).map fun r=>a == b && r else none
 | _,_,_=>none
def Sa (op:UnOp) (x:AV):Option AV :=
 match op,x with
 | .neg,.int k n=>some (.int k (k.wrap (0-n)))
 | .xor,.int k n=>some (.int k (k.wrap (BitVec.ofInt k.bits (if k.signed then -1 else k.max) ^^^ BitVec.ofInt k.bits n).toNat))
 | .not,.bool b=>some (.bool !b)
 | _,_=>none
def bA (size:Nat) (x:AV) (lo hi mx:Option AV):Option AV :=
 match x with
 | .own b off n c sz ex =>
  if sz≠size then none else
  match mx,hi,lo with
  | some m,some h,lo=>do
   let m <- qm m; let h <- qm h; let l <- (lo.map qm).getD (some 0)
   if m<=c/\h<=m/\l<=h then (if m=l then some (.own b off (h-l) 0 sz true) else some (.own b (off+l*size) (h-l) (m-l) sz true)) else none
  | none,hi,lo=>do
   let h <- (hi.map qm).getD (some n); let l <- (lo.map qm).getD (some 0)
   if h<=c/\l<=h then
    (if l<c\/l=0 then some (.own b (off+l*size) (h-l) (c-l) sz ex) else if ex=true then some (.own b off (h-l) (c-l) sz true) else some (.sl [] 0))
   else none
  | _,_,_=>none
 | .sl cs n =>
  match mx,hi,lo with
  | none,hi,lo=>do
   let h <- (hi.map qm).getD (some n); let l <- (lo.map qm).getD (some 0)
   if h<=n/\l<=h/\h*size<=cs.length then some (.sl ((cs.drop (l*size)).take ((h-l)*size)) (h-l)) else none
  | some m,some h,lo=>do
   let m <- qm m; let h <- qm h; let l <- (lo.map qm).getD (some 0)
   if m<=n/\h<=m/\l<=h/\h*size<=cs.length then some (.sl ((cs.drop (l*size)).take ((h-l)*size)) (h-l)) else none
  | _,_,_=>none
 | .nilSl =>
  match mx,hi with
  | some m,some h=>if qm m=some 0/\qm h=some 0/\(lo.map qm).getD (some 0)=some 0 then some .nilSl else none
  | none,hi=>if (hi.map qm).getD (some 0)=some 0/\(lo.map qm).getD (some 0)=some 0 then some .nilSl else none
  | _,_=>none
 | .str s =>
  match mx with
  | none=>do
   let h <- (hi.map qm).getD (some s.size); let l <- (lo.map qm).getD (some 0)
   if h<=s.size && l<=h then some (.str (s.extract l h)) else none
  | some _=>none
 | _=>none
def Jx:AV->AV->Option AV
 | .int k x,.int _ y=>some (.int k (if y<x then y else x))
 | _,_=>none
def Jy:AV->AV->Option AV
 | .int k x,.int _ y=>some (.int k (if y > x then y else x))
 | _,_=>none
def aT (ev:Src->AV):AOp->Option AV
 | .mv x=>some (ev x)
 | .pick c a b=>match ev c with | .bool t=>some (if t then ev a else ev b) | _=>none
 | .build zero parts=>do
  let cs <- cP zero (parts.map fun p=>(p.1,ev p.2))
  some (.agg cs)
 | .nilCheck x=>match ev x with
  | .ptr b o=>some (.ptr b o)
  | .dp cs o=>some (.dp cs o)
  | .fn (.func f) a c=>some (.fn (.func f) a c)
  | .loopv b=>some (.loopv b)
  | _=>none
 | .bin op kd x y=>b7 op kd (ev x) (ev y)
 | .eqAgg neg n x y=>match ev x,ev y with
  | .agg a,.agg b=>(match n with | 0=>Gj a b | n+1=>rD (n+1) a b).map fun r=>.bool (if neg then !r else r)
  | _,_=>none
 | .un op x=>Sa op (ev x)
 | .conv k x=>match ev x with | .int _ n=>some (.int k (k.wrap n)) | _=>none
 | .strId x=>match ev x with | .str s=>some (.str s) | _=>none
 | .iface ty x=>match ev x with | .undef=>none | v=>some (.ifc ty v)
 | .mkfn f first cap=>some (.fn f (first.map ev) (cap.map ev))
 | .slice size x lo hi mx=>match ev x with
  | .str _=>none
  | v=>bA size v (lo.map ev) (hi.map ev) (mx.map ev)
 | .sliceStr x lo hi=>match ev x with
  | .str s=>bA 1 (.str s) (lo.map ev) (hi.map ev) none
  | _=>none
 | .fieldAddr off x=>match ev x with
  | .ptr b o=>some (.ptr b (o+off))
  | .dp cs o=>some (.dp cs (o+off))
  | _=>none
 | .field k off x=>match ev x with | .agg cs=>bN cs off k | _=>none
 | .indexAddr size x i=>do
  let i <- qm (ev i)
  match ev x with
  | .own b off n _ sz _=>if i<n/\sz=size then some (.ptr b (off+i*size)) else none
  | .sl cs n=>if i<n then some (.dp cs (i*size)) else none
  | _=>none
 | .tassert t z ok x=>match ev x with
  | .ifc d v=>if d=t then some (if ok then .tup [v,.bool true] else v) else if ok=true then some (.tup [z,.bool false]) else none
  | .nilIf=>if ok=true then some (.tup [z,.bool false]) else none
  | _=>none
 | .indexArr len size x i=>do
  let i <- qm (ev i)
  match ev x with
  | .ptr b o=>if i<len then some (.ptr b (o+i*size)) else none
  | .dp cs o=>if i<len then some (.dp cs (o+i*size)) else none
  | _=>none
 | .indexAgg len size k x i=>do
  let i <- qm (ev i)
  match ev x with
  | .agg cs=>if i<len then bN cs (i*size) k else none
  | _=>none
 | .indexStr x i=>do
  let i <- qm (ev i)
  match ev x with
  | .str s=>(s[i]?).map fun b=>.int .u8 b.toNat
  | _=>none
 | .extract i x=>match ev x with | .tup vs=>vs[i]? | _=>none
 | .len x=>match ev x with
  | .own _ _ n _ _ _=>some (.int .i64 n)
  | .sl _ n=>some (.int .i64 n)
  | .nilSl=>some (.int .i64 0)
  | _=>none
 | .lenStr x=>match ev x with
  | .str s=>some (.int .i64 s.size)
  | _=>none
 | .cap x=>match ev x with
  | .own _ _ _ c _ true=>some (.int .i64 c)
  | .nilSl=>some (.int .i64 0)
  | _=>none
 | .min xs=>match xs.map ev with
  | .int k a :: rest=>rest.foldlM Jx (AV.int k a)
  | _=>none
 | .max xs=>match xs.map ev with
  | .int k a :: rest=>rest.foldlM Jy (AV.int k a)
  | _=>none
 | _=>none
def AOp.isPure:AOp->Bool
 | .mv _ | .pick .. | .build .. | .nilCheck _ | .bin .. | .eqAgg .. | .un .. | .conv .. | .strId _ | .iface .. | .mkfn .. | .slice .. | .sliceStr .. | .fieldAddr .. | .field .. | .indexAddr .. | .indexArr .. | .tassert .. | .indexAgg .. | .indexStr .. | .extract .. | .len _ | .lenStr _ | .cap _ | .min _ | .max _=>true
 | _=>false
def i8:AV->AV->Option Bool
 | .int j a,.int k b=>if j=k then some (a == b) else none
 | .str a,.str b=>some (a == b)
 | .bool a,.bool b=>some (a == b)
 | _,_=>none
def iz:BK->AV->Bool
 | .int,.int _ _=>true
 | .str,.str _=>true
 | _,_=>false
def po (k:AV):List (AV × AV)->Option (Option AV)
 | []=>some none
 | (a,v) :: es=>match i8 k a with
  | some true=>some (some v)
  | some false=>po k es
  | none=>none
def s9 (k v:AV):List (AV × AV)->List (AV × AV)
 | []=>[(k,v)]
 | (a,b) :: es=>match i8 k a with
  | some true=>(k,v) :: es
  | _=>(a,b) :: s9 k v es
def ya (H:Heap):AV->Option (List (AV × AV))
 | .nilMap=>some []
 | .map b=>match H.get b with
  | some (.map es)=>some es
  | some (.mapR es)=>some es
  | _=>none
 | _=>none
def tt (H:Heap) (kd:BK) (zero x i:AV) (ok:Bool):Option AV :=
 if iz kd i=false then none else
 match ya H x with
 | none=>none
 | some es=>match po i es with
  | none=>none
  | some none=>some (if ok then .tup [zero,.bool false] else zero)
  | some (some v)=>some (if ok then .tup [v,.bool true] else v)
def nO (H:Heap) (kd:BK) (m k v:AV):Option Heap :=
 if iz kd k=false then none else
 match m with
 | .map b=>match H.get b with
  | some (.map es)=>match po k es with
   | none=>none
   | some _=>some (H.put b (.map (s9 k v es)))
  | _=>none
 | _=>none
def aK (H:Heap) (size n:Nat):AV->Option (List AV)
 | .own b off m _ sz _=>match H.get b with
  | some (.cells cs _ _)=>if sz=size/\n<=m/\off+n*size<=cs.length then some ((cs.drop off).take (n*size)) else none
  | _=>none
 | .sl cs m=>if n<=m/\n*size<=cs.length then some (cs.take (n*size)) else none
 | .nilSl=>if n=0 then some [] else none
 | .str s=>if n<=s.size/\size=1 then some ((s.extract 0 n).data.toList.map fun b=>.int .u8 b.toNat) else none
 | _=>none
def gJ:AV->Option Nat
 | .own _ _ n _ _ _=>some n
 | .sl _ n=>some n
 | .nilSl=>some 0
 | .str s=>some s.size
 | _=>none
def xE:List AV->ByteArray->Option ByteArray
 | [],s=>some s
 | .int .u8 k :: l,s=>xE l (s.push (UInt8.ofNat k.toNat))
 | _,_=>none
def Dr (H:Heap) (x:AV):Option ByteArray :=
 match x with
 | .str _=>none
 | x=>match gJ x with
  | none=>none
  | some n=>match aK H 1 n x with
   | none=>none
   | some cs=>xE cs .empty
def cM (H:Heap) (id size bytes ty:Nat) (x:AV) (m:Nat) (a:List AV) (fr:Option Nat):Option (AV × Heap) :=
 match x with
 | .nilSl=>if m=0 then some (.nilSl,H) else if m*bytes<=2^46/\m<2^62 then some (.own id 0 m m size false,H.put id (.cells a ty true)) else none
 | .own b off n c sz ex =>
  match H.get b with
  | some (.cells cs d rw) =>
   if sz=size/\(n+m)*bytes<=2^46/\n+m<2^62/\d=ty/\off+n*size<=cs.length then
    if n+m<=c then
     (if m=0 then some (.own b off n c sz ex,H)
      else if rw=true/\a.all AV.one=true then some (.own b off (n+m) c sz ex,H.put b (.cells (cs.take (off+n*size)++a++cs.drop (off+n*size+m*size)) ty rw)) else none)
    else if ex=true then some (.own id 0 (n+m) (n+m) size false,H.put id (.cells ((cs.drop off).take (n*size)++a) ty true))
    else if off=0/\rw=true/\fr≠some b/\a.all AV.one=true then some (.own id 0 (n+m) (n+m) size false,(H.kill b).put id (.cells (cs.take (n*size)++a) ty true))
    else none
   else none
  | _=>none
 | _=>none
def bc (H:Heap) (k:Option Nat):AV->Option AV
 | .ptr b o=>match H.get b with
  | some (.cells cs _ _)=>bN cs o k
  | _=>none
 | .dp cs o=>bN cs o k
 | _=>none
def qS (H:Heap) (n:Nat) (x v:AV):Option Heap :=
 match x with
 | .ptr b o=>match H.get b with
  | some (.cells cs ty true) =>
   if v.cells.length=n/\o+n<=cs.length/\v.cells.all AV.one=true then some (H.put b (.cells (cs.take o++v.cells++cs.drop (o+n)) ty true)) else none
  | _=>none
 | _=>none
def oP (H:Heap) (size:Nat) (zero:List AV):AV->Option Heap
 | .own b off n _ sz _=>match H.get b with
  | some (.cells cs ty true) =>
   if n=0 then some H
   else if sz=size/\off+n*size<=cs.length/\zero.length=size/\zero.all AV.one=true then some (H.put b (.cells (cs.take off++(List.replicate n zero).flatten++cs.drop (off+n*size)) ty true))
   else none
  | _=>none
 | .nilSl=>some H
 | _=>none
def OT (H:Heap) (size:Nat) (x y:AV):Option (AV × Heap) :=
 match gJ y with
 | none=>none
 | some m=>match x with
  | .own b off n _ sz _=>match aK H size (Nat.min m n) y,H.get b with
   | some a,some (.cells cs ty true) =>
    if sz=size/\off<=cs.length/\a.all AV.one=true then some (.int .i64 (Nat.min m n:Nat),H.put b (.cells (cs.take off++a++cs.drop (off+a.length)) ty true)) else none
   | _,_=>none
  | .nilSl=>match aK H size 0 y with
   | some _=>some (.int .i64 0,H)
   | none=>none
  | _=>none
def HX (H:Heap):AV->Option (AV × Heap)
 | .ptr b 0=>match H.get b with
  | some (.siter s pos)=>if pos<s.size then some (.tup [.bool true,.int .i64 pos,.int .i32 (Utf8.decode s pos).1],H.put b (.siter s (pos+(Utf8.decode s pos).2))) else some (.tup [.bool false],H)
  | _=>none
 | _=>none
def bj (ev:Src->AV) (H:Heap) (id:Nat):AOp->Option (AV × Heap)
 | .alloc ty zero=>some (.ptr id 0,H.put id (.cells zero ty true))
 | .box ty x=>let cs:=(ev x).cells; if cs.all AV.one then some (.ptr id 0,H.put id (.cells cs ty true)) else none
 | .buildSlice ty size zeros len parts=>match cP zeros (parts.map fun p=>(p.1,ev p.2)) with
  | none=>none
  | some cs=>some (.own id 0 len len size true,H.put id (.cells cs ty true))
 | .load k x=>(bc H k (ev x)).map fun v=>(v,H)
 | .store n x v=>(qS H n (ev x) (ev v)).map fun H'=>(.undef,H')
 | .mkmap=>some (.map id,H.put id (.map []))
 | .mksl ty size bytes zero l c=>match qm (ev l),qm (ev c) with
  | some l,some c =>
   if l<=c/\bytes*c<=2^47/\c<2^63/\zero.length=size then
    some (.own id 0 l c size true,H.put id (.cells ((List.replicate c zero).flatten) ty true))
   else none
  | _,_=>none
 | .lookup kd zero x i ok=>(tt H kd zero (ev x) (ev i) ok).map fun v=>(v,H)
 | .mapUpd kd m k v=>(nO H kd (ev m) (ev k) (ev v)).map fun H'=>(.undef,H')
 | .lenMap x=>match ev x with
  | .nilMap=>some (.int .i64 0,H)
  | .map b=>match H.get b with | some (.map es)=>some (.int .i64 es.length,H) | some (.mapR es)=>some (.int .i64 es.length,H) | _=>none
  | _=>none
 | .append size bytes ty _ x y=>match gJ (ev y) with
  | none=>none
  | some m=>match aK H size m (ev y) with
   | none=>none
   | some a=>cM H id size bytes ty (ev x) m a (match ev y with | .own b _ _ _ _ _=>some b | _=>none)
 | .appendZ size bytes ty zero x y=>match qm (ev y) with
  | none=>none
  | some m=>if zero.length=size/\m*bytes<=2^46/\m<2^62 then cM H id size bytes ty (ev x) m ((List.replicate m zero).flatten) none else none
 | .clear size zero x=>(oP H size zero (ev x)).map fun H'=>(.tup [],H')
 | .copy size x y=>OT H size (ev x) (ev y)
 | .toStr x=>(Dr H (ev x)).map fun s=>(.str s,H)
 | .rangeS x=>match ev x with
  | .str s=>some (.ptr id 0,H.put id (.siter s 0))
  | _=>none
 | .nextS x=>HX H (ev x)
 | .globIdx cs len size i=>match qm (ev i) with
  | some i=>if i<len then some (.dp cs (i*size),H) else none
  | none=>none
 | .globLoad k cs=>(bN cs 0 k).map fun v=>(v,H)
 | .toBytes ty x=>match ev x with
  | .str s=>some (.own id 0 s.size s.size 1 false,H.put id (.cells (s.data.toList.map fun b=>.int .u8 b.toNat) ty false))
  | _=>none
 | _=>none
inductive Ex where
 | nrm
 | exit (id:Nat)
 | goto (l:Nat)
 | ret
 deriving Inhabited,DecidableEq
inductive Task where
 | fn (f:Nat) (args:List AV)
 | round (b:Nat) (args:List AV)
 | ent (f:Nat) (args:List AV)
 deriving Inhabited
def jd (f:AV) (args:List AV):Option Task :=
 match f with
 | .fn (.func f) first cap=>some (.fn f (first++args++cap))
 | .loopv b=>some (.round b args)
 | _=>none
abbrev oR:=Task->Heap->Option (AV × Heap)
def Ao (cal:oR) (ev:Src->AV) (H:Heap) (id:Nat) (o:AOp):Option (AV × Heap) :=
 match o with
 | .call f args=>do
  let t <- jd (ev f) (args.map ev)
  cal t H
 | o=>match aT ev o with
  | some v=>some (v,H)
  | none=>bj ev H id o
def b9 (T:Tm):Option (Nat × Bool)->Option Bool
 | none=>some true
 | some (t,a)=>match T[t]? with
  | some (.bool b)=>some (b == a)
  | some (.tup [])=>some false
  | _=>none
def yU (cal:oR):Nat->List EZ->Tm->Heap->Option (Tm × Heap)
 | _,[],T,H=>some (T,H)
 | id,o :: os,T,H =>
  match b9 T o.guard with
  | some true =>
   match Ao cal (Src.ev T) H id o.op with
   | some (v,H')=>yU cal (id+1) os (putT T o.dst v) H'
   | none=>none
  | some false=>yU cal (id+1) os (putT T o.dst (.tup [])) H
  | none=>none
def nC (T0:Tm) (Vs:List AV) (u:Nat × Option Nat):AV:=match u.2 with | none=>ad T0 u.1 | some j=>Vs.getD j .undef
def ct (T0:Tm) (Vs:List AV) (us:List (Nat × Option Nat)):Tm:=us.foldl (fun T u=>T.set u.1 (nC T0 Vs u)) (List.replicate T0.length .undef)
def dJ (base:Nat) (Es:List (Option Ent)) (C:Heap) (adds:List Nat):Heap :=
 adds.foldl (fun C a=>match Es.getD a none with | some e=>C.put (base+a) e | none=>C) C
def AOp.looks:AOp->Bool
 | .load .. | .lookup .. | .lenMap _ | .globIdx .. | .globLoad ..=>true
 | _=>false
def AOp.makes:AOp->Bool
 | .alloc .. | .box .. | .buildSlice .. | .mksl .. | .mkmap=>true
 | _=>false
structure DS where
 Vs:List AV
 Cs:List Heap
 Es:List (Option Ent)
def kU (cal:oR) (base:Nat) (T0:Tm) (i:Nat) (d:ke) (s:DS):Option DS :=
 let T:=ct T0 s.Vs d.uses
 match b9 T d.guard with
 | none=>none
 | some false =>
  match d.cls,d.looks with
  | 2,[(k,adds)]=>some ⟨s.Vs++[.tup []],s.Cs++[dJ base s.Es (s.Cs.getD k default) adds],s.Es++[none]⟩
  | 2,_=>none
  | _,_=>some ⟨s.Vs++[.tup []],s.Cs,s.Es++[none]⟩
 | some true =>
  match d.cls with
  | 0=>match aT (Src.ev T) d.op with
   | some v=>some ⟨s.Vs++[v],s.Cs,s.Es++[none]⟩
   | none=>match d.looks with
    | (k,adds) :: _=>if d.op.looks=true then match bj (Src.ev T) (dJ base s.Es (s.Cs.getD k default) adds) 0 d.op with
      | some (v,_)=>some ⟨s.Vs++[v],s.Cs,s.Es++[none]⟩
      | none=>none
     else none
    | []=>none
  | 1=>if d.op.makes=true then match bj (Src.ev T) (Heap.nil 0) (base+i) d.op with
    | some (v,H')=>some ⟨s.Vs++[v],s.Cs,s.Es++[H'.get (base+i)]⟩
    | none=>none
   else none
  | _=>match d.looks with
   | [(k,adds)]=>match Ao cal (Src.ev T) (dJ base s.Es (s.Cs.getD k default) adds) (base+i) d.op with
    | some (v,H')=>some ⟨s.Vs++[v],s.Cs++[H'],s.Es++[none]⟩
    | none=>none
   | _=>none
def uD (cal:oR) (base:Nat) (T0:Tm):Nat->List ke->DS->Option DS
 | _,[],s=>some s
 | i,d :: ds,s=>match kU cal base T0 i d s with
  | some s'=>uD cal base T0 (i+1) ds s'
  | none=>none
def lu (base:Nat) (T0:Tm) (s:DS) (i:Nat) (d:ke):Bool :=
 match d.cls,b9 (ct T0 s.Vs d.uses) d.guard,aT (Src.ev (ct T0 s.Vs d.uses)) d.op with
 | 0,some true,none=>d.looks.all fun p=>match bj (Src.ev (ct T0 s.Vs d.uses)) (dJ base s.Es (s.Cs.getD p.1 default) p.2) 0 d.op with
  | some (v,_)=>AV.beq v (s.Vs.getD i .undef)
  | none=>false
 | _,_,_=>true
def Va (base:Nat) (T0:Tm) (s:DS):Nat->List ke->Bool
 | _,[]=>true
 | i,d :: ds=>lu base T0 s i d && Va base T0 s (i+1) ds
def gT (T:Tm):List ke->List AV->Tm
 | d :: ds,v :: vs=>gT (putT T d.dst v) ds vs
 | _,_=>T
def Gn (cal:oR) (ds:List ke) (late:List Nat) (T:Tm) (H:Heap):Option (Tm × Heap) :=
 match uD cal H.next T 0 ds ⟨[],[{ H with next:=H.next+ds.length }],[]⟩ with
 | none=>none
 | some s=>if Va H.next T s 0 ds=true then some (gT T ds s.Vs,dJ H.next s.Es (s.Cs.getLastD default) late) else none
def AJ (body:Tm->Heap->Option (Ex × Tm × Heap)):Nat->Tm->Heap->Option (Ex × Tm × Heap)
 | 0,_,_=>none
 | n+1,T,H =>
  match body T H with
  | some (.nrm,T',H')=>AJ body n T' H'
  | r=>r
def JJ (l:Nat) (body:Tm->Heap->Option (Ex × Tm × Heap)):Nat->Tm->Heap->Option (Ex × Tm × Heap)
 | 0,_,_=>none
 | n+1,T,H =>
  match body T H with
  | some (.goto l',T',H')=>if l'=l then JJ l body n T' H' else none
  | r=>r
def pa:Tm->List (Nat × AV)->Tm
 | T,[]=>T
 | T,(t,v) :: r=>pa (T.set t v) r
def aM (cal:oR) (m:Nat) (rd:Bool):ACode->Tm->Heap->Option (Ex × Tm × Heap)
 | .skip,T,H=>some (.nrm,T,H)
 | .region ops,T,H =>
  match yU cal H.next ops T { H with next:=H.next+ops.length } with
  | some (T',H')=>some (.nrm,T',H')
  | none=>none
 | .draw ds late,T,H =>
  match Gn cal ds late T H with
  | some (T',H')=>some (.nrm,T',H')
  | none=>none
 | .seq a b,T,H =>
  match aM cal m rd a T H with
  | some (.nrm,T',H')=>aM cal m rd b T' H'
  | r=>r
 | .cond c a b,T,H =>
  match c.ev T with
  | .bool true=>aM cal m rd a T H
  | .bool false=>aM cal m rd b T H
  | _=>none
 | .block id body,T,H =>
  match aM cal m rd body T H with
  | some (.exit d,T',H')=>if d=id then some (.nrm,T',H') else some (.exit d,T',H')
  | r=>r
 | .loop body,T,H=>AJ (aM cal m rd body) m T H
 | .exit id,T,H=>some (.exit id,T,H)
 | .goto l,T,H=>some (.goto l,T,H)
 | .ret,T,H=>some (.ret,T,H)
 | .scope a,T,H =>
  match aM cal m rd a T H with
  | some (.goto _,_,_)=>none
  | r=>r
 | .scopeL a l rest,T,H =>
  match aM cal m rd a T H with
  | some (.goto l',T',H')=>if l'=l then JJ l (aM cal m rd rest) m T' H' else none
  | r=>r
 | .drawF ..,_,_=>none
 | .rangeM ..,_,_=>none
 | .rangeFunc f ps h body,T,H =>
  if rd=true then none else
  let l:=H.next
  let e:Heap:={ H with next:=H.next+1 }.put l (.loop T ps h body .ready none)
  match jd (f.ev T) [.loopv l] with
  | some (.fn fi args)=>match cal (.ent fi args) e with
   | some (_,H2)=>match H2.get l with
    | some (.loop _ _ _ _ .ready none)=>some (.nrm,T,H2.kill l)
    | some (.loop _ _ _ _ .done (some c))=>match c with
     | .ret=>some (.ret,T,H2.kill l)
     | .exit id=>some (.exit id,T,H2.kill l)
     | .goto g=>some (.goto g,T,H2.kill l)
     | _=>none
    | _=>none
   | none=>none
  | _=>none
inductive Pq where
 | code (c:ACode)
 | seq (a:ACode) (b:Pq)
 | dfr (ops:List EZ) (f:Src) (b:Pq)
 deriving Inhabited
inductive Ext where
 | add64 | sub64
 | countS | indexS
 | insert (size bytes ty:Nat)
 | keys (str:Bool) (gs:List Nat) (ty:Nat)
 | sortF (ty:Nat) (gs:List Nat)
 | dfr (b:Pq)
 | rcv (d:Nat) (c:ACode)
 deriving Inhabited
def Ext.code:Ext->Bool
 | .dfr _ | .rcv _ _ | .keys ..=>true
 | _=>false
structure au where
 nparams:Nat
 ntmps:Nat
 results:List (Nat × Option (Option Nat))
 body:ACode
 ext:Option Ext:=none
 deriving Inhabited
def TI {α:Type} (le:α->α->Bool) (x:α):List α->List α
 | []=>[x]
 | y :: l=>if le x y=true then x :: y :: l else y :: TI le x l
def Fp {α:Type} (le:α->α->Bool):List α->List α
 | []=>[]
 | x :: l=>TI le x (Fp le l)
def Dy {α:Type} (le:α->α->Bool):List α->Bool
 | []=>true
 | [_]=>true
 | a :: b :: l=>!le b a && Dy le (b :: l)
def Um (a b:Int):Bool:=decide (a<=b)
def Uc:List UInt8->List UInt8->Bool
 | [],_=>true
 | _ :: _,[]=>false
 | a :: x,b :: y=>if a.toNat<b.toNat then true else if a.toNat=b.toNat then Uc x y else false
def intOf?:AV->Option Int
 | .int .i64 n=>if -9223372036854775808<=n/\n<=9223372036854775807 then some n else none
 | _=>none
def strOf?:AV->Option (List UInt8)
 | .str s=>if s.size<=9223372036854775807 then some s.data.toList else none
 | _=>none
def S8 {α:Type} (f:AV->Option α):List (AV × AV)->Option (List α)
 | []=>some []
 | (k,_) :: es=>match f k,S8 f es with
  | some a,some l=>some (a :: l)
  | _,_=>none
def Qc (str:Bool) (es:List (AV × AV)):Option (List AV) :=
 match str with
 | false=>match S8 intOf? es with
  | some a=>if Dy Um (Fp Um a)=true then some ((Fp Um a).map (AV.int .i64)) else none
  | none=>none
 | true=>match S8 strOf? es with
  | some a=>if Dy Uc (Fp Uc a)=true then some ((Fp Uc a).map fun l=>AV.str ⟨l.toArray⟩) else none
  | none=>none
def SJ (H:Heap) (gs:List Nat):List AV->Option (List (AV × AV))
 | [.fn (.func g) [] [.ptr b 0]]=>if gs.contains g then
   match H.get b with
   | some (.cells [.map mb] _ _)=>match H.get mb with
    | some (.map es)=>some es
    | some (.mapR es)=>some es
    | _=>none
   | _=>none
  else none
 | _=>none
def TH (H:Heap) (str:Bool) (gs:List Nat) (ty:Nat) (args:List AV):Option (AV × Heap) :=
 match SJ H gs args with
 | none=>none
 | some es=>if es.length<=1000000 then
   match Qc str es with
   | none=>none
   | some []=>some (.nilSl,{ H with next:=H.next+1 })
   | some cs=>some (.own H.next 0 cs.length cs.length 1 false,{ H with next:=H.next+1 }.put H.next (.cells cs ty true))
  else none
def SW (c:Nat):List UInt8->Nat
 | []=>0
 | b :: l=>bif Nat.beq b.toNat c then Nat.succ (SW c l) else SW c l
def TJ (c:Nat):List UInt8->Int
 | []=>-1
 | b :: l=>bif Nat.beq b.toNat c then 0 else match TJ c l with
  | .ofNat n=>.ofNat (Nat.succ n)
  | z=>z
def vL (H:Heap):Ext->List AV->Option (AV × Heap)
 | .keys str gs ty,args=>TH H str gs ty args
 | .add64,[.int .u64 (.ofNat x),.int .u64 (.ofNat y),.int .u64 (.ofNat c)]=>if c<=1 then some (.tup [.int .u64 (.ofNat ((x+y+c) % 2^64)),.int .u64 (.ofNat ((x+y+c) / 2^64))],H) else none
 | .sub64,[.int .u64 (.ofNat x),.int .u64 (.ofNat y),.int .u64 (.ofNat c)]=>if c<=1 then some (.tup [.int .u64 (.ofNat ((x+2^64-y-c) % 2^64)),.int .u64 (.ofNat (if x<y+c then 1 else 0))],H) else none
 | .countS,[.str s,.int .u8 (.ofNat c)]=>if c<256 then some (.int .i64 (.ofNat (SW c s.toList)),H) else none
 | .indexS,[.str s,.int .u8 (.ofNat c)]=>if c<256 then some (.int .i64 (TJ c s.toList),H) else none
 | .insert size bytes ty,[.nilSl,.int .i64 (.ofNat i),.own a g m e h f] =>
  match aK H size m (.own a g m e h f) with
  | some d=>if i=0/\0<m/\m*bytes<=2^46/\m<2^62/\d.all AV.one=true then some (.own H.next 0 m m size false,{ H with next:=H.next+1 }.put H.next (.cells d ty true)) else none
  | none=>none
 | .insert size bytes ty,[.own b off n c sz ex,.int .i64 (.ofNat i),.own a g m e h f] =>
  match aK H size m (.own a g m e h f),H.get b,H.get a with
  | some d,some (.cells cs j true),some (.cells _ _ true) =>
   if off=0/\sz=size/\b≠a/\0<m/\i<=n/\cs.length=n*size/\(n+m)*bytes<=2^46/\n+m<2^62/\j=ty/\d.all AV.one=true/\cs.all AV.one=true then
    some (.own H.next 0 (n+m) (n+m) size false,({ H with next:=H.next+1 }.kill b).put H.next (.cells (cs.take (i*size)++d++cs.drop (i*size)) ty true))
   else none
  | _,_,_=>none
 | _,_=>none
def o0 (T:Tm) (H:Heap) (r:Nat × Option (Option Nat)):Option AV :=
 match r.2 with
 | none=>some (ad T r.1)
 | some k=>match ad T r.1 with
  | .ptr b o=>match H.get b with
   | some (.cells cs _ _)=>bN cs o k
   | _=>none
  | _=>none
def cp (T:Tm) (H:Heap) (a:List (Nat × Option (Option Nat))):Option AV:=do
 let vs <- a.mapM (o0 T H)
 match vs with
 | [v]=>some v
 | vs=>some (.tup vs)
def Ae (cal:oR) (m:Nat) (fn:au) (args:List AV) (H:Heap):Option (AV × Heap) :=
 if args.length=fn.nparams then
  match aM cal m false fn.body (args++List.replicate (fn.ntmps-args.length) .undef) H with
  | some (.nrm,T,H')=>(cp T H' fn.results).map fun v=>(v,H')
  | some (.ret,T,H')=>(cp T H' fn.results).map fun v=>(v,H')
  | _=>none
 else none
abbrev Mo:=Task->Heap->Option (AV × Heap)
def Ty:oR:=fun _ _=>none
def JA (M:List (List Int)) (i j:Nat):Bool:=decide ((M.getD i []).getD j 0<0)
def Re (M:List (List Int)) (n:Nat):Prop:=(∀ i,i<n->JA M i i=false)/\(∀ i,i<n->∀ j,j<n->i=j\/JA M i j = !JA M j i)/\(∀ i,i<n->∀ j,j<n->∀ k,k<n->JA M i j=true->JA M j k=true->JA M i k=true)
instance (M:List (List Int)) (n:Nat):Decidable (Re M n):=by unfold Re; infer_instance
def rL (cal:oR) (g:Nat) (caps:List AV) (D:Heap) (x:AV):List AV->Option (List Int)
 | []=>some []
 | y :: l=>match cal (.fn g ([x,y]++caps)) D,rL cal g caps D x l with
  | some (.int .i64 c,_),some cs=>some (c :: cs)
  | _,_=>none
def sU (cal:oR) (g:Nat) (caps:List AV) (D:Heap) (all:List AV):List AV->Option (List (List Int))
 | []=>some []
 | x :: l=>match rL cal g caps D x all,sU cal g caps D all l with
  | some r,some a=>some (r :: a)
  | _,_=>none
def lO (M:List (List Int)) (n:Nat):List (Fin n):=(List.finRange n).mergeSort fun x y=>!JA M y.val x.val
def Ci (cal:oR) (ty:Nat) (gs:List Nat) (H:Heap):List AV->Option (AV × Heap)
 | [.nilSl,.fn (.func _) _ _]=>some (.tup [],H)
 | [.own b off n _ sz _,.fn (.func g) [] caps]=>if n=0 then some (.tup [],H) else match H.get b with
  | some (.cells cs a true) =>
   if a=ty/\off=0/\sz=1/\cs.length=n/\0<n/\n<4611686018427387904/\g∈gs/\cs.all AV.one=true then
    match sU cal g caps (H.kill b).ro cs cs with
    | some M=>if Re M n then some (.tup [],H.put b (.cells ((lO M n).map fun i=>cs.getD i.val .undef) ty true)) else none
    | none=>none
   else none
  | _=>none
 | _=>none
def kh (tab:Nat->Option au) (o:Mo) (cal:oR) (m:Nat):Task->Heap->Option (AV × Heap)
 | .fn f args,H =>
  match tab f with
  | none=>none
  | some fn=>match fn.ext with
   | some (.sortF ty gs)=>Ci cal ty gs H args
   | some e=>vL H e args
   | none=>Ae cal m fn args H
 | .ent f args,H =>
  match tab f with
  | none=>none
  | some fn=>match fn.ext with
   | some _=>none
   | none=>Ae cal m fn args H
 | .round b args,H =>
  match H.get b with
  | some (.loop T ps j body .ready none) =>
   if args.length=ps.length then
    match aM cal m true j (pa T (ps.zip args)) H with
    | some (.nrm,T1,h) =>
     match h.get b with
     | some (.loop i n k l .ready none) =>
      match aM cal m true body T1 (h.put b (.loop i n k l .busy none)) with
      | some (x,_,H2) =>
       match H2.get b with
       | some (.loop T2 d a c .busy none) =>
        match x with
        | .nrm=>some (.bool true,H2.put b (.loop T2 d a c .ready none))
        | .ret=>some (.bool false,H2.put b (.loop T2 d a c .done (some .ret)))
        | .exit id=>some (.bool false,H2.put b (.loop T2 d a c .done (some (.exit id))))
        | .goto g=>some (.bool false,H2.put b (.loop T2 d a c .done (some (.goto g))))
       | _=>none
      | none=>none
     | _=>none
    | _=>none
   else none
  | _=>none
def mp (tab:Nat->Option au) (a:Mo) (m:Nat):Nat->oR
 | 0=>fun _ _=>none
 | n+1=>kh tab a (mp tab a m n) m
def Mr:Nat->Option (List AV):=fun _=>none
def Pl:Prop:=True
def Co:Value->Option AV
 | .bool b=>some (.bool b)
 | .int k n=>some (.int k n)
 | .string s=>some (.str s)
 | .pointer none=>some .nilPtr
 | .slice none 0 0=>some .nilSl
 | .map none=>some .nilMap
 | .nilFunc=>some .nilFn
 | .nilIface=>some .nilIf
 | .func f a b=>if a.size=0/\b.size=0 then some (.fn f [] []) else none
 | _=>none
def J6 (v:Value):Option (List AV):=v.cells.toList.mapM Co
def sS:Value->Option AV
 | .agg cs=>do some (.agg (<- cs.toList.mapM Co))
 | .tuple vs=>if vs.size=0 then some (.tup []) else none
 | v=>Co v
def bW:Operand->Option Src
 | .tmp t=>some (.t t)
 | .const v=>(sS v).map .c
 | .global _=>none
 | .func f=>some (.c (.fn (.func f) [] []))
def Iv:Operand->Option (List AV)
 | .global g=>Mr g
 | _=>none
def vF:Operand->Bool
 | .const _=>true
 | _=>false
def By:Option Operand->Option (Option Src)
 | none=>some none
 | some x=>(bW x).map some
section
variable (P:Program)
def zeroCells? (t:TypeId):Option (List AV):=do
 let i <- P.info? t
 let z <- i.zero
 J6 z
def sizeOf? (t:TypeId):Option Nat:=(P.info? t).map (·.size)
def bytesOf? (t:TypeId):Option Nat:=(P.info? t).map (·.bytes)
def qD (t:TypeId):Option (Option Nat):=do
 match <- P.underlying t with
 | .struct _=>(sizeOf? P t).map some
 | .array _ _=>(sizeOf? P t).map some
 | _=>some none
def uP (a:Array Field):Option (List (Nat × Nat)):=a.toList.mapM fun f=>(sizeOf? P f.type).map fun n=>(f.offset,n)
def uB (t:TypeId):Bool :=
 match P.underlying t with
 | some (.array 2 e)=>(match P.underlying e with | some .bool=>true | _=>false) && (sizeOf? P e == some 1)
 | _=>false
def je (t:TypeId):Nat :=
 match P.underlying t with
 | some (.struct a)=>if (a.toList.zipIdx.all fun p=>p.1.name != "_" && (p.1.offset == p.2 && (match P.underlying p.1.type with | some (.int _)=>true | _=>false))) && !P.stoodInHeld t then a.size else 0
 | _=>0
def Rl (t:TypeId):Bool:=match P.underlying t with
 | some (.interface _)=>true
 | _=>false
def j8 (t:TypeId):Option BK :=
 match P.underlying t with
 | some (.int _)=>some .int
 | some .bool=>some .bool
 | some .string=>some .str
 | some (.slice _)=>some .sl
 | _=>none
def Cw (t:TypeId):Bool :=
 match P.underlying t with
 | some (.int _) | some .string=>true
 | _=>false
def GL (o:Oper):Option AOp :=
 match o.op with
 | .move x | .assign x=>(bW x).map .mv
 | .pick c a b=>do some (.pick (<- bW c) (<- bW a) (<- bW b))
 | .alloc e=>do some (.alloc e (<- zeroCells? P e))
 | .box e x=>do
  let _ <- sizeOf? P e
  some (.box e (<- bW x))
 | .build t parts=>do
  let z <- zeroCells? P t
  match <- P.underlying t with
  | .struct d=>do
   let h <- uP P d
   let ps <- parts.toList.mapM fun (i,x)=>do some ((<- h[i]?),(<- bW x))
   some (.build z ps)
  | .array _ e=>do
   let n <- sizeOf? P e
   let ps <- parts.toList.mapM fun (i,x)=>do some ((i*n,n),(<- bW x))
   some (.build z ps)
  | _=>none
 | .buildSlice t len parts=>do
  match <- P.underlying t with
  | .slice e=>do
   let n <- sizeOf? P e
   let z <- zeroCells? P e
   let ps <- parts.toList.mapM fun (i,x)=>do some ((i*n,n),(<- bW x))
   if len*n<=2^24/\z.length=n then some (.buildSlice e n ((List.replicate len z).flatten) len ps) else none
  | _=>none
 | .load t x=>match Iv x with
  | some cs=>do some (.globLoad (<- qD P t) cs)
  | none=>do some (.load (<- qD P t) (<- bW x))
 | .store t x v=>do some (.store (<- sizeOf? P t) (<- bW x) (<- bW v))
 | .nilCheck x=>(bW x).map .nilCheck
 | .binOp op t x y _ =>
  if uB P t then
   match op with
   | .eql=>do some (.eqAgg false 0 (<- bW x) (<- bW y))
   | .neq=>do some (.eqAgg true 0 (<- bW x) (<- bW y))
   | _=>none
  else if je P t≠0 then
   match op with
   | .eql=>do some (.eqAgg false (je P t) (<- bW x) (<- bW y))
   | .neq=>do some (.eqAgg true (je P t) (<- bW x) (<- bW y))
   | _=>none
  else if Rl P t then (if vF x || vF y then do some (.bin op .ifc (<- bW x) (<- bW y)) else none)
  else do some (.bin op (<- j8 P t) (<- bW x) (<- bW y))
 | .unOp op _ x=>do some (.un op (<- bW x))
 | .convert a b x=>do
  match <- P.underlying a,<- P.underlying b with
  | .int _,.int k=>do some (.conv k (<- bW x))
  | .string,.string=>do some (.strId (<- bW x))
  | .slice e,.string=>do
   match <- P.underlying e with
   | .int .u8=>some (.toStr (<- bW x))
   | _=>none
  | .string,.slice e=>do
   match <- P.underlying e with
   | .int .u8=>do
    let n <- sizeOf? P e
    if n=1 then some (.toBytes e (<- bW x)) else none
   | _=>none
  | _,_=>none
 | .makeInterface t x=>do
  match <- P.underlying t with
  | .interface _=>none
  | _=>some (.iface t (<- bW x))
 | .makeFunc f first cap=>do some (.mkfn f (<- first.toList.mapM bW) (<- cap.toList.mapM bW))
 | .makeMap t r=>do
  match <- P.underlying t with
  | .map _ _=>if r.isNone then some .mkmap else none
  | _=>none
 | .makeSlice t l c=>do
  match <- P.underlying t with
  | .slice e=>do some (.mksl e (<- sizeOf? P e) (<- bytesOf? P e) (<- zeroCells? P e) (<- bW l) (<- bW c))
  | _=>none
 | .slice t x lo hi mx=>do
  match <- P.underlying t with
  | .slice e=>do some (.slice (<- sizeOf? P e) (<- bW x) (<- By lo) (<- By hi) (<- By mx))
  | .string=>if mx.isSome then none else do some (.sliceStr (<- bW x) (<- By lo) (<- By hi))
  | _=>none
 | .fieldAddr t x i=>do
  match <- P.underlying t with
  | .struct d=>do
   let f <- d[i]?
   let n <- sizeOf? P f.type
   if n=0 then none else some (.fieldAddr f.offset (<- bW x))
  | _=>none
 | .field t x i=>do
  match <- P.underlying t with
  | .struct d=>do let f <- d[i]?; some (.field (<- qD P f.type) f.offset (<- bW x))
  | _=>none
 | .indexAddr t x i=>do
  match <- P.underlying t with
  | .slice e=>do some (.indexAddr (<- sizeOf? P e) (<- bW x) (<- bW i))
  | .array n e=>match Iv x with
   | some cs=>do some (.globIdx cs n (<- sizeOf? P e) (<- bW i))
   | none=>do some (.indexArr n (<- sizeOf? P e) (<- bW x) (<- bW i))
  | _=>none
 | .index t x i=>do
  match <- P.underlying t with
  | .array n e=>do some (.indexAgg n (<- sizeOf? P e) (<- qD P e) (<- bW x) (<- bW i))
  | .string=>do some (.indexStr (<- bW x) (<- bW i))
  | _=>none
 | .lookup t x i ok=>do
  match <- P.underlying t with
  | .map k e =>
   if Cw P k then do
    let z <- (P.info? e).bind (·.zero)
    some (.lookup (<- j8 P k) (<- sS z) (<- bW x) (<- bW i) ok)
   else none
  | _=>none
 | .mapUpdate t m k v | .insert t m k v=>do
  match <- P.underlying t with
  | .map g _=>if Cw P g then do some (.mapUpd (<- j8 P g) (<- bW m) (<- bW k) (<- bW v)) else none
  | _=>none
 | .extract x i=>do some (.extract i (<- bW x))
 | .call c=>do
  let args <- c.args.toList.mapM bW
  match c.callee with
  | .value f=>do some (.call (<- bW f) args)
  | .invoke _ _=>none
  | .builtin b =>
   match b,args,c.argTypes.toList with
   | .len,[x],[t]=>do
    match <- P.underlying t with
    | .slice _=>some (.len x)
    | .string=>some (.lenStr x)
    | .map _ _=>some (.lenMap x)
    | _=>none
   | .cap,[x],[t]=>do
    match <- P.underlying t with
    | .slice _=>some (.cap x)
    | _=>none
   | .min,xs,_=>some (.min xs)
   | .max,xs,_=>some (.max xs)
   | .append,[x,y],[t,j]=>do
    match <- P.underlying t,<- P.underlying j with
    | .slice e,.slice _=>do
     let n <- sizeOf? P e; let z <- zeroCells? P e
     if z.length=n then some (.append n (<- bytesOf? P e) e z x y) else none
    | .slice e,.string=>do
     let n <- sizeOf? P e; let z <- zeroCells? P e
     if z.length=n then some (.append n (<- bytesOf? P e) e z x y) else none
    | .slice e,.int .i64=>do
     let n <- sizeOf? P e; let z <- zeroCells? P e
     if z.length=n then some (.appendZ n (<- bytesOf? P e) e z x y) else none
    | _,_=>none
   | .clear,[x],[t]=>do
    match <- P.underlying t with
    | .slice e=>do some (.clear (<- sizeOf? P e) (<- zeroCells? P e) x)
    | _=>none
   | .copy,[x,y],[t,_]=>do
    match <- P.underlying t with
    | .slice e=>do some (.copy (<- sizeOf? P e) x y)
    | _=>none
   | _,_,_=>none
 | .panic x=>(bW x).map .panic
 | .typeAssert x _ t ok=>do
  match <- P.underlying t with
  | .interface _=>none
  | _=>do
   let z <- (P.info? t).bind (·.zero)
   some (.tassert t (<- sS z) ok (<- bW x))
 | .range t x=>do
  match <- P.underlying t with
  | .string=>some (.rangeS (<- bW x))
  | _=>none
 | .next x s=>if s=true then (bW x).map .nextS else none
 | _=>none
def Bz (ops:Array Oper):Option (Nat × Bool)->Option (Option (Nat × Bool))
 | none=>some none
 | some (j,b)=>match ops[j]? with
  | none=>none
  | some a=>match a.dst with
   | none=>none
   | some d=>some (some (d,b))
def O4 (ops:Array Oper) (o:Oper):Option EZ :=
 (Bz ops o.guard).map fun g=>{ dst:=o.dst,op:=(GL P o).getD .bad,guard:=g }
def qK:Src->List Nat
 | .t n=>[n]
 | .c _=>[]
def oT:Option Src->List Nat
 | some s=>qK s
 | none=>[]
def AOp.slots:AOp->List Nat
 | .mv x | .box _ x | .load _ x | .nilCheck x | .un _ x | .conv _ x | .strId x | .iface _ x | .fieldAddr _ x | .field _ _ x | .extract _ x | .len x | .lenStr x | .lenMap x | .cap x | .clear _ _ x | .toStr x | .toBytes _ x | .rangeS x | .nextS x | .tassert _ _ _ x | .globIdx _ _ _ x | .panic x=>qK x
 | .pick a b c=>qK a++qK b++qK c
 | .build _ ps | .buildSlice _ _ _ _ ps=>ps.flatMap fun p=>qK p.2
 | .store _ x y | .bin _ _ x y | .eqAgg _ _ x y | .indexAddr _ x y | .indexArr _ _ x y | .indexAgg _ _ _ x y | .indexStr x y | .lookup _ _ x y _ | .mksl _ _ _ _ x y | .append _ _ _ _ x y | .appendZ _ _ _ _ x y | .copy _ x y=>qK x++qK y
 | .mkfn _ a b=>a.flatMap qK++b.flatMap qK
 | .slice _ x a b c=>qK x++oT a++oT b++oT c
 | .sliceStr x a b=>qK x++oT a++oT b
 | .mapUpd _ a b c=>qK a++qK b++qK c
 | .min xs | .max xs=>xs.flatMap qK
 | .call f xs=>qK f++xs.flatMap qK
 | .alloc .. | .mkmap | .bad | .globLoad ..=>[]
def mC (o:Oper):List Nat:=(o.after.toList.filter (Region.binds .any)).map (·.on)
def Ql (ops:List Oper):List (List Nat) :=
 ops.foldl (fun a o=>a++[((mC o).flatMap fun j=>j :: a.getD j []).eraseDups]) []
def Rs (a:AOp):Nat:=if a.isPure || a.looks then 0 else if a.makes then 1 else 2
structure DI where
 dst:Option Nat
 op:AOp
 guard:Option (Nat × Bool)
 preds:List Nat
 cls:Nat
 deriving Inhabited
def JF (l:List DI) (i:Nat) (p:List Nat) (t:Nat):Option Nat :=
 (List.range i).foldl (fun a j=>if p.contains j && ((l.getD j default).dst == some t) then some j else a) none
def aE (l:List DI):List Nat:=(List.range l.length).filter fun i=>(l.getD i default).cls == 2
def dS (l:List DI) (k:Nat):List Nat :=
 match k with
 | 0=>[]
 | k+1=>let w:=(aE l).getD k 0; (List.range l.length).filter fun a=>(l.getD a default).cls == 1 && (l.getD w default).preds.contains a
def JB (l:List DI) (i:Nat):List (Nat × List Nat) :=
 let d:=l.getD i default
 let b:=aE l
 let lo:=(b.filter fun w=>d.preds.contains w).length
 let hi:=if d.cls == 2 then lo else b.length-(b.filter fun w=>(l.getD w default).preds.contains i).length
 (List.range (hi+1-lo)).map fun x=>(lo+x,(List.range l.length).filter fun a=>(l.getD a default).cls == 1 && d.preds.contains a && !(dS l (lo+x)).contains a)
def xq (l:List DI):List Nat:=(List.range l.length).filter fun a=>(l.getD a default).cls == 1 && !(dS l (aE l).length).contains a
def Jp (ops:List Oper) (l:List DI):Bool :=
 (List.range l.length).all fun i=>((mC (ops.getD i default)).all fun j=>decide (j<i)) &&
  (l.getD i default).preds.all fun p=>(mC (ops.getD i default)).any fun j=>p == j || (l.getD j default).preds.contains p
def Jq (l:List DI):Bool :=
 (List.range l.length).all fun j=>(List.range j).all fun i =>
  ((l.getD i default).dst.isNone || (l.getD i default).dst != (l.getD j default).dst || (l.getD j default).preds.contains i) &&
  (!((l.getD i default).cls == 2 && (l.getD j default).cls == 2) || (l.getD j default).preds.contains i)
def NW (l:List DI) (i:Nat) (u:Nat × Option Nat):Bool :=
 match u.2 with
 | some j=>(l.getD i default).preds.contains j && (l.getD j default).dst == some u.1 && decide (j<i) &&
   (List.range l.length).all fun j'=>(l.getD j' default).dst != some u.1 || decide (j'<=j) || (l.getD j' default).preds.contains i || j' == i
 | none=>(List.range l.length).all fun j'=>(l.getD j' default).dst != some u.1 || j' == i || (l.getD j' default).preds.contains i
def NV (l:List DI) (ds:List ke):Bool:=(List.range l.length).all fun i=>(ds.getD i default).uses.all (NW l i)
def NY (l:List DI) (i:Nat) (p:Nat × List Nat):Bool :=
 p.2.all fun a=>(l.getD i default).preds.contains a && (l.getD a default).cls == 1 && !(dS l p.1).contains a && decide (a<i)
def NX (l:List DI) (i:Nat) (looks:List (Nat × List Nat)):Bool :=
 (List.range ((aE l).length+1)).all fun k =>
  ((List.range (aE l).length).any fun q=>((l.getD i default).preds.contains ((aE l).getD q 0) && decide (k<=q)) || ((l.getD ((aE l).getD q 0) default).preds.contains i && decide (q<k))) ||
  looks.any fun p=>p.1 == k
def Rk (l:List DI) (i:Nat) (looks:List (Nat × List Nat)):Bool :=
 match looks with
 | [p]=>decide (p.1<(aE l).length) && (aE l).getD p.1 0 == i && (List.range l.length).all fun a=>(dS l (p.1+1)).contains a == ((dS l p.1).contains a || p.2.contains a)
 | _=>false
def Jr (l:List DI) (ds:List ke):Bool :=
 (List.range l.length).all fun i=>((ds.getD i default).looks.all (NY l i)) &&
  (if (l.getD i default).cls=0 then NX l i (ds.getD i default).looks else if (l.getD i default).cls=1 then true else Rk l i (ds.getD i default).looks)
def IG (ops:List Oper) (l:List DI) (ds:List ke):Bool:=Jp ops l && Jq l && NV l ds && Jr l ds
def TV (ops:Array Oper) (a:List (List Nat)) (o:Oper) (i:Nat):Option DI :=
 (Bz ops o.guard).map fun g=>{ dst:=o.dst,op:=(GL P o).getD .bad,guard:=g,preds:=a.getD i [],cls:=Rs ((GL P o).getD .bad) }
def J7 (ops:Array Oper):Option (List ke × List Nat) :=
 let a:=Ql ops.toList
 match (ops.toList.zipIdx).mapM fun (o,i)=>TV P ops a o i with
 | none=>none
 | some l =>
  let ds:=(List.range l.length).map fun i =>
   let d:=l.getD i default
   { dst:=d.dst,op:=d.op,guard:=d.guard,uses:=((d.op.slots++(match d.guard with | some (t,_)=>[t] | none=>[])).eraseDups).map fun t=>(t,JF l i d.preds t),cls:=d.cls,looks:=JB l i:ke }
  if IG ops.toList l ds=true then some (ds,xq l) else none
def Eh:ACode->Option Nat
 | .seq a b=>match Eh a with | some l=>some l | none=>Eh b
 | .scopeL .skip l .skip=>some l
 | _=>none
def bR:ACode->Nat->Option ACode
 | .seq a b,l=>match bR a l with | some r=>some (.seq r b) | none=>bR b l
 | .scopeL .skip l' .skip,l=>if l' == l then some .skip else none
 | _,_=>none
def DB (a:ACode):ACode:=match Eh a with
 | some l=>match bR a l with
  | some r=>.scopeL a l r
  | none=>.scope a
 | none=>.scope a
def Jd:ACode:=.rangeFunc (.c .undef) [] .skip .skip
def bD:Code->Option ACode
 | .skip=>some .skip
 | .label l=>some (.scopeL .skip l .skip)
 | .region _ ops draw=>if draw then (match J7 P ops with | some p=>some (.draw p.1 p.2) | none=>some Jd) else (ops.toList.mapM (O4 P ops)).map .region
 | .seq a b=>do some (.seq (<- bD a) (<- bD b))
 | .cond c a b=>do some (.cond (<- bW c) (<- bD a) (<- bD b))
 | .block id a=>do some (.block id (<- bD a))
 | .loop a=>do some (.loop (<- bD a))
 | .rangeFunc f ps a b=>do some (.rangeFunc (<- bW f) ps.toList (<- bD a) (<- bD b))
 | .exit id=>some (.exit id)
 | .goto l=>some (.goto l)
 | .ret=>some .ret
 | .scope a=>do some (DB (<- bD a))
 | .refuse _=>some Jd
def GK:ResultVar->Option (Nat × Option (Option Nat))
 | .tmp t=>some (t,none)
 | .cell a t=>do some (a,some (<- qD P t))
def SX (fn:Func):Option au:=do
 if fn.name = "math/bits.Add64" then some { nparams:=3,ntmps:=3,results:=[],body:=.skip,ext:=some .add64 } else
 if fn.name = "math/bits.Sub64" then some { nparams:=3,ntmps:=3,results:=[],body:=.skip,ext:=some .sub64 } else
 if fn.origin = "slices.Insert" then do
  match <- P.underlying (<- fn.params[0]?) with
  | .slice e=>some { nparams:=3,ntmps:=3,results:=[],body:=.skip,ext:=some (.insert (<- sizeOf? P e) (<- bytesOf? P e) e) }
  | _=>none
 else do
 let b <- fn.body
 if fn.name = "runtime.NumGoroutine" then none else
 some { nparams:=fn.params.size+fn.nfree,ntmps:=fn.ntmps,results:=(<- fn.results.toList.mapM (GK P)),body:=(<- bD P b) }
end
structure BJ where
 blk:Nat
 N:Nat
 sz:Nat
abbrev Mu:=Nat->Option BJ
inductive VR (μ:Mu) (F:Nat->Prop) (w:World):AV->Value->Prop where
 | undef (v:Value):VR μ F w .undef v
 | bool (b:Bool):VR μ F w (.bool b) (.bool b)
 | int (k:IntKind) (n:Int):VR μ F w (.int k n) (.int k n)
 | str (s:ByteArray):VR μ F w (.str s) (.string s)
 | nilPtr:VR μ F w .nilPtr (.pointer none)
 | nilSl:VR μ F w .nilSl (.slice none 0 0)
 | nilFn:VR μ F w .nilFn .nilFunc
 | nilIf:VR μ F w .nilIf .nilIface
 | nilMap:VR μ F w .nilMap (.map none)
 | agg (cs:List AV) (vs:Array Value):cs.length=vs.size->(∀ (i:Nat) (c:AV) (v:Value),cs[i]? = some c->vs[i]? = some v->VR μ F w c v)->VR μ F w (.agg cs) (.agg vs)
 | tup (cs:List AV) (vs:Array Value):cs.length=vs.size->(∀ (i:Nat) (c:AV) (v:Value),cs[i]? = some c->vs[i]? = some v->VR μ F w c v)->VR μ F w (.tup cs) (.tuple vs)
 | sl0 (a:Addr) (cap:Nat):VR μ F w (.sl [] 0) (.slice (some a) 0 cap)
 | sl (cells:List AV) (n cap blk off:Nat) (arr:Array Value) (ty:TypeId) (fr:Nat × Nat):F blk->w.heap[blk]? = some (.cells arr ty fr)->n<=cap->off+cells.length<=arr.size ->
   (∀ (i:Nat) (c:AV) (v:Value),cells[i]? = some c->arr[off+i]? = some v->VR μ F w c v)->VR μ F w (.sl cells n) (.slice (some ⟨blk,off,none⟩) n cap)
 | dp (cells:List AV) (o blk off:Nat) (arr:Array Value) (ty:TypeId) (fr:Nat × Nat):F blk->w.heap[blk]? = some (.cells arr ty fr)->off+cells.length<=arr.size ->
   (∀ (i:Nat) (c:AV) (v:Value),cells[i]? = some c->arr[off+i]? = some v->VR μ F w c v)->VR μ F w (.dp cells o) (.pointer (some ⟨blk,off+o,none⟩))
 | own (b off n c sz:Nat) (ex:Bool) (L:BJ) (cap:Nat):μ b=some L->L.sz=sz->n<=c->c<=cap->(ex=true->cap=c)->off+cap*sz<=L.N->VR μ F w (.own b off n c sz ex) (.slice (some ⟨L.blk,off,none⟩) n cap)
 | ptr (b off:Nat) (L:BJ):μ b=some L->VR μ F w (.ptr b off) (.pointer (some ⟨L.blk,off,none⟩))
 | fn (f:Fn) (as bs:List AV) (us vs:Array Value):as.length=us.size->(∀ (i:Nat) (c:AV) (v:Value),as[i]? = some c->us[i]? = some v->VR μ F w c v) ->
   bs.length=vs.size->(∀ (i:Nat) (c:AV) (v:Value),bs[i]? = some c->vs[i]? = some v->VR μ F w c v)->VR μ F w (.fn f as bs) (.func f us vs)
 | ifc (t:Nat) (x:AV) (v:Value):VR μ F w x v->VR μ F w (.ifc t x) (.iface t v)
 | map (b:Nat) (L:BJ):μ b=some L->VR μ F w (.map b) (.map (some L.blk))
 | loopv (b:Nat) (L:BJ):μ b=some L->VR μ F w (.loopv b) (.func (.yield L.blk) #[] #[])
def VR.mono {μ μ':Mu} {F F':Nat->Prop} {w w':World} (g:∀ b L,μ b=some L->μ' b=some L) (j:∀ c,F c->F' c)
  (l:∀ c,F c->w'.heap[c]? = w.heap[c]?) {a:AV} {v:Value} (h:VR μ F w a v):VR μ' F' w' a v:=by
 induction h with
 | undef v=>exact .undef v
 | bool b=>exact .bool b
 | int k n=>exact .int k n
 | str s=>exact .str s
 | nilPtr=>exact .nilPtr
 | nilSl=>exact .nilSl
 | nilFn=>exact .nilFn
 | nilIf=>exact .nilIf
 | nilMap=>exact .nilMap
 | agg cs vs h _ d=>exact .agg cs vs h d
 | tup cs vs h _ d=>exact .tup cs vs h d
 | sl0 a cap=>exact .sl0 a cap
 | sl cells n cap blk off arr ty fr e hb hn i _ d=>exact .sl cells n cap blk off arr ty fr (j _ e) ((l _ e).trans hb) hn i d
 | dp cells o blk off arr ty fr e hb i _ d=>exact .dp cells o blk off arr ty fr (j _ e) ((l _ e).trans hb) i d
 | own b off n c sz ex L cap h1 h2 h3 h4 h5 m=>exact .own b off n c sz ex L cap (g _ _ h1) h2 h3 h4 h5 m
 | ptr b off L h=>exact .ptr b off L (g _ _ h)
 | fn f as bs us vs h1 _ h3 _ p q=>exact .fn f as bs us vs h1 p h3 q
 | ifc t x v _ d=>exact .ifc t x v d
 | map b L h=>exact .map b L (g _ _ h)
 | loopv b L h=>exact .loopv b L (g _ _ h)
def LR (μ:Mu) (F:Nat->Prop) (w:World) (as:List AV) (vs:List Value):Prop:=as.length=vs.length/\∀ (i:Nat) (c:AV) (v:Value),as[i]? = some c->vs[i]? = some v->VR μ F w c v
def LR.nil {μ:Mu} {F:Nat->Prop} {w:World}:LR μ F w [] []:=⟨rfl,fun i c v h=>by simp at h⟩
def LR.cons {μ:Mu} {F:Nat->Prop} {w:World} {a:AV} {v:Value} {as:List AV} {vs:List Value} (h:VR μ F w a v) (hs:LR μ F w as vs):LR μ F w (a :: as) (v :: vs):=by
 refine ⟨by simp [hs.1],fun i c u h1 h2=>?_⟩;cases i with
 | zero=>simp at h1 h2; subst h1; subst h2; exact h
 | succ i=>simp at h1 h2; exact hs.2 i c u h1 h2
theorem LR.head {μ:Mu} {F:Nat->Prop} {w:World} {a:AV} {v:Value} {as:List AV} {vs:List Value} (hs:LR μ F w (a :: as) (v :: vs)):VR μ F w a v:=hs.2 0 a v rfl rfl
def LR.tail {μ:Mu} {F:Nat->Prop} {w:World} {a:AV} {v:Value} {as:List AV} {vs:List Value} (hs:LR μ F w (a :: as) (v :: vs)):LR μ F w as vs :=
 ⟨by have:=hs.1; simp at this; exact this,fun i c u h1 h2=>hs.2 (i+1) c u (by simpa using h1) (by simpa using h2)⟩
def LR.mono {μ μ':Mu} {F F':Nat->Prop} {w w':World} (e:∀ b L,μ b=some L->μ' b=some L) (a:∀ c,F c->F' c)
  (d:∀ c,F c->w'.heap[c]? = w.heap[c]?) {as:List AV} {vs:List Value} (h:LR μ F w as vs):LR μ' F' w' as vs :=
 ⟨h.1,fun i c v h1 h2=>(h.2 i c v h1 h2).mono e a d⟩
def LR.append {μ:Mu} {F:Nat->Prop} {w:World}:∀ {as:List AV} {vs:List Value} {bs:List AV} {us:List Value},LR μ F w as vs->LR μ F w bs us->LR μ F w (as++bs) (vs++us)
 | [],[],_,_,_,h=>h
 | [],_ :: _,_,_,h,_=>by have:=h.1; simp at this
 | _ :: _,[],_,_,h,_=>by have:=h.1; simp at this
 | a :: as,v :: vs,_,_,h,h'=>LR.cons h.head (LR.append h.tail h')
def LR.of_agg {μ:Mu} {F:Nat->Prop} {w:World} {cs:List AV} {vs:Array Value} (h1:cs.length=vs.size) (h2:∀ (i:Nat) (c:AV) (v:Value),cs[i]? = some c->vs[i]? = some v->VR μ F w c v):LR μ F w cs vs.toList :=
 ⟨by simpa using h1,fun i c v hc a=>h2 i c v hc (by simpa using a)⟩
def LR.take {μ:Mu} {F:Nat->Prop} {w:World} {as:List AV} {vs:List Value} (h:LR μ F w as vs) (n:Nat):LR μ F w (as.take n) (vs.take n):=by
 refine ⟨by simp [h.1],fun i c v h1 h2=>?_⟩;rw [WW] at h1 h2;split at h1
 ·rename_i hlt; rw [if_pos hlt] at h2; exact h.2 i c v h1 h2
 ·cases h1
def LR.drop {μ:Mu} {F:Nat->Prop} {w:World} {as:List AV} {vs:List Value} (h:LR μ F w as vs) (n:Nat):LR μ F w (as.drop n) (vs.drop n):=by
 refine ⟨by simp [h.1],fun i c v h1 h2=>?_⟩;rw [WX] at h1 h2;exact h.2 _ c v h1 h2
def LR.get {μ:Mu} {F:Nat->Prop} {w:World} {as:List AV} {vs:List Value} (h:LR μ F w as vs) {i:Nat} {c:AV} (hc:as[i]? = some c):∃ v,vs[i]? = some v/\VR μ F w c v:=by
 have hi:i<as.length:=(WI.1 hc).1;exact ⟨vs[i]'(h.1 ▸ hi),zh _,h.2 i c _ hc (zh _)⟩
def LR.set {μ:Mu} {F:Nat->Prop} {w:World} {as:List AV} {vs:List Value} (h:LR μ F w as vs) (i:Nat) {a:AV} {v:Value} (b:VR μ F w a v):LR μ F w (as.set i a) (vs.set i v):=by
 refine ⟨by simp [h.1],fun j c u h1 h2=>?_⟩;by_cases e:i=j
 ·subst e;rw [Y0] at h1 h2;cases hc:as[i]? with
  | none=>rw [hc] at h1; cases h1
  | some x =>
   obtain ⟨y,hy,_⟩:=h.get hc;rw [hc] at h1; rw [hy] at h2;cases h1; cases h2; exact b
 ·rw [Y9 e] at h1 h2;exact h.2 j c u h1 h2
def LR.map {μ:Mu} {F:Nat->Prop} {w:World} {α:Type} (f:α->AV) (g:α->Value):∀ (l:List α),(∀ x,x∈l->VR μ F w (f x) (g x))->LR μ F w (l.map f) (l.map g)
 | [],_=>LR.nil
 | x :: l,h=>LR.cons (h x (WH ..)) (LR.map f g l fun y hy=>h y (SO _ hy))
def VR.oneCell {μ:Mu} {F:Nat->Prop} {w:World} {a:AV} {v:Value} (h:VR μ F w a v) (h1:a.one=true):v.oneCell'=true:=by
 cases h <;> first | rfl | (simp [AV.one] at h1)
def I3 (es:List MapEntry) (a:Nat):Prop:=(∀ e∈es,e.born<a)/\(es.map (·.born)).Nodup
def ER (P:Program) (μ:Mu) (F:Nat->Prop) (w:World) (L:BJ):Ent->Prop
 | .cells cs ty rw=>∃ arr fr,w.heap[L.blk]? = some (.cells arr ty fr)/\arr.size=L.N/\(P.info? ty).map (·.size)=some L.sz/\cs.length<=arr.size /\
   (∀ (i:Nat) (c:AV) (v:Value),cs[i]? = some c->arr[i]? = some v->VR μ F w c v)/\(rw=true->¬ F L.blk/\fr=(0,0))/\(rw=false->True)
 | .map es=>¬ F L.blk/\∃ a b,w.heap[L.blk]? = some (.map a b)/\LR μ F w (es.map (·.1)) (a.toList.map (·.key))/\LR μ F w (es.map (·.2)) (a.toList.map (·.val))/\I3 a.toList b
 | .mapR es=>∃ a b,w.heap[L.blk]? = some (.map a b)/\LR μ F w (es.map (·.1)) (a.toList.map (·.key))/\LR μ F w (es.map (·.2)) (a.toList.map (·.val))/\I3 a.toList b
 | .loop T ps d body st f=>¬ F L.blk/\∃ (r:Loop),w.heap[L.blk]? = some (.loop r)/\r.state=st/\LR μ F w T r.tmps.toList/\r.params.toList=ps/\bD P r.assign=some d/\bD P r.body=some body /\
   (match f,r.pending with | none,none=>True | some c,some e=>bD P e=some c | _,_=>False)
 | .siter s pos=>¬ F L.blk/\w.heap[L.blk]? = some (.stringIter s pos)
def Ent.rw:Ent->Bool
 | .cells _ _ rw=>rw
 | .mapR _=>false
 | _=>true
structure HR (P:Program) (μ:Mu) (F:Nat->Prop) (H:Heap) (w:World):Prop where
 dom:∀ b L,μ b=some L->b<H.next/\L.blk<w.heap.size
 fb:∀ c,F c->c<w.heap.size
 ent:∀ b e,H.get b=some e->∃ L,μ b=some L/\ER P μ F w L e
 inj:∀ b b' e e' L L',H.get b=some e->H.get b'=some e'->μ b=some L->μ b'=some L'->L.blk=L'.blk->b=b'
 gl:∀ g cs,Mr g=some cs->VR μ F w (.dp cs 0) (.pointer (some ⟨g,0,none⟩))
def Heap.rwAt (H:Heap) (b:Nat):Prop:=∃ e,H.get b=some e/\e.rw=true
def Tp (w w':World):Prop:=w'.tape=w.tape/\(Pl->w.drawn<=w'.drawn)
def Tp.same {w w':World} (h:w'.tape=w.tape) (h':w'.drawn=w.drawn):Tp w w':=⟨h,fun _=>Za h'.symm⟩
def Tp.draw {w:World}:Tp w { w with drawn:=w.drawn+1 }:=⟨rfl,fun _=>Nat.le_succ _⟩
def Tp.trans {w w' a:World} (h:Tp w w') (h':Tp w' a):Tp w a:=⟨h'.1.trans h.1,fun k=>WK (h.2 k) (h'.2 k)⟩
structure Stp (I:Nat->Prop) (P:Program) (μ:Mu) (F:Nat->Prop) (H:Heap) (w:World) (μ':Mu) (F':Nat->Prop) (H':Heap) (w':World):Prop where
 mu:∀ b L,μ b=some L->μ' b=some L
 fr:∀ c,F c->F' c
 size:w.heap.size<=w'.heap.size
 keep:∀ c,c<w.heap.size->(∀ b L,H.rwAt b->μ b=some L->L.blk≠c)->w'.heap[c]? = w.heap[c]?
 rw:∀ b L,H'.rwAt b->μ' b=some L->w.heap.size<=L.blk\/∃ b0 L0,H.rwAt b0/\μ b0=some L0/\L0.blk=L.blk
 next:H.next<=H'.next
 new:∀ b,b<H.next->¬ I b->μ b=none->μ' b=none
 rng:∀ b L,μ' b=some L->(∃ b0 L0,μ b0=some L0/\L0.blk=L.blk)\/w.heap.size<=L.blk
 old:∀ b e,H'.get b=some e->b<H.next->¬ I b->∃ e0,H.get b=some e0
 alv:∀ b e L,H'.get b=some e->μ' b=some L->w.heap.size<=L.blk\/∃ b0 e0 L0,H.get b0=some e0/\μ b0=some L0/\L0.blk=L.blk
 tape:Tp w w'
 os:w'.os=w.os
 out:w'.output=w.output
def ER.notF {P:Program} {μ:Mu} {F:Nat->Prop} {w:World} {L:BJ} {e:Ent} (h:ER P μ F w L e) (hr:e.rw=true):¬ F L.blk:=by
 cases e with
 | cells cs ty rw=>obtain ⟨_,_,_,_,_,_,_,a,_⟩:=h; exact (a hr).1
 | map es=>exact h.1
 | loop T ps b body st c=>exact h.1
 | siter s pos=>exact h.1
 | mapR es=>cases hr
def HR.rw_notF {P:Program} {μ:Mu} {F:Nat->Prop} {H:Heap} {w:World} (h:HR P μ F H w) {b:Nat} {L:BJ} (hb:H.rwAt b) (hL:μ b=some L):¬ F L.blk:=by
 obtain ⟨e,he,hr⟩:=hb;obtain ⟨L',a,c⟩:=h.ent b e he;rw [hL] at a; cases a;exact c.notF hr
section
variable {I:Nat->Prop} {P:Program} {μ:Mu} {F:Nat->Prop} {H:Heap} {w:World} {μ':Mu} {F':Nat->Prop} {H':Heap} {w':World}
def Stp.keepF (h:Stp I P μ F H w μ' F' H' w') (hH:HR P μ F H w):∀ c,F c->w'.heap[c]? = w.heap[c]? :=
 fun c hc=>h.keep c (hH.fb c hc) fun _ _ hb hL e=>hH.rw_notF hb hL (e ▸ hc)
def Stp.vr (h:Stp I P μ F H w μ' F' H' w') (hH:HR P μ F H w) {a:AV} {v:Value} (b:VR μ F w a v):VR μ' F' w' a v:=b.mono h.mu h.fr (h.keepF hH)
def Stp.lr (h:Stp I P μ F H w μ' F' H' w') (hH:HR P μ F H w) {as:List AV} {vs:List Value} (a:LR μ F w as vs):LR μ' F' w' as vs:=a.mono h.mu h.fr (h.keepF hH)
def Stp.refl (I:Nat->Prop) (P:Program) (μ:Mu) (F:Nat->Prop) (H:Heap) (w:World):Stp I P μ F H w μ F H w :=
 ⟨fun _ _ h=>h,fun _ h=>h,Jv _,fun _ _ _=>rfl,fun b L hb hL=>.inr ⟨b,L,hb,hL,rfl⟩,Jv _,fun _ _ _ h=>h,fun b L h=>.inl ⟨b,L,h,rfl⟩,fun b e h _ _=>⟨e,h⟩,fun b e L h hL=>.inr ⟨b,e,L,h,hL,rfl⟩,Tp.same rfl rfl,rfl,rfl⟩
def Stp.mono {a:Nat->Prop} (c:∀ b,I b->a b) (h:Stp I P μ F H w μ' F' H' w'):Stp a P μ F H w μ' F' H' w' :=
 ⟨h.mu,h.fr,h.size,h.keep,h.rw,h.next,fun b hb hn=>h.new b hb (fun hi=>hn (c b hi)),h.rng,fun b e hb hl hn=>h.old b e hb hl (fun hi=>hn (c b hi)),h.alv,h.tape,h.os,h.out⟩
def Stp.trans {μ₂:Mu} {j:Nat->Prop} {k:Heap} {l:World} (h:Stp I P μ F H w μ' F' H' w') (h':Stp I P μ' F' H' w' μ₂ j k l) :
  Stp I P μ F H w μ₂ j k l where
 mu b L hb:=h'.mu _ _ (h.mu _ _ hb)
 fr c hc:=h'.fr _ (h.fr _ hc)
 size:=WK h.size h'.size
 keep c hc hn:=by
  rw [h'.keep c (WP hc h.size) ?_,h.keep c hc hn];intro b L hb hL e;rcases h.rw b L hb hL with hge | ⟨b0,L0,h0,g,e0⟩
  ·omega
  ·exact hn b0 L0 h0 g (e0.trans e)
 rw b L hb hL:=by
  rcases h'.rw b L hb hL with hge | ⟨f,d,h1,i,a⟩
  ·exact .inl (WK h.size hge)
  ·rcases h.rw f d h1 i with hge | ⟨b0,L0,h0,g,e0⟩
   ·exact .inl (a ▸ hge)
   ·exact .inr ⟨b0,L0,h0,g,e0.trans a⟩
 next:=WK h.next h'.next
 new b hb hi hn:=h'.new b (WP hb h.next) hi (h.new b hb hi hn)
 rng b L hb:=by
  rcases h'.rng b L hb with ⟨f,d,h1,a⟩ | hge
  ·rcases h.rng f d h1 with ⟨b0,L0,h0,e0⟩ | hge
   ·exact .inl ⟨b0,L0,h0,e0.trans a⟩
   ·exact .inr (a ▸ hge)
  ·exact .inr (WK h.size hge)
 old b e hb hl hn:=by
  obtain ⟨a,h1⟩:=h'.old b e hb (WP hl h.next) hn;exact h.old b a h1 hl hn
 alv b e L hb hL:=by
  rcases h'.alv b e L hb hL with hge | ⟨f,a,d,h1,i,q1⟩
  ·exact .inl (WK h.size hge)
  ·rcases h.alv f a d h1 i with hge | ⟨b0,e0,L0,h0,g,q0⟩
   ·exact .inl (q1 ▸ hge)
   ·exact .inr ⟨b0,e0,L0,h0,g,q0.trans q1⟩
 tape:=h.tape.trans h'.tape
 os:=h'.os.trans h.os
 out:=h'.out.trans h.out
end
def D8.of_eq {x y:Nat} (h:D8.of x=D8.of y):x % 8=y % 8:=by
 have key:∀ (a b c a' b' d:Bool),(Bool.casesOn (motive:=fun _=>D8) a (Bool.casesOn (motive:=fun _=>D8) b (Bool.casesOn (motive:=fun _=>D8) c .d0 .d1) (Bool.casesOn (motive:=fun _=>D8) c .d2 .d3)) (Bool.casesOn (motive:=fun _=>D8) b (Bool.casesOn (motive:=fun _=>D8) c .d4 .d5) (Bool.casesOn (motive:=fun _=>D8) c .d6 .d7))) =
   (Bool.casesOn (motive:=fun _=>D8) a' (Bool.casesOn (motive:=fun _=>D8) b' (Bool.casesOn (motive:=fun _=>D8) d .d0 .d1) (Bool.casesOn (motive:=fun _=>D8) d .d2 .d3)) (Bool.casesOn (motive:=fun _=>D8) b' (Bool.casesOn (motive:=fun _=>D8) d .d4 .d5) (Bool.casesOn (motive:=fun _=>D8) d .d6 .d7)))->a=a'/\b=b'/\c=d:=by decide
 obtain ⟨h1,h2,h3⟩:=key _ _ _ _ _ _ h;have bit:∀ u v:Nat,Nat.beq (Nat.mod u 2) 1=Nat.beq (Nat.mod v 2) 1->u % 2=v % 2:=by
  intro u v hb;have j:Nat.mod u 2=u % 2:=rfl;have k:Nat.mod v 2=v % 2:=rfl;rw [j,k] at hb;rcases Nat.mod_two_eq_zero_or_one u with e | e <;> rcases Nat.mod_two_eq_zero_or_one v with e' | e' <;> rw [e,e'] at hb ⊢ <;> first | rfl | cases hb
 have g:=bit _ _ h1;have i:=bit _ _ h2;have l:=bit _ _ h3;have f:∀ u v:Nat,Nat.div u v=u / v:=fun _ _=>rfl;rw [f,f] at g i;omega
def Q.at_up {α:Type} (d a:D8) (u:α->α) (q:Q α):Q.at d (Q.up a u q)=if d=a then u (Q.at d q) else Q.at d q:=by
 cases q;cases d <;> cases a <;> rfl
def Tr.get_set (t:Tr) (n:Nat) (e:Option Ent) (m:Nat):(t.set n e).get m=if m=n then e else t.get m:=by
 have d:∀ u v:Nat,Nat.div u v=u / v:=fun _ _=>rfl;unfold Tr.set Tr.get;cases hn:Nat.ble n 16777215 with
 | false =>
  cases hm:Nat.ble m 16777215 with
  | false=>simp only [IR]
  | true =>
   have hne:m≠n:=fun h=>by rw [h,hn] at hm; cases hm
   simp only [if_neg hne]
 | true =>
  cases hm:Nat.ble m 16777215 with
  | false =>
   have hne:m≠n:=fun h=>by rw [h,hn] at hm; cases hm
   simp only [if_neg hne]
  | true =>
   have g:n<=16777215:=Z3 hn;have f:m<=16777215:=Z3 hm;simp only [d];by_cases c:m=n
   ·subst c;simp only [Q.at_up,if_true]
   ·rw [if_neg c];by_cases b:D8.of (m / 2097152)=D8.of (n / 2097152)
    ·rw [Q.at_up,if_pos b];by_cases a:D8.of (m / 262144)=D8.of (n / 262144)
     ·rw [Q.at_up,if_pos a];by_cases h5:D8.of (m / 32768)=D8.of (n / 32768)
      ·rw [Q.at_up,if_pos h5];by_cases h4:D8.of (m / 4096)=D8.of (n / 4096)
       ·rw [Q.at_up,if_pos h4];by_cases h3:D8.of (m / 512)=D8.of (n / 512)
        ·rw [Q.at_up,if_pos h3];by_cases h2:D8.of (m / 64)=D8.of (n / 64)
         ·rw [Q.at_up,if_pos h2];by_cases h1:D8.of (m / 8)=D8.of (n / 8)
          ·rw [Q.at_up,if_pos h1];have h0:D8.of m≠D8.of n:=fun h0=>c (by
            have:=D8.of_eq h0; have:=D8.of_eq h1; have:=D8.of_eq h2; have:=D8.of_eq h3
            have:=D8.of_eq h4; have:=D8.of_eq h5; have:=D8.of_eq a; have:=D8.of_eq b
            omega)
           rw [Q.at_up,if_neg h0]
          ·rw [Q.at_up,if_neg h1]
         ·rw [Q.at_up,if_neg h2]
        ·rw [Q.at_up,if_neg h3]
       ·rw [Q.at_up,if_neg h4]
      ·rw [Q.at_up,if_neg h5]
     ·rw [Q.at_up,if_neg a]
    ·rw [Q.at_up,if_neg b]
def S2 (a b:Nat):Nat.ble (Nat.succ a) b=decide (a<b):=by
 cases h:Nat.ble (Nat.succ a) b with
 | true=>exact (decide_eq_true (Z3 h)).symm
 | false =>
  refine (decide_eq_false fun hlt=>?_).symm;rw [Nat.ble_eq_true_of_le (show Nat.succ a<=b from hlt)] at h;cases h
def Heap.get_setO (H:Heap) (b:Nat) (o:Option Ent) (m:Nat):(H.setO b o).get m=if m=b then o else H.get m:=by
 unfold Heap.setO;cases hb:Nat.ble (Nat.succ b) H.lim with
 | false =>
  simp only [Heap.get,hb];by_cases h:m=b
  ·subst h;rw [hb,Tr.get_set,if_pos rfl]
  ·rw [if_neg h,Tr.get_set,if_neg h]
 | true =>
  simp only [Heap.get,hb];by_cases h:m=b
  ·subst h;rw [if_pos rfl,hb];show mV _ m ((m,o) :: H.ovr)=o;unfold mV;rw [if_pos rfl]
  ·rw [if_neg h];simp only [mV,if_neg h]
def ND (o:Option Ent):Mt (Mt o)=Mt o:=by
 cases o with
 | none=>rfl
 | some e=>cases e <;> rfl
def wR (lim:Nat) (d:Option Ent) (b:Nat) (hb:b<lim):∀ l:List (Nat × Option Ent),mV (Mt d) b ((l.filter fun p=>decide (p.1<lim)).map fun p=>(p.1,Mt p.2))=Mt (mV (Mt d) b l)
 | []=>(ND d).symm
 | (k,e) :: l=>by
  by_cases a:k<lim
  ·rw [ZP (by simpa using a),SA];simp only [mV];split
   ·rfl
   ·exact wR lim d b hb l
  ·rw [ZQ (by simpa using a)];have hne:¬ b=k:=fun e=>a (e ▸ hb);simp only [mV,if_neg hne];exact wR lim d b hb l
def uk (lim:Nat) (d:Option Ent) (b:Nat) (hb:¬ b<lim):∀ l:List (Nat × Option Ent),mV d b ((l.filter fun p=>decide (p.1<lim)).map fun p=>(p.1,Mt p.2))=d
 | []=>rfl
 | (k,e) :: l=>by
  by_cases a:k<lim
  ·rw [ZP (by simpa using a),SA];have hne:¬ b=k:=fun e=>hb (e ▸ a);simp only [mV,if_neg hne];exact uk lim d b hb l
  ·rw [ZQ (by simpa using a)];exact uk lim d b hb l
def Heap.get_ro (H:Heap) (b:Nat):H.ro.get b=if b<max H.next H.lim then Mt (H.get b) else H.get b:=by
 unfold Heap.ro Heap.get;simp only [S2];have e:Nat.max H.next H.lim=max H.next H.lim:=rfl
 rw [e];by_cases h1:b<max H.next H.lim
 ·rw [if_pos h1,decide_eq_true h1];by_cases h2:b<H.lim
  ·rw [decide_eq_true h2];exact wR H.lim _ b h2 _
  ·rw [decide_eq_false h2];exact uk H.lim _ b h2 _
 ·have h2:¬ b<H.lim:=by omega
  rw [if_neg h1,decide_eq_false h1,decide_eq_false h2]
def Heap.get_put (H:Heap) (b:Nat) (e:Ent) (m:Nat):(H.put b e).get m=if m=b then some e else H.get m:=Heap.get_setO _ _ _ _
def Heap.get_kill (H:Heap) (b:Nat) (m:Nat):(H.kill b).get m=if m=b then none else H.get m:=Heap.get_setO _ _ _ _
@[simp] theorem Heap.next_put (H:Heap) (b:Nat) (e:Ent):(H.put b e).next=H.next:=rfl
@[simp] theorem Heap.next_kill (H:Heap) (b:Nat):(H.kill b).next=H.next:=rfl
section
variable {P:Program} {μ:Mu} {F:Nat->Prop} {w:World} {T:Tm} {a:Act}
def FN {v:Value} {x:AV} (h:Co v=some x):VR μ F w x v:=by
 unfold Co at h;split at h <;> first | (cases h; done) | skip
 ·cases h; exact .bool _
 ·cases h; exact .int _ _
 ·cases h; exact .str _
 ·cases h; exact .nilPtr
 ·cases h; exact .nilSl
 ·cases h; exact .nilMap
 ·cases h; exact .nilFn
 ·cases h; exact .nilIf
 ·split at h
  ·rename_i a;cases h;exact .fn _ _ _ _ _ a.1.symm (fun i c v h=>by simp at h) a.2.symm (fun i c v h=>by simp at h)
  ·cases h
def vz:∀ {l:List Value} {cs:List AV},l.mapM Co=some cs->LR μ F w cs l
 | [],cs,h=>by simp at h; subst h; exact LR.nil
 | v :: l,cs,h=>by
  simp only [Yd,YS,C6,eD] at h;obtain ⟨x,hx,xs,a,h⟩:=h;cases h;exact LR.cons (FN hx) (vz a)
def Vk {v:Value} {x:AV} (h:sS v=some x):VR μ F w x v:=by
 unfold sS at h;split at h
 ·simp only [C6,eD] at h;obtain ⟨cs,a,h⟩:=h;cases h;have hl:=vz (μ:=μ) (F:=F) (w:=w) a;exact .agg _ _ (by simpa using hl.1) fun i c v h1 h2=>hl.2 i c v h1 (by simpa using h2)
 ·split at h
  ·rename_i b;cases h;exact .tup _ _ b.symm fun i c v h=>by simp at h
  ·cases h
 ·exact FN h
def JO (hT:LR μ F w T a.tmps.toList) (t:Nat):VR μ F w (ad T t) (a.tmps.getD t undef):=by
 unfold ad;cases hc:T[t]? with
 | none=>rw [qf,hc]; exact .undef _
 | some c =>
  obtain ⟨v,b,hr⟩:=hT.get hc
  have:a.tmps[t]? = some v:=by simpa using b
  rw [qf,hc];simp [this];exact hr
def aR {x:Operand} {s:Src} (hT:LR μ F w T a.tmps.toList) (h:bW x=some s):VR μ F w (s.ev T) (a.eval x):=by
 cases x with
 | tmp t=>cases h; exact JO hT t
 | const v =>
  simp only [bW,WE] at h;obtain ⟨y,hy,h⟩:=h;cases h;exact Vk hy
 | global g=>cases h
 | func f=>cases h; exact .fn _ _ _ _ _ rfl (fun i c v h=>by simp at h) rfl (fun i c v h=>by simp at h)
def pF (hT:LR μ F w T a.tmps.toList):∀ {l:List Operand} {b:List Src},l.mapM bW=some b->LR μ F w (b.map (Src.ev T)) (l.map a.eval)
 | [],b,h=>by simp at h; subst h; exact LR.nil
 | x :: l,b,h=>by
  simp only [Yd,YS,C6,eD] at h;obtain ⟨s,hs,d,c,h⟩:=h;cases h;exact LR.cons (aR hT hs) (pF hT c)
def Bb {x:AV} {v:Value} (h:VR μ F w x v) (d:x.cells.all AV.one=true):LR μ F w x.cells v.cells.toList:=by
 cases h with
 | agg cs vs hl e=>exact LR.of_agg hl e
 | undef v=>simp [AV.cells,AV.one] at d
 | tup cs vs hl e=>simp [AV.cells,AV.one] at d
 | bool b=>exact LR.cons (.bool b) LR.nil
 | int k n=>exact LR.cons (.int k n) LR.nil
 | str s=>exact LR.cons (.str s) LR.nil
 | nilPtr=>exact LR.cons .nilPtr LR.nil
 | nilSl=>exact LR.cons .nilSl LR.nil
 | nilFn=>exact LR.cons .nilFn LR.nil
 | nilIf=>exact LR.cons .nilIf LR.nil
 | nilMap=>exact LR.cons .nilMap LR.nil
 | sl0 a cap=>exact LR.cons (.sl0 a cap) LR.nil
 | sl cells n cap blk off arr ty fr h1 h2 h3 h4 h5=>exact LR.cons (.sl cells n cap blk off arr ty fr h1 h2 h3 h4 h5) LR.nil
 | dp cells o blk off arr ty fr h1 h2 h4 h5=>exact LR.cons (.dp cells o blk off arr ty fr h1 h2 h4 h5) LR.nil
 | own b off n c sz ex L cap h1 h2 h3 h4 h5 g=>exact LR.cons (.own b off n c sz ex L cap h1 h2 h3 h4 h5 g) LR.nil
 | ptr b off L h=>exact LR.cons (.ptr b off L h) LR.nil
 | fn f as bs us vs h1 h2 h3 h4=>exact LR.cons (.fn f as bs us vs h1 h2 h3 h4) LR.nil
 | ifc t x v h=>exact LR.cons (.ifc t x v h) LR.nil
 | map b L h=>exact LR.cons (.map b L h) LR.nil
 | loopv b L h=>exact LR.cons (.loopv b L h) LR.nil
def LR.one {as:List AV} {vs:List Value} (h:LR μ F w as vs) (h1:as.all AV.one=true):∀ v∈vs,v.oneCell'=true:=by
 intro v a;obtain ⟨i,hi,rfl⟩:=List.mem_iff_getElem.1 a;have b:i<as.length:=h.1 ▸ hi
 have:=h.2 i as[i] vs[i] (zh _) (zh _)
 exact this.oneCell (by rw [WT] at h1; exact h1 _ (EL _))
def gO {x:AV} {v:Value} {n:Nat} (h:qm x=some n) (a:VR μ F w x v):∃ k,v=.int k (n:Int):=by
 unfold qm at h;split at h
 ·cases h;cases a with
  | int k n=>exact ⟨_,rfl⟩
 ·cases h
def Ix:∀ (l:List Value) (off:Nat) (cs:Array Value),off+l.length<=cs.size ->
  ((l.zipIdx).foldl (fun (cs:Array Value) (p:Value × Nat)=>cs.setIfInBounds (off+p.2) p.1) cs).toList=cs.toList.take off++l++cs.toList.drop (off+l.length):=by
 intro l off cs h;have key:∀ (l:List Value) (k:Nat) (cs:Array Value),off+k+l.length<=cs.size ->
   ((l.zipIdx k).foldl (fun (cs:Array Value) (p:Value × Nat)=>cs.setIfInBounds (off+p.2) p.1) cs).toList=cs.toList.take (off+k)++l++cs.toList.drop (off+k+l.length):=by
  intro l
  induction l with
  | nil=>intro k cs h; simp
  | cons v l a =>
   intro k cs h;simp only [W5] at h;simp only [List.zipIdx_cons,Ym];rw [a (k+1) _ (by simp; omega)];simp only [Zy,W5];have hlt:off+k<cs.toList.length:=by rw [Zh]; omega
   have h1:(cs.toList.set (off+k) v).take (off+(k+1))=cs.toList.take (off+k)++[v]:=by
    rw [<- Xz,List.take_add_one,List.take_set_of_le (Jv _),List.getElem?_set_self hlt]; rfl
   have h2:(cs.toList.set (off+k) v).drop (off+(k+1)+l.length)=cs.toList.drop (off+k+(l.length+1)):=by
    rw [List.drop_set_of_lt (by omega)]; congr 1; omega
   rw [h1,h2]; simp
 simpa using key l 0 cs (by simpa using h)
def Ep (hT:LR μ F w T a.tmps.toList) (i:Nat->Option (Nat × Nat)):∀ (parts:List (Nat × Operand)) (ps:List ((Nat × Nat) × Src)) (z:List AV) (d:Array Value) (cs:List AV),
  (parts.mapM fun (p:Nat × Operand)=>(do some ((<- i p.1),(<- bW p.2)):Option ((Nat × Nat) × Src)))=some ps->LR μ F w z d.toList->cP z (ps.map fun p=>(p.1,p.2.ev T))=some cs ->
  ∃ vs,Instr.fill i d (parts.map fun p=>(p.1,a.eval p.2))=some vs/\LR μ F w cs vs.toList:=by
 intro parts
 induction parts with
 | nil =>
  intro ps z d cs h g b;simp at h; subst h;simp [cP] at b; subst b;exact ⟨d,rfl,g⟩
 | cons p parts t =>
  intro ps z d cs h g b;simp only [Yd,YS,C6,eD] at h;obtain ⟨q,⟨f,k,s,hs,hq⟩,u,l,h⟩:=h;cases h; cases hq;simp only [SA,cP] at b;split at b
  ·rename_i hc;obtain ⟨h1,h2,h3⟩:=hc;have n:=aR hT hs;have hl:=Bb n h3;have m:(a.eval p.2).cells.size=f.2:=by have:=hl.1; simp at this; omega
   have r:=g.1;simp only [Zh] at r;obtain ⟨vs,o,hr⟩:=t u _ (((a.eval p.2).cells.zipIdx.foldl (fun cs (c,j)=>cs.setIfInBounds (f.1+j) c) d)) cs l (by
    have e:=Ix (a.eval p.2).cells.toList f.1 d (by simp; omega);rw [<- Array.toList_zipIdx,Array.foldl_toList] at e;rw [e];refine LR.append (LR.append (g.take _) hl) ?_
    have:f.1+(a.eval p.2).cells.toList.length=f.1+f.2:=by simp [m]
    rw [this];exact g.drop _) b
   refine ⟨vs,?_,hr⟩;simp only [SA,Instr.fill,k];rw [if_neg (by simp; omega)];exact o
  ·cases b
def cJ {s:Sem Value} {v:Value} {w':World} (h:s.run P w=.ok v w'):((do pure (Next.value (<- s))):Sem Next).run P w=.ok (.value v) w':=by
 simp [h]
def jC {t:TypeId} {i:TypeInfo} (h:P.info? t=some i) (w:World):(typeInfo t).run P w=.ok i w:=by
 simp [typeInfo,h]
def co {t:TypeId} {n:Nat} (h:sizeOf? P t=some n) (w:World):(Go.sizeOf t).run P w=.ok n w:=by
 simp only [sizeOf?,WE] at h;obtain ⟨i,hi,rfl⟩:=h;simp [Go.sizeOf,jC hi]
def KT {t:TypeId} {n:Nat} (h:bytesOf? P t=some n) (w:World):∃ i,(typeInfo t).run P w=.ok i w/\i.bytes=n:=by
 simp only [bytesOf?,WE] at h;obtain ⟨i,hi,rfl⟩:=h;exact ⟨i,jC hi w,rfl⟩
def qV {t:TypeId} {z:List AV} (h:zeroCells? P t=some z) (w:World):∃ v,(zeroValue t).run P w=.ok v w/\∀ μ F W,LR μ F W z v.cells.toList:=by
 simp only [zeroCells?,C6,eD] at h;obtain ⟨i,hi,zv,a,h⟩:=h;exact ⟨zv,by simp [zeroValue,jC hi,a],fun μ F W=>vz h⟩
def AC {t:TypeId} (h:qD P t=some none) (w:World):(isAgg t).run P w=.ok false w:=by
 simp only [qD,C6,eD] at h;obtain ⟨d,hd,h⟩:=h;split at h
 ·simp at h
 ·simp at h
 ·rename_i h1 h2;simp only [isAgg,Sem.run_bind,run_underlying hd,Result.andThen_ok];cases d <;> first | rfl | (exact absurd rfl (h1 _)) | (exact absurd rfl (h2 _ _))
def AB {t:TypeId} {n:Nat} (h:qD P t=some (some n)) (w:World):(isAgg t).run P w=.ok true w/\(Go.sizeOf t).run P w=.ok n w:=by
 simp only [qD,C6,eD] at h;obtain ⟨d,hd,h⟩:=h;split at h
 ·simp only [WE] at h;obtain ⟨m,hm,h⟩:=h;cases h;exact ⟨by simp [isAgg,run_underlying hd],co hm w⟩
 ·simp only [WE] at h;obtain ⟨m,hm,h⟩:=h;cases h;exact ⟨by simp [isAgg,run_underlying hd],co hm w⟩
 ·cases h
def xT {cs:List AV} {vs:Array Value} {off:Nat} {k:Option Nat} {t:TypeId} {v:AV} (b:qD P t=some k) (hl:LR μ F w cs vs.toList) (h:bN cs off k=some v) :
  ∃ u,(part t vs off).run P w=.ok u w/\VR μ F w v u:=by
 cases k with
 | none =>
  obtain ⟨u,e,hr⟩:=hl.get h;have f:vs[off]? = some u:=by simpa using e
  exact ⟨u,by simp [part,AC b,f],hr⟩
 | some n =>
  simp only [bN] at h;split at h
  ·rename_i g;cases h;obtain ⟨h1,h2⟩:=AB b w;refine ⟨.agg (vs.extract off (off+n)),by simp [part,h1,h2],?_⟩;have d:=hl.1;simp at d;refine .agg _ _ (by simp; omega) fun i c v hc a=>?_;rw [WW] at hc;split at hc
   ·rename_i hi;rw [WX] at hc;refine hl.2 _ c v hc ?_;rw [Array.getElem?_extract] at a;split at a
    ·simpa using a
    ·cases a
   ·cases hc
  ·cases h
def rF (op:BinOp) (ty:TypeId) (X Y:Operand) (j k:IntKind) (m n:Int):(eqGuard op ty X Y (.int j m) (.int k n)).run P w=.ok () w:=by
 unfold eqGuard; cases op <;> rfl
def vN (op:BinOp) (ty:TypeId) (X Y:Operand) (b c:Bool):(eqGuard op ty X Y (.bool b) (.bool c)).run P w=.ok () w:=by
 unfold eqGuard; cases op <;> rfl
def rE (op:BinOp) (ty:TypeId) (X Y:Operand) (b c:ByteArray):(eqGuard op ty X Y (.string b) (.string c)).run P w=.ok () w:=by
 unfold eqGuard; cases op <;> rfl
def ib (op:BinOp) (ty:TypeId) (X Y:Operand) (x:Value) (b:Option Addr) (m n:Nat):(eqGuard op ty X Y x (.slice b m n)).run P w=.ok () w:=by
 unfold eqGuard; cases op <;> cases x <;> rfl
def uR {op:BinOp} {k yk:IntKind} {x y:Int} {v:AV} (h:lP op k x y=some v):∃ u,(Op.shift op k x yk y).run P w=.ok u w/\VR μ F w v u:=by
 unfold lP at h;split at h
 ·cases h
 ·rename_i hy;unfold Op.shift;cases op <;> simp at h <;> subst h <;> simp [hy] <;> exact .int _ _
def EQ {op:BinOp} {ty:TypeId} {k:IntKind} {x y:Int} {v:AV} (h:lX op k x y=some v):∃ u,(binOp op ty (.int k x) (.int k y)).run P w=.ok u w/\VR μ F w v u:=by
 unfold lX at h;cases op
 case quo=>simp at h; obtain ⟨h0,h⟩:=h; subst h; exact ⟨_,by simp [binOp,Op.intDiv,h0],.int _ _⟩
 case rem=>simp at h; obtain ⟨h0,h⟩:=h; subst h; exact ⟨_,by simp [binOp,Op.intDiv,h0],.int _ _⟩
 case shl=>cases h
 case shr=>cases h
 all_goals (injection h with h; subst h; cases k <;> first | exact ⟨_,rfl,.int _ _⟩ | exact ⟨_,rfl,.bool _⟩)
def IQ {op:BinOp} {kd:BK} {ty:TypeId} {x y:AV} {g i:Value} {v:AV} (d:j8 P ty=some kd)
  (hx:VR μ F w x g) (hy:VR μ F w y i) (h:b7 op kd x y=some v) (X Y:Operand) :
  ∃ u,((do eqGuard op ty X Y g i; binOp op ty g i):Sem Value).run P w=.ok u w/\VR μ F w v u:=by
 unfold b7 at h;split at h
 ·cases hx; cases hy;rename_i k1 l k2 m;split at h
  ·obtain ⟨u,f,hr⟩:=uR (P:=P) (μ:=μ) (F:=F) (w:=w) (yk:=k2) h;exact ⟨u,by simp [rF,binOp,f],hr⟩
  ·obtain ⟨u,f,hr⟩:=uR (P:=P) (μ:=μ) (F:=F) (w:=w) (yk:=k2) h;exact ⟨u,by simp [rF,binOp,f],hr⟩
  ·split at h
   ·rename_i j;subst j;obtain ⟨u,f,hr⟩:=EQ (P:=P) (μ:=μ) (F:=F) (w:=w) (ty:=ty) h;exact ⟨u,by simp [rF,f],hr⟩
   ·cases h
 ·cases hx; cases hy;rename_i b c _ _;have hb:P.underlying ty=some .bool:=by
   unfold j8 at d; split at d <;> first | assumption | (cases d)
  split at h <;> first | (cases h; done) | skip
  ·cases h; exact ⟨_,by simp only [Sem.run_bind,vN,Result.andThen_ok]; exact run_eql_bool w ty _ _ hb,.bool _⟩
  ·cases h; exact ⟨_,by simp only [Sem.run_bind,vN,Result.andThen_ok]; exact run_neq_bool w ty _ _ hb,.bool _⟩
 ·cases hx; cases hy;split at h <;> first | (cases h; done) | skip
  ·cases h; exact ⟨_,by simp [rE,binOp,Op.stringOp],.bool _⟩
  ·cases h; exact ⟨_,by simp [rE,binOp,Op.stringOp],.bool _⟩
  ·split at h
   ·cases h
   ·rename_i k;cases h; exact ⟨_,by simp only [Sem.run_bind,rE,Result.andThen_ok,binOp,Op.stringOp]; rw [if_neg k]; rfl,.str _⟩
 ·cases hy;have hb:∃ e,P.underlying ty=some (.slice e):=by
   unfold j8 at d; split at d <;> first | (cases d; done) | exact ⟨_,by assumption⟩
  obtain ⟨e,hb⟩:=hb;split at h <;> first | (cases h; done) | skip
  ·simp only [WE] at h;obtain ⟨b,a,rfl⟩:=h;unfold zg at a;split at a <;> first | (cases a; done) | skip
   ·cases a; cases hx;exact ⟨_,by simp only [Sem.run_bind,ib,Result.andThen_ok,binOp,run_equal_slice_nil w ty e _ _ _ hb,Sem.run_pure]; rfl,.bool _⟩
   ·cases a; cases hx;exact ⟨_,by simp only [Sem.run_bind,ib,Result.andThen_ok,binOp,run_equal_slice_nil w ty e _ _ _ hb,Sem.run_pure]; rfl,.bool _⟩
   ·cases a; cases hx
    ·exact ⟨_,by simp only [Sem.run_bind,ib,Result.andThen_ok,binOp,run_equal_slice_nil w ty e _ _ _ hb,Sem.run_pure]; rfl,.bool _⟩
    ·exact ⟨_,by simp only [Sem.run_bind,ib,Result.andThen_ok,binOp,run_equal_slice_nil w ty e _ _ _ hb,Sem.run_pure]; rfl,.bool _⟩
  ·simp only [WE] at h;obtain ⟨b,a,rfl⟩:=h;unfold zg at a;split at a <;> first | (cases a; done) | skip
   ·cases a; cases hx;exact ⟨_,by simp only [Sem.run_bind,ib,Result.andThen_ok,binOp,run_equal_slice_nil w ty e _ _ _ hb,Sem.run_pure]; rfl,.bool _⟩
   ·cases a; cases hx;exact ⟨_,by simp only [Sem.run_bind,ib,Result.andThen_ok,binOp,run_equal_slice_nil w ty e _ _ _ hb,Sem.run_pure]; rfl,.bool _⟩
   ·cases a; cases hx
    ·exact ⟨_,by simp only [Sem.run_bind,ib,Result.andThen_ok,binOp,run_equal_slice_nil w ty e _ _ _ hb,Sem.run_pure]; rfl,.bool _⟩
    ·exact ⟨_,by simp only [Sem.run_bind,ib,Result.andThen_ok,binOp,run_equal_slice_nil w ty e _ _ _ hb,Sem.run_pure]; rfl,.bool _⟩
 ·exfalso
  unfold j8 at d;split at d <;> cases d
 ·cases h
def Ly {op:BinOp} {ty:TypeId} {l:Array (String × TypeId)} {x y:AV} {c e:Value} {v:AV} (j:P.underlying ty=some (.interface l))
  (hx:VR μ F w x c) (hy:VR μ F w y e) (h:b7 op .ifc x y=some v) {X Y:Operand} (hc:(vF X || vF Y)=true) :
  ∃ u,((do eqGuard op ty X Y c e; binOp op ty c e):Sem Value).run P w=.ok u w/\VR μ F w v u:=by
 have a:=run_underlying (P:=P) j;have f:∀ op,(eqGuard op ty X Y .nilIface .nilIface).run P w=.ok () w:=by
  intro op;unfold eqGuard;cases op <;> cases X <;> cases Y <;> first | rfl | (simp [vF] at hc; done)
 have g:∀ op t z,(eqGuard op ty X Y .nilIface (.iface t z)).run P w=.ok () w:=fun op t z=>by unfold eqGuard; cases op <;> rfl
 have i:∀ op t z,(eqGuard op ty X Y (.iface t z) .nilIface).run P w=.ok () w:=fun op t z=>by unfold eqGuard; cases op <;> rfl
 have k1:∀ d,(Op.equalIn (d+1) ty .nilIface .nilIface).run P w=.ok true w:=fun d=>by simp [Op.equalIn,a]
 have k2:∀ d t z,(Op.equalIn (d+1) ty .nilIface (.iface t z)).run P w=.ok false w:=fun d t z=>by simp [Op.equalIn,a]
 have k:∀ d t z,(Op.equalIn (d+1) ty (.iface t z) .nilIface).run P w=.ok false w:=fun d t z=>by simp [Op.equalIn,a]
 have q1:(Op.equal ty .nilIface .nilIface).run P w=.ok true w:=k1 9999;have q2:∀ t z,(Op.equal ty .nilIface (.iface t z)).run P w=.ok false w:=k2 9999;have q3:∀ t z,(Op.equal ty (.iface t z) .nilIface).run P w=.ok false w:=k 9999;simp only [b7] at h;split at h <;> first | (cases h; done) | skip
 all_goals
  simp only [WE] at h;obtain ⟨b,hb,rfl⟩:=h;unfold HW at hb;split at hb <;> first | (cases hb; done) | skip
  all_goals
   cases hb;cases hx;cases hy;refine ⟨_,?_,.bool _⟩
   first
    | (simp only [Sem.run_bind,f,q1,binOp,Result.andThen_ok,Sem.run_pure]; done)
    | (simp only [Sem.run_bind,g,q2,binOp,Result.andThen_ok,Sem.run_pure]; done)
    | (simp only [Sem.run_bind,i,q3,binOp,Result.andThen_ok,Sem.run_pure]; done)
    | (simp only [Sem.run_bind,f,q1,binOp,Result.andThen_ok,Sem.run_pure]; rfl)
    | (simp only [Sem.run_bind,g,q2,binOp,Result.andThen_ok,Sem.run_pure]; rfl)
    | (simp only [Sem.run_bind,i,q3,binOp,Result.andThen_ok,Sem.run_pure]; rfl)
def LO {as bs:List AV} {r:Bool} (h:Gj as bs=some r):∃ a b c d,as=[.bool a,.bool b]/\bs=[.bool c,.bool d]/\r=(a == c && b == d):=by
 unfold Gj at h;split at h
 ·cases h; exact ⟨_,_,_,_,rfl,rfl,rfl⟩
 ·cases h
def Oe {b c:Bool} {us:Array Value} (h:LR μ F w [.bool b,.bool c] us.toList):us = #[.bool b,.bool c]:=by
 obtain ⟨l⟩:=us;obtain ⟨hl,a⟩:=h
 match l,hl with
 | [x,y],_ =>
  have h0:=a 0 _ x rfl rfl;have h1:=a 1 _ y rfl rfl;cases h0; cases h1;rfl
def LN (d:Nat) {t e:TypeId} (j:P.underlying t=some (.array 2 e)) (he:P.underlying e=some .bool) (hs:sizeOf? P e=some 1) (a b c f:Bool) :
  (Op.equalIn (d+2) t (.agg #[.bool a,.bool b]) (.agg #[.bool c,.bool f])).run P w=.ok (a == c && b == f) w:=by
 have g:(isAgg e).run P w=.ok false w:=by simp [isAgg,run_underlying he]
 have hp:∀ (x y:Bool) (i:Nat) (z:Bool),#[Value.bool x,Value.bool y][i]? = some (.bool z)->(part e #[.bool x,.bool y] i).run P w=.ok (.bool z) w:=by
  intro x y i z h;simp [part,g,h]
 have hq:=fun (x y:Bool)=>run_equalIn_bool (P:=P) w d e x y he;unfold Op.equalIn;simp only [Sem.run_bind,run_underlying j,Result.andThen_ok,co hs];simp only [Std.Legacy.Range.forIn_eq_forIn_range',Std.Legacy.Range.size];simp [List.range',hp,hq];cases a <;> cases b <;> cases c <;> cases f <;> simp
def Gi {ty:TypeId} {as bs:List AV} {us vs:Array Value} {r:Bool} (f:uB P ty=true) (ha:LR μ F w as us.toList) (hb:LR μ F w bs vs.toList) (h:Gj as bs=some r) (X Y:Operand) :
  ((do eqGuard .eql ty X Y (.agg us) (.agg vs); binOp .eql ty (.agg us) (.agg vs)):Sem Value).run P w=.ok (.bool r) w /\
  ((do eqGuard .neq ty X Y (.agg us) (.agg vs); binOp .neq ty (.agg us) (.agg vs)):Sem Value).run P w=.ok (.bool !r) w:=by
 obtain ⟨a,b,c,d,rfl,rfl,rfl⟩:=LO h;obtain rfl:=Oe ha;obtain rfl:=Oe hb;unfold uB at f;split at f
 ·rename_i e he;simp only [W6,beq_iff_eq] at f;obtain ⟨h1,hs⟩:=f;split at h1
  ·rename_i g;have hg:P.eqGuardType P.depth ty=false:=by
    have:P.depth=(2*(P.types.size+Made.depth))+2:=rfl
    rw [this];simp [Program.eqGuardType,he,g]
   have j:∀ op,(eqGuard op ty X Y (.agg #[.bool a,.bool b]) (.agg #[.bool c,.bool d])).run P w=.ok () w:=by
    intro op;unfold eqGuard;cases op <;> simp [hg]
   have i:=LN (w:=w) 9998 he g hs a b c d;refine ⟨?_,?_⟩
   ·simp only [Sem.run_bind,j,Result.andThen_ok,binOp,Op.equal,Op.maxDepth,i,Sem.run_pure]
   ·simp only [Sem.run_bind,j,Result.andThen_ok,binOp,Op.equal,Op.maxDepth,i,Sem.run_pure]
  ·cases h1
 ·cases f
def vM (d:Nat) (xs l:Array Value):∀ (c:List Field) (i:Nat) (as bs:List AV) (r:Bool),(∀ j f,c[j]? = some f → f.name ≠ "_" ∧ f.offset=i+j ∧ ∃ k,P.underlying f.type=some (.int k)) →
  (∀ j k a,as[j]? = some (.int k a)->xs[i+j]? = some (.int k a))->(∀ j k a,bs[j]? = some (.int k a)->l[i+j]? = some (.int k a))->rD c.length as bs=some r ->
  (Op.eqFields (d+1) xs l c).run P w=.ok r w
 | [],i,as,bs,r,m,ha,hb,h=>by
  unfold rD at h;split at h
  ·cases h; simp [Op.eqFields]
  ·rename_i e; cases e
  ·cases h
 | f :: c,i,as,bs,r,m,ha,hb,h=>by
  unfold rD at h;split at h
  ·rename_i e; cases e
  ·rename_i n k a p C b s e
   injection e with e
   split at h
   ·rename_i u;subst u;simp only [WE] at h;obtain ⟨A,o,rfl⟩:=h;obtain ⟨hn,v,q,hq⟩:=m 0 f rfl;have t:(isAgg f.type).run P w=.ok false w:=by simp [isAgg,run_underlying hq]
    have hp:∀ (zs:Array Value) (z:Value),zs[i]? = some z->(part f.type zs f.offset).run P w=.ok z w:=by
     intro zs z x;rw [v];simp [part,t,x]
    have hx:=hp xs _ (ha 0 k a rfl);have hy:=hp l _ (hb 0 k b rfl);have y:=vM d xs l c (i+1) p s A (fun j g hg=>by have:=m (j+1) g hg; exact ⟨this.1,by omega,this.2.2⟩) (fun j k a hj=>by have:=ha (j+1) k a hj; rwa [show i+1+j=i+(j+1) by omega]) (fun j k a hj=>by have:=hb (j+1) k a hj; rwa [show i+1+j=i+(j+1) by omega]) (by rw [<- e] at o; exact o);simp only [Op.eqFields,hn,ne_eq,not_false_eq_true,if_true,Sem.run_bind,hx,hy,Result.andThen_ok,run_equalIn_int w d f.type k q a b hq];cases B:(a == b)
    ·simp
    ·simpa using y
   ·cases h
  ·cases h
def AS {ty:TypeId} {as bs:List AV} {us vs:Array Value} {r:Bool} (b:je P ty≠0) (ha:LR μ F w as us.toList) (hb:LR μ F w bs vs.toList) (h:rD (je P ty) as bs=some r) (X Y:Operand) :
  ((do eqGuard .eql ty X Y (.agg us) (.agg vs); binOp .eql ty (.agg us) (.agg vs)):Sem Value).run P w=.ok (.bool r) w /\
  ((do eqGuard .neq ty X Y (.agg us) (.agg vs); binOp .neq ty (.agg us) (.agg vs)):Sem Value).run P w=.ok (.bool !r) w:=by
 unfold je at b h;split at b
 rotate_left
 ·exact absurd rfl b
 rename_i c d;simp only [d] at h;split at b
 rotate_left
 ·exact absurd rfl b
 rename_i hc;simp only [hc,if_true] at h;simp only [W6,XA,WT,bne_iff_ne,ne_eq,beq_iff_eq] at hc;obtain ⟨o,s⟩:=hc;have m:P.fieldsOf ty=c:=by simp [Program.fieldsOf,d]
 have l:∀ j f,c.toList[j]? = some f → f.name ≠ "_" ∧ f.offset=0+j ∧ ∃ k,P.underlying f.type=some (.int k):=by
  intro j f hj;have hm:(f,j)∈c.toList.zipIdx:=by
   rw [List.mem_zipIdx_iff_getElem?]; exact hj
  have:=o _ hm
  refine ⟨this.1,by simpa using this.2.1,?_⟩;have h3:=this.2.2;split at h3
  ·exact ⟨_,by assumption⟩
  ·cases h3
 have g:∀ {ls:List AV} {zs:Array Value},LR μ F w ls zs.toList->∀ j k a,ls[j]? = some (.int k a)->zs[0+j]? = some (.int k a):=by
  intro ls zs hl j k a hj;obtain ⟨u,t⟩:=hl;have hlt:j<ls.length:=(WI.1 hj).1;have e:zs.toList[j]? = some (zs.toList[j]'(by omega)):=zh _;have n:=t j _ _ hj e
  generalize v:zs.toList[j]'(by omega)=z at n e
  cases n;rw [Xg,<- Z4];exact e
 have hg:P.eqGuardType P.depth ty=false:=by
  have:P.depth=(2*(P.types.size+Made.depth))+2:=rfl
  rw [this];simp only [Program.eqGuardType,d];rw [<- Array.any_toList,XV];intro f p;obtain ⟨j,hj⟩:=List.mem_iff_getElem?.1 p;obtain ⟨-,-,k,q⟩:=l j f hj;simp [q]
 have he:=vM (w:=w) 9998 us vs c.toList 0 as bs r l (g ha) (g hb) (by simpa using h);have i:(Op.equalIn 10000 ty (.agg us) (.agg vs)).run P w=.ok r w:=by
  rw [run_equalIn_struct w 9999 ty us vs (by rw [m]; exact d) s,m];exact he
 refine ⟨?_,?_⟩
 ·simp only [Sem.run_bind,run_eqGuard_agg w _ _ _ _ _ _ hg,Result.andThen_ok,run_eql_struct,i]
 ·simp only [Sem.run_bind,run_eqGuard_agg w _ _ _ _ _ _ hg,Result.andThen_ok,run_neq_struct,i]
def Kz {op:UnOp} {x:AV} {a:Value} {v:AV} (hx:VR μ F w x a) (h:Sa op x=some v):∃ u,(Op.unary op a).run P w=.ok u w/\VR μ F w v u:=by
 unfold Sa at h;split at h
 ·cases h; cases hx; exact ⟨_,rfl,.int _ _⟩
 ·cases h; cases hx; exact ⟨_,rfl,.int _ _⟩
 ·cases h; cases hx; exact ⟨_,rfl,.bool _⟩
 ·cases h
def OR (μ:Mu) (F:Nat->Prop) (w:World) (x:Option AV) (v:Option Value):Prop :=
 match x,v with
 | none,none=>True
 | some x,some v=>VR μ F w x v
 | _,_=>False
def jY (k:IntKind) (n y:Nat) (code:BoundsCode) (h:n<=y):(Instr.sliceBound (.int k (n:Int)) y code).run P w=.ok n w:=by
 simp [Instr.sliceBound,asIntOf,h]
def uE {len cap m h l:Nat} {k1 k2:IntKind} {lo:Option Value} (hl:(lo=none/\l=0)\/∃ k,lo=some (.int k (l:Int))) (h1:m<=cap) (h2:h<=m) (h3:l<=h) :
  (Instr.sliceBounds true len cap lo (some (.int k1 (h:Int))) (some (.int k2 (m:Int)))).run P w=.ok (l,h,m) w:=by
 rcases hl with ⟨rfl,rfl⟩ | ⟨k,rfl⟩
 ·simp [Instr.sliceBounds,jY k2 m cap _ h1,jY k1 h m _ h2]
 ·simp [Instr.sliceBounds,jY k2 m cap _ h1,jY k1 h m _ h2,jY k l h _ h3]
def qi {s:Bool} {len cap h l:Nat} {lo hi:Option Value} (hl:(lo=none/\l=0)\/∃ k,lo=some (.int k (l:Int))) (hh:(hi=none/\h=len)\/∃ k,hi=some (.int k (h:Int))) (h2:h<=cap) (h3:l<=h) :
  (Instr.sliceBounds s len cap lo hi none).run P w=.ok (l,h,cap) w:=by
 rcases hl with ⟨rfl,rfl⟩ | ⟨k,rfl⟩ <;> rcases hh with ⟨rfl,rfl⟩ | ⟨a,rfl⟩
 ·simp [Instr.sliceBounds]
 ·simp [Instr.sliceBounds,jY a h cap _ h2]
 ·simp [Instr.sliceBounds,jY k l h _ h3]
 ·simp [Instr.sliceBounds,jY a h cap _ h2,jY k l h _ h3]
def mY {x:Option AV} {v:Option Value} {n d:Nat} (h:OR μ F w x v) (hn:(x.map qm).getD (some d)=some n):(v=none/\n=d)\/∃ k,v=some (.int k (n:Int)):=by
 cases x with
 | none =>
  cases v with
  | none=>simp at hn; exact .inl ⟨rfl,hn.symm⟩
  | some v=>exact h.elim
 | some x =>
  cases v with
  | none=>exact h.elim
  | some v =>
   simp at hn;obtain ⟨k,a⟩:=gO hn h;exact .inr ⟨k,by rw [a]⟩
def j9 (b o k:Nat):(⟨b,o,none⟩:Addr).add k=⟨b,o+k,none⟩:=by
 unfold Addr.add; split <;> simp_all
def ji {t e:TypeId} {size:Nat} (b:P.underlying t=some (.slice e)) (hs:sizeOf? P e=some size) {a:Option Addr} {len cap l h m:Nat} {lo hi mx:Option Value}
  (hb:(Instr.sliceBounds true len cap lo hi mx).run P w=.ok (l,h,m) w) :
  (Instr.sliceAt t (.slice a len cap) lo hi mx).run P w=.ok (.slice (if m=l then a else a.map (·.add (l*size))) (h-l) (m-l)) w:=by
 simp [Instr.sliceAt,Instr.slice,run_underlying b,hb,co hs]
def Dz {size:Nat} {t e:TypeId} {x:AV} {B:Value} {lo hi mx:Option AV} {J k vmx:Option Value} {v:AV}
  (q:P.underlying t=some (.slice e)) (hs:sizeOf? P e=some size)
  (hx:VR μ F w x B) (Q:∀ s,x ≠ .str s) (p:OR μ F w lo J) (f:OR μ F w hi k) (g:OR μ F w mx vmx) (h:bA size x lo hi mx=some v) :
  ∃ u,(Instr.sliceAt t B J k vmx).run P w=.ok u w/\VR μ F w v u:=by
 unfold bA at h;split at h
 ·rename_i b off n c sz ex;split at h
  ·cases h
  rename_i z;have z:sz=size:=by simpa using z
  subst z;cases hx with
  | own _ _ _ _ _ _ L cap h1 h2 h3 h4 h5 R =>
  split at h
  ·rename_i I h0 lo;simp only [C6,eD] at h;obtain ⟨m,hm,h',hh,l,hl,h⟩:=h;split at h
   ·rename_i hc;obtain ⟨r,d,o⟩:=hc;obtain ⟨vm,rfl⟩:∃ vm,vmx=some vm:=by cases vmx with | none=>exact g.elim | some vm=>exact ⟨_,rfl⟩
    obtain ⟨j,rfl⟩:∃ j,k=some j:=by cases k with | none=>exact f.elim | some vm=>exact ⟨_,rfl⟩
    obtain ⟨k2,rfl⟩:=gO hm g;obtain ⟨k1,rfl⟩:=gO hh f;have hb:=uE (P:=P) (w:=w) (len:=n) (cap:=cap) (k1:=k1) (k2:=k2) (mY p hl) (WK r h4) d o;refine ⟨_,ji q hs hb,?_⟩;split at h
    ·rename_i e';cases h;subst e';simp only [if_true,ZF]
     have:h'-m=0:=by omega
     rw [this];exact .own _ _ _ _ _ _ L 0 h1 h2 (Jv _) (Jv _) (fun _=>rfl) (by omega)
    ·rename_i e';cases h;rw [if_neg e'];simp only [XY,j9];refine .own _ _ _ _ _ _ L _ h1 h2 (by omega) (Jv _) (fun _=>rfl) ?_
     have:l*sz+(m-l)*sz=m*sz:=by rw [<- XI]; congr 1; omega
     have M:m*sz<=cap*sz:=WJ _ (by omega);omega
   ·cases h
  ·rename_i hi lo;simp only [C6,eD] at h;obtain ⟨h',hh,l,hl,h⟩:=h;obtain rfl:vmx=none:=by cases vmx with | none=>rfl | some vm=>exact g.elim
   split at h
   ·rename_i hc;obtain ⟨r,d⟩:=hc;have hb:=qi (P:=P) (w:=w) (s:=true) (len:=n) (cap:=cap) (mY p hl) (mY f hh) (by omega) d;refine ⟨_,ji q hs hb,?_⟩;have M:(cap-l)*sz+l*sz<=cap*sz:=by rw [<- XI]; exact WJ _ (by omega)
    split at h
    ·rename_i e';cases h;by_cases y:cap=l
     ·have N:l=0:=by omega
      subst N;simp only [y,if_true,ZR,Ye,ZS];subst y;exact .own _ _ _ _ _ _ L 0 h1 h2 (by omega) (by omega) (fun e=>by have:=h5 e; omega) (by omega)
     ·rw [if_neg y];simp only [XY,j9];exact .own _ _ _ _ _ _ L _ h1 h2 (by omega) (by omega) (fun e=>by have:=h5 e; omega) (by omega)
    ·rename_i e';have O:l=c:=by omega
     subst O;split at h
     ·rename_i e3;cases h
      have:=h5 e3
      subst this;rw [if_pos rfl];exact .own _ _ _ _ _ _ L _ h1 h2 (by omega) (by omega) (fun e=>rfl) (by omega)
     ·cases h
      have:h'-l=0:=by omega
      rw [this];split
      ·exact .sl0 _ _
      ·exact .sl0 _ _
   ·cases h
  ·cases h
 ·rename_i cs n;have H:∀ l h' m,h'<=n->l<=h'->h'<=m->h'*size<=cs.length->∀ (a0:Addr) (cap:Nat),VR μ F w (.sl cs n) (.slice (some a0) n cap)->m<=cap ->
    VR μ F w (.sl ((cs.drop (l*size)).take ((h'-l)*size)) (h'-l)) (.slice (if m=l then some a0 else (some a0).map (·.add (l*size))) (h'-l) (m-l)):=by
   intro l h' m q1 q2 q3 q5 a0 cap A q4;by_cases e0:h'=l
   ·subst e0;simp only [ZF,ZR,Y6];split
    ·exact .sl0 _ _
    ·exact .sl0 _ _
   ·rw [if_neg (by omega)];cases A with
    | sl0=>omega
    | sl _ _ _ blk off arr ty fr C D E K G =>
     simp only [XY,j9];have T:l*size<=h'*size:=WJ _ q2;refine .sl _ _ _ blk _ arr ty fr C D (by omega) ?_ ?_
     ·simp only [WU,XF]; omega
     ·intro i c v hc A;rw [WW] at hc;split at hc
      ·rw [WX] at hc;exact G _ c v hc (by rw [<- Xz]; exact A)
      ·cases hc
  obtain ⟨a0,cap,rfl,S⟩:∃ a0 cap,B=.slice (some a0) n cap/\n<=cap:=by
   cases hx with
   | sl0 a cap=>exact ⟨_,_,rfl,WG _⟩
   | sl _ _ _ blk off arr ty fr C D E K G=>exact ⟨_,_,rfl,E⟩
  split at h
  ·rename_i hi lo;simp only [C6,eD] at h;obtain ⟨h',hh,l,hl,h⟩:=h;obtain rfl:vmx=none:=by cases vmx with | none=>rfl | some vm=>exact g.elim
   split at h
   ·rename_i hc;obtain ⟨r,d,o⟩:=hc;cases h;have hb:=qi (P:=P) (w:=w) (s:=true) (len:=n) (cap:=cap) (mY p hl) (mY f hh) (by omega) d;exact ⟨_,ji q hs hb,H l h' cap r d (by omega) o a0 cap hx (Jv _)⟩
   ·cases h
  ·rename_i I h0 lo;simp only [C6,eD] at h;obtain ⟨m,hm,h',hh,l,hl,h⟩:=h;split at h
   ·rename_i hc;obtain ⟨r,d,o,c4⟩:=hc;cases h;obtain ⟨vm,rfl⟩:∃ vm,vmx=some vm:=by cases vmx with | none=>exact g.elim | some vm=>exact ⟨_,rfl⟩
    obtain ⟨j,rfl⟩:∃ j,k=some j:=by cases k with | none=>exact f.elim | some vm=>exact ⟨_,rfl⟩
    obtain ⟨k2,rfl⟩:=gO hm g;obtain ⟨k1,rfl⟩:=gO hh f;have hb:=uE (P:=P) (w:=w) (len:=n) (cap:=cap) (k1:=k1) (k2:=k2) (mY p hl) (by omega) d o;exact ⟨_,ji q hs hb,H l h' m (by omega) o d c4 a0 cap hx (by omega)⟩
   ·cases h
  ·cases h
 ·cases hx;split at h
  ·rename_i I h0;split at h
   ·rename_i hc;obtain ⟨hm,hh,hl⟩:=hc;cases h;obtain ⟨vm,rfl⟩:∃ vm,vmx=some vm:=by cases vmx with | none=>exact g.elim | some vm=>exact ⟨_,rfl⟩
    obtain ⟨j,rfl⟩:∃ j,k=some j:=by cases k with | none=>exact f.elim | some vm=>exact ⟨_,rfl⟩
    obtain ⟨k2,rfl⟩:=gO hm g;obtain ⟨k1,rfl⟩:=gO hh f;have hb:=uE (P:=P) (w:=w) (len:=0) (cap:=0) (k1:=k1) (k2:=k2) (mY p hl) (Jv _) (Jv _) (Jv _);exact ⟨_,ji q hs hb,.nilSl⟩
   ·cases h
  ·rename_i hi;obtain rfl:vmx=none:=by cases vmx with | none=>rfl | some vm=>exact g.elim
   split at h
   ·rename_i hc;obtain ⟨hh,hl⟩:=hc;cases h;have hb:=qi (P:=P) (w:=w) (s:=true) (len:=0) (cap:=0) (mY p hl) (mY f hh) (Jv _) (Jv _);exact ⟨_,ji q hs hb,.nilSl⟩
   ·cases h
  ·cases h
 ·exact absurd rfl (Q _)
 ·cases h
def zY {size:Nat} {t:TypeId} {s:ByteArray} {lo hi mx:Option AV} {b a vmx:Option Value} {v:AV}
  (f:P.underlying t=some .string) (d:OR μ F w lo b) (c:OR μ F w hi a) (e:OR μ F w mx vmx) (h:bA size (.str s) lo hi mx=some v) :
  ∃ u,(Instr.sliceAt t (.string s) b a vmx).run P w=.ok u w/\VR μ F w v u:=by
 unfold bA at h;simp only at h;split at h
 ·simp only [C6,eD] at h;obtain ⟨h',hh,l,hl,h⟩:=h;obtain rfl:vmx=none:=by cases vmx with | none=>rfl | some vm=>exact e.elim
  split at h
  ·rename_i hc;simp only [W6,decide_eq_true_eq] at hc;cases h;have hb:=qi (P:=P) (w:=w) (s:=false) (len:=s.size) (cap:=s.size) (mY d hl) (mY c hh) hc.1 hc.2;exact ⟨_,by simp [Instr.sliceAt,Instr.slice,run_underlying f,hb],.str _⟩
  ·cases h
 ·cases h
def uZ (hT:LR μ F w T a.tmps.toList) {x:Option Operand} {s:Option Src} (h:By x=some s):OR μ F w (s.map (Src.ev T)) (x.map a.eval):=by
 cases x with
 | none=>cases h; trivial
 | some x =>
  simp only [By,WE] at h;obtain ⟨y,hy,rfl⟩:=h;exact aR hT hy
def h9 {as:List AV} {vs:Array Value} (h:LR μ F w as vs.toList):as.length=vs.size/\∀ (i:Nat) (c:AV) (v:Value),as[i]? = some c->vs[i]? = some v->VR μ F w c v :=
 ⟨by simpa using h.1,fun i c v h1 h2=>h.2 i c v h1 (by simpa using h2)⟩
def HP {o:Oper} {c x y:Operand} (d:o.op=.pick c x y) {b:Bool} (hc:a.eval c=.bool b):(execOp a.eval o).run P w=.ok (.value (if b then a.eval x else a.eval y)) w:=by
 simp [execOp,d,hc,asBool]
def FS (k:IntKind):∀ (l:List AV) (vs:List Value) (m:Int) (r:AV),LR μ F w l vs->l.foldlM Jx (AV.int k m)=some r ->
  ∃ u,(vs.foldlM Builtin.min2 (.int k m)).run P w=.ok u w/\VR μ F w r u
 | [],[],m,r,_,h=>by simp at h; subst h; exact ⟨_,rfl,.int _ _⟩
 | [],_ :: _,_,_,hl,_=>by have:=hl.1; simp at this
 | _ :: _,[],_,_,hl,_=>by have:=hl.1; simp at this
 | x :: l,v :: vs,m,r,hl,h=>by
  simp only [List.foldlM_cons,C6,eD] at h;obtain ⟨y,hy,h⟩:=h;have hx:=hl.head;cases x <;> simp only [Jx] at hy <;> first | (cases hy; done) | skip
  cases hy;cases hx;obtain ⟨u,a,hr⟩:=FS k l vs _ r hl.tail h;exact ⟨u,by simp only [List.foldlM_cons,Sem.run_bind,Builtin.min2,Sem.run_pure,Result.andThen_ok]; exact a,hr⟩
def FT (k:IntKind):∀ (l:List AV) (vs:List Value) (m:Int) (r:AV),LR μ F w l vs->l.foldlM Jy (AV.int k m)=some r ->
  ∃ u,(vs.foldlM Builtin.max2 (.int k m)).run P w=.ok u w/\VR μ F w r u
 | [],[],m,r,_,h=>by simp at h; subst h; exact ⟨_,rfl,.int _ _⟩
 | [],_ :: _,_,_,hl,_=>by have:=hl.1; simp at this
 | _ :: _,[],_,_,hl,_=>by have:=hl.1; simp at this
 | x :: l,v :: vs,m,r,hl,h=>by
  simp only [List.foldlM_cons,C6,eD] at h;obtain ⟨y,hy,h⟩:=h;have hx:=hl.head;cases x <;> simp only [Jy] at hy <;> first | (cases hy; done) | skip
  cases hy;cases hx;obtain ⟨u,a,hr⟩:=FT k l vs _ r hl.tail h;exact ⟨u,by simp only [List.foldlM_cons,Sem.run_bind,Builtin.max2,Sem.run_pure,Result.andThen_ok]; exact a,hr⟩
def nF (w:World):∀ (l:List Field) (a:List (Nat × Nat)),(l.mapM fun f=>(sizeOf? P f.type).map fun n=>(f.offset,n))=some a ->
  (l.mapM fun f=>(do pure (f.offset,<- Go.sizeOf f.type):Sem (Nat × Nat))).run P w=.ok a w
 | [],a,h=>by simp at h; subst h; simp
 | f :: l,a,h=>by
  simp only [Yd,YS,C6,eD,WE] at h;obtain ⟨q,⟨n,hn,rfl⟩,c,b,h⟩:=h;cases h
  have:=nF w l c b
  simp only [Yd,Sem.run_bind,co hn,Result.andThen_ok,this,Sem.run_pure]
def wK {a:Array Field} {b:List (Nat × Nat)} (h:uP P a=some b) (w:World) :
  (a.mapM fun f=>(do pure (f.offset,<- Go.sizeOf f.type):Sem (Nat × Nat))).run P w=.ok b.toArray w:=by
 rw [Array.mapM_eq_mapM_toList];simp only [Sem.run_map,nF w a.toList b h,Result.andThen_ok]
def qx (parts:Array (Nat × Operand)) (ρ:Operand->Value):(parts.map fun (x:Nat × Operand)=>match x with | (i,x)=>(i,ρ x)).toList=parts.toList.map fun p=>(p.1,ρ p.2):=by
 simp
def FG {o:Oper} {ao:AOp} {v:AV} (hc:GL P o=some ao) (hp:aT (Src.ev T) ao=some v) (hT:LR μ F w T a.tmps.toList) :
  ∃ u,(execOp a.eval o).run P w=.ok (.value u) w/\VR μ F w v u:=by
 obtain ⟨dst,op,ty,pos,aw,guard⟩:=o;cases op <;> simp only [GL] at hc
 case move x =>
  simp only [WE] at hc; obtain ⟨s,hs,rfl⟩:=hc;cases hp; exact ⟨_,rfl,aR hT hs⟩
 case assign x =>
  simp only [WE] at hc; obtain ⟨s,hs,rfl⟩:=hc;cases hp; exact ⟨_,rfl,aR hT hs⟩
 case pick c x y =>
  simp only [C6,eD] at hc;obtain ⟨sc,aJ,B,j,sy,I,hc⟩:=hc; cases hc;simp only [aT] at hp;split at hp
  ·rename_i t G;cases hp
   have:=aR hT aJ
   rw [G] at this
   generalize az:a.eval c=cv at this
   cases this;refine ⟨_,HP rfl az,?_⟩;cases t
   ·exact aR hT I
   ·exact aR hT j
  ·cases hp
 case nilCheck x =>
  simp only [WE] at hc; obtain ⟨s,hs,rfl⟩:=hc;have hx:=aR hT hs;simp only [aT] at hp;split at hp
  ·rename_i e; rw [e] at hx; cases hp; generalize g:a.eval x=q at hx; cases hx; rename_i L hL;exact ⟨_,by simp [execOp,g],.ptr _ _ L hL⟩
  ·rename_i e; rw [e] at hx; cases hp; generalize g:a.eval x=q at hx;cases hx with
   | dp _ _ blk off arr ty fr O Q Y R=>exact ⟨_,by simp [execOp,g],.dp _ _ blk off arr ty fr O Q Y R⟩
  ·rename_i e; rw [e] at hx; cases hp; generalize g:a.eval x=q at hx;cases hx with
   | fn _ _ _ us vs h1 h2 h3 h4=>exact ⟨_,by simp [execOp,g],.fn _ _ _ us vs h1 h2 h3 h4⟩
  ·rename_i e; rw [e] at hx; cases hp; generalize g:a.eval x=q at hx; cases hx; rename_i L hL;exact ⟨_,by simp [execOp,g],.loopv _ L hL⟩
  ·cases hp
 case unOp op t x =>
  simp only [C6,eD] at hc;obtain ⟨s,hs,hc⟩:=hc; cases hc;obtain ⟨u,p,hr⟩:=Kz (P:=P) (aR hT hs) hp;exact ⟨u,cJ p,hr⟩
 case extract x i =>
  simp only [C6,eD] at hc;obtain ⟨s,hs,hc⟩:=hc; cases hc;have hx:=aR hT hs;simp only [aT] at hp;split at hp
  ·rename_i e; rw [e] at hx; generalize g:a.eval x=q at hx;cases hx with
   | tup cs vs h1 h2 =>
    obtain ⟨u,p,hr⟩:=(LR.of_agg h1 h2).get hp;have aM:vs[i]? = some u:=by simpa using p
    exact ⟨u,by simp [execOp,g,Instr.extract,aM],hr⟩
  ·cases hp
 case makeFunc f first cap =>
  simp only [C6,eD] at hc;obtain ⟨X,aA,cs,W,hc⟩:=hc; cases hc;cases hp;have h1:=pF hT aA;have h2:=pF hT W;refine ⟨.func f (first.map a.eval) (cap.map a.eval),by simp [execOp,Instr.makeFunc],?_⟩;have U:LR μ F w (X.map (Src.ev T)) (first.map a.eval).toList:=by simpa using h1
  have V:LR μ F w (cs.map (Src.ev T)) (cap.map a.eval).toList:=by simpa using h2
  exact .fn _ _ _ _ _ (h9 U).1 (h9 U).2 (h9 V).1 (h9 V).2
 case build t parts =>
  simp only [C6,eD] at hc;obtain ⟨z,hz,d,hd,hc⟩:=hc;obtain ⟨zv,ab,ar⟩:=qV hz w;split at hc
  ·rename_i X;simp only [eD] at hc;obtain ⟨pl,aH,ps,ag,hc⟩:=hc;cases hc;simp only [aT,C6,eD] at hp;obtain ⟨cs,W,hp⟩:=hp;cases hp;obtain ⟨vs,J,hr⟩:=Ep hT (pl[·]?) parts.toList ps z zv.cells cs ag (ar μ F w) W;refine ⟨.agg vs,cJ ?_,.agg _ _ (h9 hr).1 (h9 hr).2⟩;simp only [Instr.build,Sem.run_bind,ab,Result.andThen_ok,run_underlying hd,wK aH,qx]
   have:(fun x:Nat=>pl.toArray[x]?)=(fun x:Nat=>pl[x]?):=by funext x; simp
   rw [this,J];rfl
  ·rename_i m e;simp only [eD] at hc;obtain ⟨n,hn,ps,ag,hc⟩:=hc;cases hc;simp only [aT,C6,eD] at hp;obtain ⟨cs,W,hp⟩:=hp;cases hp;obtain ⟨vs,J,hr⟩:=Ep hT (fun i=>some (i*n,n)) parts.toList ps z zv.cells cs ag (ar μ F w) W;refine ⟨.agg vs,cJ ?_,.agg _ _ (h9 hr).1 (h9 hr).2⟩;simp only [Instr.build,Sem.run_bind,ab,Result.andThen_ok,run_underlying hd,co hn,qx];rw [J];rfl
  ·cases hc
 case binOp op t x y yt =>
  split at hc
  ·rename_i aa;split at hc
   all_goals first | (cases hc; done) | skip
   all_goals
    simp only [C6,eD] at hc;obtain ⟨B,j,sy,I,hc⟩:=hc; cases hc;have hx:=aR hT j;have hy:=aR hT I;simp only [aT] at hp;split at hp
    ·rename_i as bs U V;rw [U] at hx; rw [V] at hy;simp only [WE] at hp;obtain ⟨r,hr,rfl⟩:=hp
     generalize ak:a.eval x=q at hx
     generalize al:a.eval y=vy at hy
     cases hx with
     | agg _ us h1 h2 =>
     cases hy with
     | agg _ vs h3 h4 =>
     have:=Gi aa (LR.of_agg h1 h2) (LR.of_agg h3 h4) hr x y
     refine ⟨.bool _,cJ (by rw [ak,al]; first | exact this.1 | exact this.2),.bool _⟩
    ·cases hp
  ·split at hc
   ·rename_i aa;split at hc
    all_goals first | (cases hc; done) | skip
    all_goals
     simp only [C6,eD] at hc;obtain ⟨B,j,sy,I,hc⟩:=hc; cases hc;have hx:=aR hT j;have hy:=aR hT I;simp only [aT] at hp;split at hp
     ·rename_i as bs U V;rw [U] at hx; rw [V] at hy;simp only [WE] at hp;obtain ⟨r,hr,rfl⟩:=hp
      generalize ak:a.eval x=q at hx
      generalize al:a.eval y=vy at hy
      have aI:rD (je P t) as bs=some r:=by
       obtain ⟨n,hn⟩:=Nat.exists_eq_succ_of_ne_zero aa;rw [hn] at hr ⊢;exact hr
      cases hx with
      | agg _ us h1 h2 =>
      cases hy with
      | agg _ vs h3 h4 =>
      have:=AS aa (LR.of_agg h1 h2) (LR.of_agg h3 h4) aI x y
      refine ⟨.bool _,cJ (by rw [ak,al]; first | exact this.1 | exact this.2),.bool _⟩
     ·cases hp
   split at hc
   ·rename_i ae;split at hc
    ·rename_i ay;simp only [C6,eD] at hc;obtain ⟨B,j,sy,I,hc⟩:=hc; cases hc;obtain ⟨ms,aD⟩:∃ ms,P.underlying t=some (.interface ms):=by
      unfold Rl at ae;split at ae
      ·exact ⟨_,by assumption⟩
      ·cases ae
     obtain ⟨u,p,hr⟩:=Ly aD (aR hT j) (aR hT I) hp ay;exact ⟨u,cJ p,hr⟩
    ·cases hc
   simp only [C6,eD] at hc;obtain ⟨kd,aB,B,j,sy,I,hc⟩:=hc; cases hc;obtain ⟨u,p,hr⟩:=IQ aB (aR hT j) (aR hT I) hp x y;exact ⟨u,cJ p,hr⟩
 case convert s d x =>
  simp only [C6,eD] at hc;obtain ⟨ds,aq,dd,aO,hc⟩:=hc;split at hc
  ·simp only [eD] at hc;obtain ⟨B,j,hc⟩:=hc; cases hc;have hx:=aR hT j;simp only [aT] at hp;split at hp
   ·rename_i e; rw [e] at hx; cases hp
    generalize g:a.eval x=q at hx
    cases hx;exact ⟨_,cJ (by rw [g]; simp [convert,run_underlying aq,run_underlying aO,Conv.intToInt]),.int _ _⟩
   ·cases hp
  ·simp only [eD] at hc;obtain ⟨B,j,hc⟩:=hc; cases hc;have hx:=aR hT j;simp only [aT] at hp;split at hp
   ·rename_i e; rw [e] at hx; cases hp
    generalize g:a.eval x=q at hx
    cases hx;exact ⟨_,cJ (by rw [g]; simp [convert,run_underlying aq,run_underlying aO]),.str _⟩
   ·cases hp
  ·simp only [eD] at hc;obtain ⟨e,he,hc⟩:=hc;split at hc
   ·simp only [eD] at hc;obtain ⟨B,j,hc⟩:=hc; cases hc; cases hp
   ·cases hc
  ·simp only [eD] at hc;obtain ⟨e,he,hc⟩:=hc;split at hc
   ·simp only [eD] at hc;obtain ⟨n,hn,hc⟩:=hc;split at hc
    ·simp only [eD] at hc;obtain ⟨B,j,hc⟩:=hc; cases hc; cases hp
    ·cases hc
   ·cases hc
  ·cases hc
 case makeInterface t x =>
  simp only [C6,eD] at hc;obtain ⟨d,hd,hc⟩:=hc;split at hc
  ·cases hc
  ·rename_i hn;simp only [eD] at hc;obtain ⟨B,j,hc⟩:=hc; cases hc;have hx:=aR hT j;simp only [aT] at hp;split at hp
   ·cases hp
   ·cases hp;refine ⟨.iface t (a.eval x),cJ ?_,.ifc _ _ _ hx⟩;simp only [Instr.makeInterface,Sem.run_bind,run_underlying hd,Result.andThen_ok];cases d <;> first | rfl | (exact absurd rfl (hn _))
 case slice t x lo hi mx =>
  simp only [C6,eD] at hc;obtain ⟨d,hd,hc⟩:=hc;split at hc
  ·simp only [eD] at hc;obtain ⟨n,hn,B,j,sl,aj,sh,ah,sm,aK,hc⟩:=hc; cases hc;simp only [aT] at hp;split at hp
   ·cases hp
   ·rename_i aL;obtain ⟨u,p,hr⟩:=Dz hd hn (aR hT j) aL (uZ hT aj) (uZ hT ah) (uZ hT aK) hp;exact ⟨u,cJ p,hr⟩
  ·split at hc
   ·cases hc
   ·rename_i aE;simp only [eD] at hc;obtain ⟨B,j,sl,aj,sh,ah,hc⟩:=hc; cases hc;have hx:=aR hT j;simp only [aT] at hp;split at hp
    ·rename_i s e;rw [e] at hx
     generalize g:a.eval x=q at hx
     cases hx;have hm:mx=none:=by simpa using aE
     subst hm;obtain ⟨u,p,hr⟩:=zY (mx:=none) (vmx:=none) hd (uZ hT aj) (uZ hT ah) (show OR μ F w none none from trivial) hp;exact ⟨u,cJ (by rw [g]; exact p),hr⟩
    ·cases hp
  ·cases hc
 case fieldAddr t x i =>
  simp only [C6,eD] at hc;obtain ⟨d,hd,hc⟩:=hc;split at hc
  ·rename_i X;simp only [eD] at hc;obtain ⟨f,hf,n,hn,hc⟩:=hc;split at hc
   ·cases hc
   ·rename_i aG;simp only [eD] at hc;obtain ⟨B,j,hc⟩:=hc; cases hc;have hx:=aR hT j;have A:∀ b o,(Instr.fieldAt t (.pointer (some ⟨b,o,none⟩)) i).run P w=.ok (.pointer (some ⟨b,o+f.offset,none⟩)) w:=by
     intro b o;simp [Instr.fieldAt,run_underlying hd,hf,Instr.sureAddr,fieldPlace,co hn,aG,j9]
    simp only [aT] at hp;split at hp
    ·rename_i b o e; rw [e] at hx; cases hp; generalize g:a.eval x=q at hx; cases hx; rename_i L hL;exact ⟨_,cJ (by rw [g]; exact A _ _),.ptr _ _ L hL⟩
    ·rename_i cs o e; rw [e] at hx; cases hp; generalize g:a.eval x=q at hx;cases hx with
     | dp _ _ blk off arr ty fr O Q Y R =>
      refine ⟨_,cJ (by rw [g]; exact A _ _),?_⟩;rw [Xz];exact .dp _ _ blk off arr ty fr O Q Y R
    ·cases hp
  ·cases hc
 case field t x i =>
  simp only [C6,eD] at hc;obtain ⟨d,hd,hc⟩:=hc;split at hc
  ·rename_i X;simp only [eD] at hc;obtain ⟨f,hf,k,E,B,j,hc⟩:=hc; cases hc;have hx:=aR hT j;simp only [aT] at hp;split at hp
   ·rename_i cs e; rw [e] at hx; generalize g:a.eval x=q at hx;cases hx with
    | agg _ vs h1 h2 =>
     obtain ⟨u,p,hr⟩:=xT E (LR.of_agg h1 h2) hp;exact ⟨u,cJ (by rw [g]; simp [Instr.field,run_underlying hd,hf,asAgg,p]),hr⟩
   ·cases hp
  ·cases hc
 case indexAddr t x i =>
  simp only [C6,eD] at hc;obtain ⟨d,hd,hc⟩:=hc;split at hc
  ·rename_i e;simp only [eD] at hc;obtain ⟨n,hn,B,j,si,M,hc⟩:=hc; cases hc;have hx:=aR hT j;have hi:=aR hT M;simp only [aT,C6,eD] at hp;obtain ⟨K,S,hp⟩:=hp;obtain ⟨k,E⟩:=gO S hi;have A:∀ b o len cap,K<len->(Instr.indexAt t (.slice (some ⟨b,o,none⟩) len cap) (.int k (K:Int))).run P w=.ok (.pointer (some ⟨b,o+K*n,none⟩)) w:=by
    intro b o len cap hlt;simp [Instr.indexAt,asIntOf,run_underlying hd,co hn,j9,hlt]
   split at hp
   ·rename_i b off m c sz ex e'; rw [e'] at hx; generalize g:a.eval x=q at hx;split at hp
    ·rename_i hlt;cases hp;cases hx with
     | own _ _ _ _ _ _ L cap h1 h2 h3 h4 h5 h6 =>
      exact ⟨_,cJ (by rw [g,E]; exact A _ _ _ _ hlt.1),.ptr _ _ L h1⟩
    ·cases hp
   ·rename_i cs m e'; rw [e'] at hx; generalize g:a.eval x=q at hx;split at hp
    ·rename_i hlt;cases hp;cases hx with
     | sl0=>omega
     | sl _ _ _ blk off arr ty fr O Q Y R g5 =>
      exact ⟨_,cJ (by rw [g,E]; exact A _ _ _ _ hlt),.dp _ _ blk off arr ty fr O Q R g5⟩
    ·cases hp
   ·cases hp
  ·rename_i len e;split at hc
   ·simp only [eD] at hc;obtain ⟨n,hn,si,M,hc⟩:=hc; cases hc; cases hp
   ·simp only [eD] at hc;obtain ⟨n,hn,B,j,si,M,hc⟩:=hc; cases hc;have hx:=aR hT j;have hi:=aR hT M;simp only [aT,C6,eD] at hp;obtain ⟨K,S,hp⟩:=hp;obtain ⟨k,E⟩:=gO S hi;have A:∀ b o,K<len->(Instr.indexAt t (.pointer (some ⟨b,o,none⟩)) (.int k (K:Int))).run P w=.ok (.pointer (some ⟨b,o+K*n,none⟩)) w:=by
     intro b o hlt;simp [Instr.indexAt,Instr.sureAddr,asIntOf,run_underlying hd,co hn,j9,hlt]
    split at hp
    ·rename_i b o e'; rw [e'] at hx; generalize g:a.eval x=q at hx;split at hp
     ·rename_i hlt;cases hp;cases hx with
      | ptr _ _ L h1=>exact ⟨_,cJ (by rw [g,E]; exact A _ _ hlt),.ptr _ _ L h1⟩
     ·cases hp
    ·rename_i cs o e'; rw [e'] at hx; generalize g:a.eval x=q at hx;split at hp
     ·rename_i hlt;cases hp;cases hx with
      | dp _ _ blk off arr ty fr O Q R g5 =>
       refine ⟨_,cJ (by rw [g,E]; exact A _ _ hlt),?_⟩;rw [Xz];exact .dp _ _ blk off arr ty fr O Q R g5
     ·cases hp
    ·cases hp
  ·cases hc
 case index t x i =>
  simp only [C6,eD] at hc;obtain ⟨d,hd,hc⟩:=hc;split at hc
  ·rename_i len e;simp only [eD] at hc;obtain ⟨n,hn,kk,aC,B,j,si,M,hc⟩:=hc; cases hc;have hx:=aR hT j;have hi:=aR hT M;simp only [aT,C6,eD] at hp;obtain ⟨K,S,hp⟩:=hp;obtain ⟨k,E⟩:=gO S hi;split at hp
   ·rename_i cs e'; rw [e'] at hx; generalize g:a.eval x=q at hx;split at hp
    ·rename_i hlt;cases hx with
     | agg _ vs h1 h2 =>
      obtain ⟨u,p,hr⟩:=xT aC (LR.of_agg h1 h2) hp;exact ⟨u,cJ (by rw [g,E]; simp [Instr.index,asIntOf,run_underlying hd,hlt,co hn,p]),hr⟩
    ·cases hp
   ·cases hp
  ·simp only [eD] at hc;obtain ⟨B,j,si,M,hc⟩:=hc; cases hc;have hx:=aR hT j;have hi:=aR hT M;simp only [aT,C6,eD] at hp;obtain ⟨K,S,hp⟩:=hp;obtain ⟨k,E⟩:=gO S hi;split at hp
   ·rename_i s e'; rw [e'] at hx; generalize g:a.eval x=q at hx;simp only [WE] at hp;obtain ⟨b,hb,rfl⟩:=hp;cases hx;exact ⟨_,cJ (by rw [g,E]; simp [Instr.index,asIntOf,run_underlying hd,hb]),.int _ _⟩
   ·cases hp
  ·cases hc
 case call c =>
  simp only [C6,eD] at hc;obtain ⟨args,hargs,hc⟩:=hc;have hl:=pF hT hargs;obtain ⟨callee,D,argTypes⟩:=c;simp only at hc hl hargs;cases callee with
  | value f =>
   simp only [eD] at hc;obtain ⟨s,hs,hc⟩:=hc; cases hc; cases hp
  | invoke r m=>cases hc
  | builtin b =>
   have A:∀ (s:Sem Value) (u:Value),s.run P w=.ok u w->(∀ ax,builtin b argTypes ty ax (D.map a.eval)=(do pure (.value (<- s)))) ->
     (execOp a.eval ⟨dst,.call ⟨.builtin b,D,argTypes⟩,ty,pos,aw,guard⟩).run P w=.ok (.value u) w:=by
    intro s u h1 h2;simp only [execOp,resolve,Sem.run_bind,Sem.run_pure,Result.andThen_ok,invoke];exact (congrArg (fun s=>s.run P w) (h2 _)).trans (cJ h1)
   have one:∀ {x:Src},args=[x]->∃ v,D.map a.eval = #[v]/\VR μ F w (x.ev T) v:=by
    intro x hx;subst hx;have h1:=hl.1;simp only [SA,WF,W5,XZ,Nj,Zh] at h1;obtain ⟨l⟩:=D
    match l,h1 with
    | [y],_=>exact ⟨a.eval y,by simp,hl.2 0 _ _ rfl rfl⟩
   have ad:∀ {t:TypeId},argTypes.toList=[t]->argTypes = #[t]:=by
    intro t G;obtain ⟨l⟩:=argTypes; simp at G; subst G; rfl
   simp only at hc;split at hc
   ·rename_i x t;obtain ⟨v1,N,C⟩:=one rfl;simp only [eD] at hc;obtain ⟨d,hd,hc⟩:=hc;split at hc
    ·rename_i e G;have H:=ad (by assumption);cases hc;simp only [aT] at hp;split at hp
     ·rename_i b off n c sz ex e'; rw [e'] at C; cases hp;cases C;exact ⟨_,A _ _ (by rw [N,H]; simp [Builtin.len_,run_underlying hd]; rfl) (fun _=>rfl),.int _ _⟩
     ·rename_i b off e'; rw [e'] at C; cases hp;cases C
      ·exact ⟨_,A _ _ (by rw [N,H]; simp [Builtin.len_,run_underlying hd]; rfl) (fun _=>rfl),.int _ _⟩
      ·exact ⟨_,A _ _ (by rw [N,H]; simp [Builtin.len_,run_underlying hd]; rfl) (fun _=>rfl),.int _ _⟩
     ·rename_i e'; rw [e'] at C; cases hp;cases C;exact ⟨_,A _ _ (by rw [N,H]; simp [Builtin.len_,run_underlying hd]; rfl) (fun _=>rfl),.int _ _⟩
     ·cases hp
    ·rename_i G;have H:=ad (by assumption);cases hc;simp only [aT] at hp;split at hp
     ·rename_i s e'; rw [e'] at C; cases hp;cases C;exact ⟨_,A _ _ (by rw [N,H]; simp [Builtin.len_,run_underlying hd]; rfl) (fun _=>rfl),.int _ _⟩
     ·cases hp
    ·cases hc; cases hp
    ·cases hc
   ·rename_i x t;obtain ⟨v1,N,C⟩:=one rfl;simp only [eD] at hc;obtain ⟨d,hd,hc⟩:=hc;split at hc
    ·rename_i e G;have H:=ad (by assumption);cases hc;simp only [aT] at hp;split at hp
     ·rename_i b off n c sz e'; rw [e'] at C; cases hp;cases C with
      | own _ _ _ _ _ _ L cap h1 h2 h3 h4 h5 h6 =>
      have:=h5 rfl
      subst this;exact ⟨_,A _ _ (by rw [N,H]; simp [Builtin.cap_,run_underlying hd]; rfl) (fun _=>rfl),.int _ _⟩
     ·rename_i e'; rw [e'] at C; cases hp;cases C;exact ⟨_,A _ _ (by rw [N,H]; simp [Builtin.cap_,run_underlying hd]; rfl) (fun _=>rfl),.int _ _⟩
     ·cases hp
    ·cases hc
   ·cases hc;simp only [aT] at hp;rw [show D.toList.map a.eval=(D.map a.eval).toList by simp] at hl;split at hp
    ·rename_i k m rest e';rw [e'] at hl;obtain ⟨l,J⟩:∃ l,(D.map a.eval).toList=l:=⟨_,rfl⟩
     rw [J] at hl;cases l with
     | nil=>have:=hl.1; simp at this
     | cons v vs =>
      have h0:=hl.head;cases h0;obtain ⟨u,p,hr⟩:=FS (P:=P) k rest vs m _ hl.tail hp;exact ⟨u,A (Builtin.min_ argTypes ty (D.map a.eval)) u (by unfold Builtin.min_; rw [J]; exact p) (fun _=>rfl),hr⟩
    ·cases hp
   ·cases hc;simp only [aT] at hp;rw [show D.toList.map a.eval=(D.map a.eval).toList by simp] at hl;split at hp
    ·rename_i k m rest e';rw [e'] at hl;obtain ⟨l,J⟩:∃ l,(D.map a.eval).toList=l:=⟨_,rfl⟩
     rw [J] at hl;cases l with
     | nil=>have:=hl.1; simp at this
     | cons v vs =>
      have h0:=hl.head;cases h0;obtain ⟨u,p,hr⟩:=FT (P:=P) k rest vs m _ hl.tail hp;exact ⟨u,A (Builtin.max_ argTypes ty (D.map a.eval)) u (by unfold Builtin.max_; rw [J]; exact p) (fun _=>rfl),hr⟩
    ·cases hp
   all_goals (try simp only [eD] at hc)
   all_goals (repeat' (first | (cases hc; done) | (obtain ⟨_,_,hc⟩:=hc) | (simp only [eD] at hc) | (split at hc)))
   all_goals first | (cases hp; done) | (cases hc; cases hp; done)
 case typeAssert x xt t ok =>
  simp only [C6,eD] at hc;obtain ⟨d,hd,hc⟩:=hc;split at hc
  ·cases hc
  ·rename_i Z;simp only [eD] at hc;obtain ⟨zv,ab,z,hz,B,j,hc⟩:=hc;cases hc;have hx:=aR hT j;obtain ⟨i,hi,aN⟩:=ab;have av:(zeroValue t).run P w=.ok zv w:=by simp [zeroValue,typeInfo,hi,aN]
   have p:=run_underlying (P:=P) hd;simp only [aT] at hp;have am:∀ {x:AV} {u:Value} {b:Bool},VR μ F w x u->VR μ F w (.tup [x,.bool b]) (.tuple #[u,.bool b]):=fun {x u b} h=>by
    refine .tup _ _ rfl fun i c v hc g=>?_
    have:i=0\/i=1\/2<=i:=by omega
    rcases this with rfl | rfl | h2
    ·simp at hc g; subst hc; subst g; exact h
    ·simp at hc g; subst hc; subst g; exact .bool _
    ·rw [Xa (by simpa using h2)] at hc; cases hc
   split at hp
   ·rename_i t' y e; rw [e] at hx; generalize g:a.eval x=q at hx;cases hx with
    | ifc _ _ u hy =>
    split at hp
    ·rename_i G;cases hp;subst G;cases ok
     ·refine ⟨_,cJ (?_:(Instr.typeAssert (a.eval x) xt t' false).run P w=.ok u w),hy⟩;rw [g]; unfold Instr.typeAssert;cases d <;> first | exact absurd rfl (Z _) | simp [p]
     ·refine ⟨_,cJ (?_:(Instr.typeAssert (a.eval x) xt t' true).run P w=.ok (.tuple #[u,.bool true]) w),am hy⟩;rw [g]; unfold Instr.typeAssert;cases d <;> first | exact absurd rfl (Z _) | simp [p]
    ·rename_i G;split at hp
     ·rename_i af;cases hp;subst af;refine ⟨_,cJ (?_:(Instr.typeAssert (a.eval x) xt t true).run P w=.ok (.tuple #[zv,.bool false]) w),am (Vk hz)⟩;rw [g]; unfold Instr.typeAssert;cases d <;> first | exact absurd rfl (Z _) | simp [p,G,av]
     ·cases hp
   ·rename_i e; rw [e] at hx; generalize g:a.eval x=q at hx;cases hx;split at hp
    ·rename_i af;cases hp;subst af;refine ⟨_,cJ (?_:(Instr.typeAssert (a.eval x) xt t true).run P w=.ok (.tuple #[zv,.bool false]) w),am (Vk hz)⟩;rw [g]; unfold Instr.typeAssert;cases d <;> first | exact absurd rfl (Z _) | simp [p,av]
    ·cases hp
   ·cases hp
 case load t x =>
  split at hc
  ·simp only [C6,eD] at hc;obtain ⟨_,_,hc⟩:=hc;cases hc; cases hp
  ·simp only [C6,eD] at hc;obtain ⟨_,_,_,_,hc⟩:=hc;cases hc; cases hp
 case next x sb =>
  split at hc
  ·simp only [WE] at hc;obtain ⟨_,_,hc⟩:=hc;cases hc; cases hp
  ·cases hc
 all_goals (try simp only [C6,eD,WE] at hc)
 all_goals (repeat' (first | (cases hc; done) | (obtain ⟨_,_,hc⟩:=hc) | (simp only [eD] at hc) | (split at hc)))
 all_goals first | (cases hp; done) | (cases hc; cases hp; done)
end
def Mu.upd (μ:Mu) (b:Nat) (L:BJ):Mu:=fun x=>if x=b then some L else μ x
section
variable {I:Nat->Prop} {P:Program} {μ:Mu} {F:Nat->Prop} {H:Heap} {w:World}
def jA {b:Nat} {L:BJ} (hb:μ b=none):∀ x M,μ x=some M->(μ.upd b L) x=some M:=by
 intro x M h;unfold Mu.upd;split
 ·rename_i e; subst e; rw [hb] at h; cases h
 ·exact h
@[simp] theorem upd_same (b:Nat) (L:BJ):(μ.upd b L) b=some L:=by simp [Mu.upd]
def cx {b x:Nat} (L:BJ) (h:x≠b):(μ.upd b L) x=μ x:=by simp [Mu.upd,h]
def ER.mono {μ μ':Mu} {F F':Nat->Prop} {w w':World} {L:BJ} {e:Ent} (f:∀ b L,μ b=some L->μ' b=some L) (a:∀ c,F c->F' c)
  (d:∀ c,F c->w'.heap[c]? = w.heap[c]?) (hs:w'.heap[L.blk]? = w.heap[L.blk]?) (hn:e.rw=true->¬ F' L.blk) (h:ER P μ F w L e):ER P μ' F' w' L e:=by
 cases e with
 | cells cs ty rw =>
  obtain ⟨arr,fr,h1,h2,h3,h4,h5,k,n⟩:=h;exact ⟨arr,fr,hs.trans h1,h2,h3,h4,fun i c v hc l=>(h5 i c v hc l).mono f a d,fun hr=>⟨hn hr,(k hr).2⟩,fun _=>trivial⟩
 | map es =>
  obtain ⟨h0,j,g,h1,h2,h3,h4⟩:=h;exact ⟨hn rfl,j,g,hs.trans h1,h2.mono f a d,h3.mono f a d,h4⟩
 | mapR es =>
  obtain ⟨j,g,h1,h2,h3,h4⟩:=h;exact ⟨j,g,hs.trans h1,h2.mono f a d,h3.mono f a d,h4⟩
 | loop T ps m body st o =>
  obtain ⟨h0,r,h1,h2,h3,h4⟩:=h;exact ⟨hn rfl,r,hs.trans h1,h2,h3.mono f a d,h4⟩
 | siter s pos=>exact ⟨hn rfl,hs.trans h.2⟩
def qa (w:World) (o:Obj) {c:Nat} (h:c<w.heap.size):(w.alloc o).heap[c]? = w.heap[c]?:=by
 simp only [World.alloc,Zi];rw [if_neg (by omega)]
def pd (hH:HR P μ F H w) {id:Nat} (f:μ id=none) (hlt:id<H.next) (o:Obj) (e:Ent) (N sz:Nat)
  (he:∀ w',(∀ c,F c->w'.heap[c]? = w.heap[c]?)->w'.heap[w.heap.size]? = some o->¬ F w.heap.size->ER P (μ.upd id ⟨w.heap.size,N,sz⟩) F w' ⟨w.heap.size,N,sz⟩ e) (p:I id)
  (w1:World) (h1:w1.heap=w.heap) (x:Tp w w1) (u:w1.os=w.os) (v:w1.output=w.output) :
  HR P (μ.upd id ⟨w.heap.size,N,sz⟩) F (H.put id e) (w1.alloc o)/\Stp I P μ F H w (μ.upd id ⟨w.heap.size,N,sz⟩) F (H.put id e) (w1.alloc o):=by
 have m:∀ c,c<w.heap.size->(w1.alloc o).heap[c]? = w.heap[c]?:=fun c hc=>by rw [qa _ _ (by rw [h1]; exact hc),h1]
 have t:(w1.alloc o).heap[w.heap.size]? = some o:=by rw [<- h1]; exact World.alloc_heap_new w1 o
 have l:(w1.alloc o).heap.size=w.heap.size+1:=by simp [World.alloc,h1]
 have s:¬ F w.heap.size:=fun h=>by have:=hH.fb _ h; omega
 have i:∀ c,F c->(w1.alloc o).heap[c]? = w.heap[c]?:=fun c hc=>m c (hH.fb c hc);have y:∀ e',H.get id≠some e':=fun e' h=>by obtain ⟨L,hL,_⟩:=hH.ent id e' h; rw [f] at hL; cases hL
 refine ⟨⟨?_,?_,?_,?_,fun g cs hg=>(hH.gl g cs hg).mono (jA f) (fun _ h=>h) i⟩,⟨jA f,fun _ h=>h,by rw [l]; omega,fun c hc _=>m c hc,?_,Jv _,?_,?_,?_,?_,x,u,v⟩⟩
 ·intro b L hb;rw [l];by_cases e0:b=id
  ·subst e0; simp at hb; subst hb; exact ⟨hlt,by simp⟩
  ·rw [cx _ e0] at hb
   have:=hH.dom b L hb
   exact ⟨this.1,by omega⟩
 ·intro c hc; rw [l]; have:=hH.fb c hc; omega
 ·intro b e' hb;rw [Heap.get_put] at hb;split at hb
  ·rename_i e0; subst e0; cases hb;exact ⟨_,upd_same _ _,he _ i t s⟩
  ·rename_i e0;obtain ⟨L,hL,n⟩:=hH.ent b e' hb;exact ⟨L,jA f _ _ hL,n.mono (jA f) (fun _ h=>h) i (m _ (hH.dom b L hL).2) (fun hr=>n.notF hr)⟩
 ·intro b b' q r L L' hb j hL d k;rw [Heap.get_put] at hb j;by_cases e0:b=id
  ·by_cases a:b'=id
   ·rw [e0,a]
   ·subst e0;simp at hL; subst hL;rw [cx _ a] at d
    have:=(hH.dom b' L' d).2
    simp only at k; omega
  ·by_cases a:b'=id
   ·subst a;simp at d; subst d;rw [cx _ e0] at hL
    have:=(hH.dom b L hL).2
    simp only at k; omega
   ·rw [if_neg e0] at hb; rw [if_neg a] at j;rw [cx _ e0] at hL; rw [cx _ a] at d;exact hH.inj b b' q r L L' hb j hL d k
 ·intro b L ⟨e',hb,hr⟩ hL;rw [Heap.get_put] at hb;split at hb
  ·rename_i e0; subst e0; simp at hL; subst hL; exact .inl (Jv _)
  ·rename_i e0; rw [cx _ e0] at hL; exact .inr ⟨b,L,⟨e',hb,hr⟩,hL,rfl⟩
 ·intro b hb hi hn
  have:b≠id:=fun e0=>hi (e0 ▸ p)
  rw [cx _ this]; exact hn
 ·intro b L hb;by_cases e0:b=id
  ·subst e0; simp at hb; subst hb; exact .inr (Jv _)
  ·rw [cx _ e0] at hb; exact .inl ⟨b,L,hb,rfl⟩
 ·intro b e' hb _ hi;rw [Heap.get_put,if_neg (fun e0:b=id=>hi (e0 ▸ p))] at hb;exact ⟨e',hb⟩
 ·intro b e' L hb hL;by_cases e0:b=id
  ·subst e0; simp at hL; subst hL; exact .inl (Jv _)
  ·rw [cx _ e0] at hL; rw [Heap.get_put,if_neg e0] at hb; exact .inr ⟨b,e',L,hb,hL,rfl⟩
def jj (hH:HR P μ F H w) {b:Nat} {L:BJ} {e0 e:Ent} (hb:H.get b=some e0) (hr:e0.rw=true) (hL:μ b=some L) (w':World)
  (k:∀ c,c≠L.blk->w'.heap[c]? = w.heap[c]?) (o:w'.heap.size=w.heap.size) (B:Tp w w') (y:w'.os=w.os) (z:w'.output=w.output)
  (he:(∀ c,F c->w'.heap[c]? = w.heap[c]?)->ER P μ F w' L e) (E:e.rw=true) :
  HR P μ F (H.put b e) w'/\Stp I P μ F H w μ F (H.put b e) w':=by
 have v:¬ F L.blk:=hH.rw_notF ⟨e0,hb,hr⟩ hL;have j:∀ c,F c->w'.heap[c]? = w.heap[c]?:=fun c hc=>k c fun e=>v (e ▸ hc);refine ⟨⟨?_,?_,?_,?_,fun g cs hg=>(hH.gl g cs hg).mono (fun _ _ h=>h) (fun _ h=>h) j⟩,⟨fun _ _ h=>h,fun _ h=>h,by omega,?_,?_,Jv _,fun _ _ _ h=>h,fun b L h=>.inl ⟨b,L,h,rfl⟩,?_,?_,B,y,z⟩⟩
 ·intro b' L' h; rw [o]; exact hH.dom b' L' h
 ·intro c hc; rw [o]; exact hH.fb c hc
 ·intro b' e' h;rw [Heap.get_put] at h;split at h
  ·rename_i a; subst a; cases h; exact ⟨L,hL,he j⟩
  ·rename_i a;obtain ⟨L',d,n⟩:=hH.ent b' e' h;refine ⟨L',d,n.mono (fun _ _ h=>h) (fun _ h=>h) j (k _ fun e=>a ?_) (fun hr=>n.notF hr)⟩;exact hH.inj b' b e' e0 L' L h hb d hL e
 ·intro l m C D p q h1 h2 s t u;rw [Heap.get_put] at h1 h2;have f:∃ e,H.get l=some e:=by
   split at h1; · rename_i a; subst a; exact ⟨_,hb⟩
   ·exact ⟨_,h1⟩
  have i:∃ e,H.get m=some e:=by
   split at h2; · rename_i a; subst a; exact ⟨_,hb⟩
   ·exact ⟨_,h2⟩
  obtain ⟨f1,f⟩:=f;obtain ⟨r,i⟩:=i;exact hH.inj l m f1 r p q f i s t u
 ·intro c hc hn;exact k c fun e=>hn b L ⟨e0,hb,hr⟩ hL e.symm
 ·intro b' L' ⟨e',h,A⟩ d;rw [Heap.get_put] at h;split at h
  ·rename_i a; subst a; exact .inr ⟨_,L',⟨e0,hb,hr⟩,d,rfl⟩
  ·exact .inr ⟨b',L',⟨e',h,A⟩,d,rfl⟩
 ·intro x e' h _ _;rw [Heap.get_put] at h;split at h
  ·rename_i a; subst a; exact ⟨_,hb⟩
  ·exact ⟨_,h⟩
 ·intro x e' L' h d;rw [Heap.get_put] at h;split at h
  ·rename_i a; subst a; exact .inr ⟨_,_,L',hb,d,rfl⟩
  ·exact .inr ⟨x,e',L',h,d,rfl⟩
def uA (hH:HR P μ F H w) (b:Nat):HR P μ F (H.kill b) w/\Stp I P μ F H w μ F (H.kill b) w:=by
 have hg:∀ x e,(H.kill b).get x=some e->H.get x=some e:=by
  intro x e h;rw [Heap.get_kill] at h;split at h
  ·cases h
  ·exact h
 refine ⟨⟨hH.dom,hH.fb,fun x e h=>hH.ent x e (hg x e h),fun x y a c L L' h1 h2=>hH.inj x y a c L L' (hg _ _ h1) (hg _ _ h2),hH.gl⟩,⟨fun _ _ h=>h,fun _ h=>h,Jv _,fun _ _ _=>rfl,?_,Jv _,fun _ _ _ h=>h,fun b L h=>.inl ⟨b,L,h,rfl⟩,fun x e h _ _=>⟨e,hg x e h⟩,fun x e L h hL=>.inr ⟨x,e,L,hg x e h,hL,rfl⟩,Tp.same rfl rfl,rfl,rfl⟩⟩;intro x L ⟨e,h,hr⟩ hL;exact .inr ⟨x,L,⟨e,hg x e h,hr⟩,hL,rfl⟩
def uW (hH:HR P μ F H w) {b id:Nat} {L:BJ} {e0:Ent} (hb:H.get b=some e0) (hL:μ b=some L) (f:μ id=none) (hlt:id<H.next) (q:I id) :
  HR P (μ.upd id L) F ((H.kill b).put id e0) w/\Stp I P μ F H w (μ.upd id L) F ((H.kill b).put id e0) w:=by
 have hne:b≠id:=fun e=>by subst e; rw [hL] at f; cases f
 obtain ⟨L0,r,p⟩:=hH.ent b e0 hb;rw [hL] at r; cases r;have hg:∀ x e,x≠id->((H.kill b).put id e0).get x=some e->H.get x=some e/\x≠b:=by
  intro x e hx h;rw [Heap.get_put,if_neg hx,Heap.get_kill] at h;split at h
  ·cases h
  ·rename_i t; exact ⟨h,t⟩
 refine ⟨⟨?_,hH.fb,?_,?_,fun g cs hg=>(hH.gl g cs hg).mono (jA f) (fun _ h=>h) (fun _ _=>rfl)⟩,⟨jA f,fun _ h=>h,Jv _,fun _ _ _=>rfl,?_,Jv _,?_,?_,?_,?_,Tp.same rfl rfl,rfl,rfl⟩⟩
 ·intro x M hx;by_cases e:x=id
  ·subst e; simp at hx; subst hx; exact ⟨hlt,(hH.dom b L hL).2⟩
  ·rw [cx _ e] at hx; exact hH.dom x M hx
 ·intro x e h;by_cases ex:x=id
  ·subst ex;rw [Heap.get_put,if_pos rfl] at h; cases h;exact ⟨L,upd_same _ _,p.mono (jA f) (fun _ h=>h) (fun _ _=>rfl) rfl (fun hr=>p.notF hr)⟩
  ·obtain ⟨h',_⟩:=hg x e ex h;obtain ⟨M,a,o⟩:=hH.ent x e h';exact ⟨M,jA f _ _ a,o.mono (jA f) (fun _ h=>h) (fun _ _=>rfl) rfl (fun hr=>o.notF hr)⟩
 ·intro x y c j M m h1 h2 a i l;by_cases ex:x=id
  ·by_cases d:y=id
   ·rw [ex,d]
   ·subst ex;simp at a; subst a;obtain ⟨k,s⟩:=hg y j d h2;rw [cx _ d] at i;exact absurd (hH.inj y b j e0 m L k hb i hL l.symm) s
  ·obtain ⟨n,u⟩:=hg x c ex h1;rw [cx _ ex] at a;by_cases d:y=id
   ·subst d;simp at i; subst i;exact absurd (hH.inj x b c e0 M L n hb a hL l) u
   ·obtain ⟨k,s⟩:=hg y j d h2;rw [cx _ d] at i;exact hH.inj x y c j M m n k a i l
 ·intro x M ⟨e,h,hr⟩ a;by_cases ex:x=id
  ·subst ex;rw [Heap.get_put,if_pos rfl] at h; cases h;simp at a; subst a;exact .inr ⟨b,L,⟨e0,hb,hr⟩,hL,rfl⟩
  ·obtain ⟨h',_⟩:=hg x e ex h;rw [cx _ ex] at a;exact .inr ⟨x,M,⟨e,h',hr⟩,a,rfl⟩
 ·intro x hx hi hn
  have:x≠id:=fun e0=>hi (e0 ▸ q)
  rw [cx _ this]; exact hn
 ·intro x M a;by_cases e0:x=id
  ·subst e0; simp at a; subst a; exact .inl ⟨b,_,hL,rfl⟩
  ·rw [cx _ e0] at a; exact .inl ⟨x,M,a,rfl⟩
 ·intro x e h _ hi;exact ⟨e,(hg x e (fun e0=>hi (e0 ▸ q)) h).1⟩
 ·intro x e M h a;by_cases c:x=id
  ·subst c; simp at a; subst a; exact .inr ⟨b,e0,_,hb,hL,rfl⟩
  ·rw [cx _ c] at a; exact .inr ⟨x,e,M,(hg x e c h).1,a,rfl⟩
end
end Go.Proofs.YtiigaeehghcjiaaGreat.Ev
