/- Names. -/
import Init
import Derived.WalkKit
import Derived.RangeFuncIn
import GoSem.Core.Utf8
import Derived.Laws.CopyRow
import Derived.Laws.Cells
import Derived.Laws.Entries
import Derived.Laws.Sem
import Derived.Laws.Small
import Derived.Laws.StructEq
import Derived.Laws.Cover3
set_option linter.all false
namespace Go.Proofs.YtkmepoeklibegaaGreat
def zO {P:Prop} (h:P:=by omega):P:=h
def zS {P:Prop} (h:P:=by simp; omega):P:=h
def Vf:=@Option.bind_eq_some_iff
def Vg:=@List.length_set
def Vh:=@List.getD_eq_getElem?_getD
def Vi:=@And.intro
def Vj:=@Option.bind_eq_bind
def Vk:=@List.getElem?_eq_getElem
def Vl:=@List.mem_map
def Vm:=@List.getElem_mem
def Vn:=@List.mem_cons_of_mem
def Vo:=@Nat.le_refl
def Vp:=@List.length_map
def Vq:=@List.map_cons
def Vr:=@List.take_succ_eq_append_getElem
def Vt:=@List.mem_cons_self
def Vu:=@Option.map_eq_some_iff
def Vv:=@List.cons.injEq
def Vw:=@List.map_nil
def Vx:=@List.mem_filter
def Vy:=@Nat.mul_le_mul_right
def Vz:=@Nat.zero_le
def VA:=@List.getElem?_eq_some_iff
def VB:=@Nat.le_trans
def VC:=@List.length_append
def VD:=@List.mem_of_getElem?
def VE:=@List.mem_append
def VF:=@Nat.lt_of_lt_of_le
def VG:=@Nat.mul_comm
def VH:=@Int.mul_eq_zero
def VI:=@Classical.byContradiction
def VJ:=@List.all_eq_true
def VK:=@List.mem_cons
def VL:=@List.getElem?_take
def VM:=@List.getElem?_drop
def VN:=@List.length_take
def VO:=@List.take_length
def VP:=@List.take_of_length_le
def VQ:=@Nat.div_lt_iff_lt_mul
def VS:=@List.getElem?_eq_none
def VT:=@List.getElem?_append_left
def VU:=@Bool.and_eq_true
def VV:=@Nat.le_add_right
def VW:=@Nat.pow_le_pow_right
def VX:=@List.length_cons
def VY:=@List.any_eq_true
def VZ:=@List.eq_nil_of_length_eq_zero
def V2:=@List.pairwise_iff_getElem
def V3:=@Nat.zero_add
def V4:=@Option.some.injEq
def V5:=@Nat.pow_succ
def V6:=@List.mem_of_mem_eraseIdx
def V7:=@List.map_append
def V8:=@Int.mul_nonneg
def V9:=@List.getElem?_of_mem
def Wa:=@List.filter_append
def Wb:=@Nat.pow_pos
def Wc:=@Nat.mul_assoc
def Wd:=@Nat.mod_eq_of_lt
def We:=@List.getElem?_append_right
def Wg:=@List.getElem?_map
def Wh:=@List.length_filter_le
def Wi:=@List.findIdx?_eq_some_iff_getElem
def Wj:=@List.getElem?_replicate
def Wk:=@List.replicate_succ
def Wl:=@List.mem_singleton
def Wm:=@Nat.mod_lt
def Wn:=@List.foldl_cons
def Wo:=@Bool.false_eq_true
def Wp:=@Nat.lt_of_le_of_lt
def Wq:=@Nat.add_mul
def Wt:=@List.mem_range
def Wu:=@Nat.pow_add
def Wv:=@List.append_nil
def Ww:=@Nat.mul_add
def Wx:=@Nat.add_assoc
def Wy:=@Bool.not_eq_true'
def Wz:=@Array.getElem?_eq_some_iff
def WA:=@Nat.div_div_eq_div_mul
def WE:=@List.pairwise_map
def WF:=@List.getElem_of_mem
def WG:=@Nat.min_eq_left
def WH:=@List.mem_append_left
def WI:=@Nat.div_add_mod
def WK:=@Bool.eq_iff_iff
def WL:=@List.length_eq_zero_iff
def WM:=@Array.getElem?_eq_getElem
def WN:=@List.length_drop
def WO:=@Array.getElem?_append_left
def WP:=@List.getElem?_cons_zero
def WQ:=@List.getElem?_cons_succ
def WR:=@Option.bind_some
def WS:=@List.countP_eq_length_filter
def WT:=@Nat.mul_one
def WU:=@List.any_eq_false
def WV:=@Nat.mul_le_mul
def WW:=@List.getElem?_toArray
def WX:=@Option.getD_some
def WY:=@List.mapM_cons
def WZ:=@Nat.add_zero
def W0:=@List.ext_getElem?
def W2:=@Int.mul_pos
def W3:=@List.mem_append_right
def W4:=@Nat.succ_mul
def W5:=@List.getD_cons_succ
def W6:=@Int.nonneg_of_mul_nonneg_right
def W7:=@List.append_assoc
def W8:=@Option.map_some
def W9:=@Bool.or_eq_true
def Xa:=@Option.getD_none
def Xb:=@List.map_congr_left
def Xc:=@List.mem_map_of_mem
def Xd:=@List.contains_iff_mem
def Xe:=@Nat.le_of_lt
def Xf:=@Nat.eq_of_mul_eq_mul_right
def Xg:=@List.mem_of_mem_take
def Xh:=@List.pairwise_cons
def Xi:=@List.length_nil
def Xj:=@Option.map_none
def Xk:=@List.ext_getElem
def Xl:=@Int.le_of_lt
def Xm:=@Nat.le_of_not_lt
def Xn:=@Nat.div_eq_of_lt
def Xo:=@Nat.pow_le_pow_left
def Xp:=@List.filter_eq_self
def Xq:=@Int.toNat_natCast
def Xr:=@Array.getElem?_modify
def Xs:=@List.eq_nil_or_concat
def Xt:=@List.concat_eq_append
def Xu:=@List.map_map
def Xv:=@List.nil_append
def Xw:=@Nat.eq_zero_or_pos
def Xx:=@Nat.add_sub_cancel
def Xy:=@List.cons_append
def Xz:=@List.filter_cons
def XA:=@Bool.not_eq_true
def XB:=@Int.le_refl
def XC:=@Nat.mul_lt_mul_of_pos_right
def XD:=@Array.size_append
def XE:=@List.take_take
def XF:=@List.getElem?_set
def XG:=@List.length_eq_countP_add_countP
def XH:=@Nat.mul_le_mul_left
def XI:=@Option.pure_def
def XJ:=@Nat.le_antisymm
def XK:=@List.eraseIdx_eq_take_drop_succ
def XL:=@List.findIdx?_eq_none_iff
def XM:=@List.length_replicate
def XN:=@Int.natAbs_natCast
def XO:=@List.Pairwise.imp_of_mem
def XP:=@List.take_append_of_le_length
def XQ:=@List.Pairwise.filter
def XS:=@List.pairwise_append
def XT:=@Bool.or_eq_false_iff
def XU:=@List.getElem?_set_self'
def XV:=@List.size_toArray
def XW:=@List.filter_nil
def XX:=@List.nodup_cons
def XY:=@Nat.div_le_self
def XZ:=@List.getD_cons_zero
def X0:=@List.filter_eq_nil_iff
def X1:=@List.set_eq_take_append_cons_drop
def X2:=@Nat.add_mul_mod_self_left
def X3:=@List.getElem?_set_ne
def X4:=@Nat.le_of_eq
def X5:=@Nat.add_comm
def X6:=@List.flatten_cons
def X7:=@Nat.lt_trichotomy
def X8:=@List.mem_of_mem_drop
def X9:=@Int.neg_mul
def Ya:=@Nat.le_of_lt_succ
def Yb:=@Nat.mul_zero
def Yc:=@List.foldl_append
def Yd:=@Array.length_toList
def Ye:=@Array.getElem?_push
def Yf:=@List.getElem?_range
def Yg:=@List.filter_cons_of_pos
def Yh:=@List.filter_cons_of_neg
def Yi:=@Array.eq_empty_of_size_eq_zero
def Yj:=@Nat.add_sub_cancel_left
def Yk:=@Int.natAbs_neg
def Yl:=@Int.eq_ofNat_of_zero_le
def Ym:=@List.getElem_map
def Yn:=@List.mem_eraseIdx_iff_getElem?
def Yo:=@Nat.one_mul
def Yp:=@Int.mul_le_mul_of_nonneg_left
def Yq:=@Array.getElem?_eq_none
def Yr:=@List.drop_eq_nil_of_le
def Ys:=@Nat.mul_right_comm
def Yt:=@Nat.pow_zero
def Yu:=@Int.zero_mul
def Yv:=@List.any_append
def Yw:=@List.sum_cons
def Yx:=@Int.natAbs_dvd_natAbs
def Yy:=@List.filter_congr
def Yz:=@Array.toList_setIfInBounds
def YA:=@Int.tdiv_eq_ediv_of_nonneg
def YB:=@Nat.pow_lt_pow_right
def YC:=@Nat.pow_mul
def YD:=@Nat.le_sub_one_of_lt
def YE:=@Nat.sub_self
def YF:=@Nat.lt_succ_self
def YG:=@List.map_set
def YH:=@Nat.div_add_mod'
def YI:=@Int.mul_zero
def YJ:=@List.flatMap_append
def YK:=@Bool.not_true
def YL:=@Option.isSome_iff_exists
def YM:=@List.eq_of_mem_replicate
def YN:=@List.length_erase_of_mem
def YO:=@List.take_left'
def YP:=@Int.ofNat_dvd_left
def YQ:=@Bool.true_eq_false
def YR:=@List.map_id
def YS:=@Nat.zero_mul
def YT:=@List.take_zero
def YU:=@Array.toList_push
def YV:=@List.pairwise_lt_range
def YW:=@Nat.mul_left_comm
def YX:=@Int.natAbs_mul
def YY:=@Int.natAbs_add_le
def YZ:=@Classical.not_not
def Y0:=@List.getElem_cons_zero
def Y1:=@List.length_pos_of_mem
def Y2:=@Nat.le_of_ble_eq_true
def Y3:=@Array.getElem?_toList
def Y4:=@List.length_mergeSort
def Y5:=@List.take_append_drop
def Y6:=@Nat.le_div_iff_mul_le
def Y7:=@Nat.mul_div_mul_right
def Y8:=@Nat.add_mul_div_right
def Y9:=@List.foldlM_cons
def Za:=@Nat.min_eq_right
def Zb:=@Int.mul_le_mul_of_nonneg_right
def Zc:=@Bool.false_or
def Zd:=@Iff.rfl
def Ze:=@List.range_eq_range'
def Zf:=@Classical.not_forall
def Zg:=@Nat.div_le_div_right
def Zh:=@List.mem_erase_of_ne
def Zi:=@List.prefix_rfl
def Zj:=@Nat.div_lt_self
def Zk:=@Nat.mod_add_div
def Zl:=@Nat.add_lt_add_left
def Zm:=@List.filter_sublist
def Zn:=@Nat.sub_zero
def Zo:=@Nat.lt_or_ge
def Zp:=@Nat.lt_trans
def Zq:=@Int.mul_comm
def Zr:=@Bool.or_true
def Zs:=@Nat.mod_two_eq_zero_or_one
def Zt:=@Bool.not_false
def Zu:=@Array.ext_getElem?
def Zv:=@List.prefix_append
def Zw:=@Nat.le_of_mul_le_mul_right
def Zx:=@Int.fdiv_eq_ediv_of_nonneg
def Zy:=@Option.toList_some
def Zz:=@Int.tmod_eq_emod_of_nonneg
def ZA:=@Int.ofNat_tdiv
def ZB:=@List.perm_ext_iff_of_nodup
def ZC:=@List.length_eraseIdx_of_lt
def ZD:=@Nat.sub_add_cancel
def ZE:=@List.getLastD_cons
def ZF:=@Int.lt_or_eq_of_le
def ZG:=@List.isSublist_iff_sublist
def ZH:=@Array.mapM_eq_mapM_toList
def ZI:=@List.mem_or_eq_of_mem_set
def ZJ:=@Nat.eq_of_mul_eq_mul_left
def ZK:=@Int.eq_of_mul_eq_mul_left
def ZL:=@List.getElem_append_right
def ZM:=@Nat.mul_pos
def ZN:=@Nat.or_lt_two_pow
def ZO:=@List.mem_range'_1
def ZP:=@List.getLastD_nil
def ZQ:=@List.countP_congr
def ZR:=@List.mapM_nil
def ZS:=@List.filterMap_cons_none
def ZT:=@List.filterMap_cons_some
def ZU:=@List.Perm.eq_of_pairwise
def ZV:=@Bool.or_false
def ZW:=@List.getElem_append_left
def ZX:=@Nat.mul_lt_mul''
def ZY:=@Nat.le_mul_of_pos_right
def ZZ:=@List.mem_flatMap
def Z0:=@Array.getElem?_extract
def Z1:=@List.range_succ_eq_map
def Z2:=@List.range_succ
def Z3:=@Nat.mul_mod_mul_right
def Z4:=@Bool.and_eq_false_iff
def Z5:=@List.mem_of_mem_erase
def Z6:=@List.mem_iff_getElem
def Z7:=@List.drop_zero
def Z8:=@List.length_finRange
def Z9:=@Int.ofNat_eq_natCast
end Go.Proofs.YtkmepoeklibegaaGreat
namespace Go.Proofs.YtkmepoeklibegaaGreat.Ev
open Go
inductive AV where
 | undef
 | bool (b:Bool)
 | int (k:IntKind) (n:Int)
 | str (s:ByteArray)
 | nilPtr | nilSl | nilFn | nilIf | nilMap
 | agg (cs:List AV)
 | tup (vs:List AV)
 | sl (cells:List AV) (n:Nat)
 | dp (cells:List AV) (off:Nat)
 | own (b off n c sz:Nat) (ex:Bool)
 | ptr (b off:Nat)
 | fn (f:Fn) (first captured:List AV)
 | ifc (t:Nat) (v:AV)
 | map (b:Nat)
 | loopv (b:Nat)
 deriving Inhabited
inductive Src where
 | t (n:Nat)
 | c (v:AV)
 deriving Inhabited
inductive BK where
 | int | bool | str | sl | ifc
 deriving Inhabited
inductive AOp where
 | mv (x:Src)
 | pick (c a b:Src)
 | alloc (ty:Nat) (zero:List AV)
 | box (ty:Nat) (x:Src)
 | build (zero:List AV) (parts:List ((Nat × Nat) × Src))
 | buildSlice (ty size:Nat) (zeros:List AV) (len:Nat) (parts:List ((Nat × Nat) × Src))
 | load (k:Option Nat) (x:Src)
 | store (n:Nat) (x v:Src)
 | nilCheck (x:Src)
 | bin (op:BinOp) (kd:BK) (x y:Src)
 | eqAgg (neg:Bool) (n:Nat) (x y:Src)
 | un (op:UnOp) (x:Src)
 | conv (k:IntKind) (x:Src)
 | strId (x:Src)
 | iface (ty:Nat) (x:Src)
 | mkfn (fn:Fn) (first captured:List Src)
 | mkmap
 | mksl (ty size bytes:Nat) (zero:List AV) (l c:Src)
 | slice (size:Nat) (x:Src) (lo hi mx:Option Src)
 | sliceStr (x:Src) (lo hi:Option Src)
 | fieldAddr (off:Nat) (x:Src)
 | field (k:Option Nat) (off:Nat) (x:Src)
 | indexAddr (size:Nat) (x i:Src)
 | indexAgg (len size:Nat) (k:Option Nat) (x i:Src)
 | indexStr (x i:Src)
 | lookup (kd:BK) (zero:AV) (x i:Src) (ok:Bool)
 | mapUpd (kd:BK) (m k v:Src)
 | extract (i:Nat) (x:Src)
 | len (x:Src)
 | lenStr (x:Src)
 | lenMap (x:Src)
 | cap (x:Src)
 | min (xs:List Src)
 | max (xs:List Src)
 | append (size bytes ty:Nat) (zero:List AV) (x y:Src)
 | appendZ (size bytes ty:Nat) (zero:List AV) (x y:Src)
 | clear (size:Nat) (zero:List AV) (x:Src)
 | copy (size:Nat) (x y:Src)
 | toStr (x:Src)
 | toBytes (ty:Nat) (x:Src)
 | tassert (t:Nat) (zero:AV) (ok:Bool) (x:Src)
 | indexArr (len size:Nat) (x i:Src)
 | globIdx (cs:List AV) (len size:Nat) (i:Src)
 | globLoad (k:Option Nat) (cs:List AV)
 | rangeS (x:Src)
 | nextS (x:Src)
 | bad
 | call (f:Src) (args:List Src)
 | panic (x:Src)
 deriving Inhabited
structure Eo where
 dst:Option Nat
 op:AOp
 guard:Option (Nat × Bool)
 deriving Inhabited
structure jv where
 dst:Option Nat
 op:AOp
 guard:Option (Nat × Bool)
 uses:List (Nat × Option Nat)
 cls:Nat
 looks:List (Nat × List Nat)
 deriving Inhabited
inductive ACode where
 | skip
 | region (ops:List Eo)
 | draw (ops:List jv) (late:List Nat)
 | seq (a b:ACode)
 | cond (c:Src) (thn els:ACode)
 | block (id:Nat) (body:ACode)
 | loop (body:ACode)
 | rangeFunc (f:Src) (params:List Nat) (assign body:ACode)
 | exit (id:Nat)
 | goto (l:Nat)
 | ret
 | scope (a:ACode)
 | drawF (ds:List jv) (late:List Nat) (last:jv) (mid:List Nat)
 | rangeM (pre:List Eo) (x:Src) (it nx ex bid bid2 en:Nat) (ops:List Eo) (rest:ACode) (W:List Nat)
 | scopeL (a:ACode) (l:Nat) (rest:ACode)
 deriving Inhabited
inductive Ent where
 | cells (cs:List AV) (ty:Nat) (rw:Bool)
 | map (es:List (AV × AV))
 | loop (T:List AV) (params:List Nat) (assign body:ACode) (state:LoopState) (pending:Option ACode)
 | siter (s:ByteArray) (pos:Nat)
 | mapR (es:List (AV × AV))
 deriving Inhabited
def Ent.ro:Ent->Option Ent
 | .cells cs ty _=>some (.cells cs ty false)
 | .map es=>some (.mapR es)
 | .mapR es=>some (.mapR es)
 | .loop ..=>none
 | .siter ..=>none
mutual
def AV.beq:AV->AV->Bool
 | .undef,.undef=>true
 | .bool a,.bool b=>a == b
 | .int j a,.int k b=>decide (j=k) && decide (a=b)
 | .str a,.str b=>decide (a=b)
 | .nilPtr,.nilPtr=>true
 | .nilSl,.nilSl=>true
 | .nilFn,.nilFn=>true
 | .nilIf,.nilIf=>true
 | .nilMap,.nilMap=>true
 | .agg a,.agg b=>AV.beqs a b
 | .tup a,.tup b=>AV.beqs a b
 | .sl a n,.sl b m=>AV.beqs a b && n == m
 | .dp a n,.dp b m=>AV.beqs a b && n == m
 | .own a b c d e f,.own a' b' g h e' f'=>a == a' && b == b' && c == g && d == h && e == e' && f == f'
 | .ptr a b,.ptr a' b'=>a == a' && b == b'
 | .fn f a b,.fn f' a' b'=>decide (f=f') && AV.beqs a a' && AV.beqs b b'
 | .ifc t v,.ifc i l=>t == i && AV.beq v l
 | .map b,.map b'=>b == b'
 | .loopv b,.loopv b'=>b == b'
 | _,_=>false
def AV.beqs:List AV->List AV->Bool
 | [],[]=>true
 | a :: as,b :: bs=>AV.beq a b && AV.beqs as bs
 | _,_=>false
end
structure Q (α:Type) where
 a:α
 b:α
 c:α
 d:α
 e:α
 f:α
 g:α
 h:α
 deriving Inhabited
inductive D8 where
 | d0 | d1 | d2 | d3 | d4 | d5 | d6 | d7
 deriving DecidableEq
def D8.of (n:Nat):D8 :=
 Bool.casesOn (motive:=fun _=>D8) (Nat.beq (Nat.mod (Nat.div n 4) 2) 1)
  (Bool.casesOn (motive:=fun _=>D8) (Nat.beq (Nat.mod (Nat.div n 2) 2) 1) (Bool.casesOn (motive:=fun _=>D8) (Nat.beq (Nat.mod n 2) 1) .d0 .d1) (Bool.casesOn (motive:=fun _=>D8) (Nat.beq (Nat.mod n 2) 1) .d2 .d3))
  (Bool.casesOn (motive:=fun _=>D8) (Nat.beq (Nat.mod (Nat.div n 2) 2) 1) (Bool.casesOn (motive:=fun _=>D8) (Nat.beq (Nat.mod n 2) 1) .d4 .d5) (Bool.casesOn (motive:=fun _=>D8) (Nat.beq (Nat.mod n 2) 1) .d6 .d7))
def Q.at {α:Type} (d:D8):Q α->α:=D8.casesOn (motive:=fun _=>Q α->α) d Q.a Q.b Q.c Q.d Q.e Q.f Q.g Q.h
def Q.ua {α:Type} (u:α->α) (q:Q α):Q α:=Q.casesOn (motive:=fun _=>Q α) q fun a b c d e f g h=>⟨u a,b,c,d,e,f,g,h⟩
def Q.ub {α:Type} (u:α->α) (q:Q α):Q α:=Q.casesOn (motive:=fun _=>Q α) q fun a b c d e f g h=>⟨a,u b,c,d,e,f,g,h⟩
def Q.uc {α:Type} (u:α->α) (q:Q α):Q α:=Q.casesOn (motive:=fun _=>Q α) q fun a b c d e f g h=>⟨a,b,u c,d,e,f,g,h⟩
def Q.ud {α:Type} (u:α->α) (q:Q α):Q α:=Q.casesOn (motive:=fun _=>Q α) q fun a b c d e f g h=>⟨a,b,c,u d,e,f,g,h⟩
def Q.ue {α:Type} (u:α->α) (q:Q α):Q α:=Q.casesOn (motive:=fun _=>Q α) q fun a b c d e f g h=>⟨a,b,c,d,u e,f,g,h⟩
def Q.uf {α:Type} (u:α->α) (q:Q α):Q α:=Q.casesOn (motive:=fun _=>Q α) q fun a b c d e f g h=>⟨a,b,c,d,e,u f,g,h⟩
def Q.ug {α:Type} (u:α->α) (q:Q α):Q α:=Q.casesOn (motive:=fun _=>Q α) q fun a b c d e f g h=>⟨a,b,c,d,e,f,u g,h⟩
def Q.uh {α:Type} (u:α->α) (q:Q α):Q α:=Q.casesOn (motive:=fun _=>Q α) q fun a b c d e f g h=>⟨a,b,c,d,e,f,g,u h⟩
def Q.up {α:Type} (d:D8):(α->α)->Q α->Q α:=D8.casesOn (motive:=fun _=>(α->α)->Q α->Q α) d Q.ua Q.ub Q.uc Q.ud Q.ue Q.uf Q.ug Q.uh
def Q.all {α:Type} (x:α):Q α:=⟨x,x,x,x,x,x,x,x⟩
structure Tr where
 t:Q (Q (Q (Q (Q (Q (Q (Q (Option Ent))))))))
 big:List (Nat × Option Ent)
 deriving Inhabited
def Tr.nil:Tr:=⟨.all (.all (.all (.all (.all (.all (.all (.all none))))))),[]⟩
def It:List (Nat × Option Ent)->Nat->Option Ent
 | [],_=>none
 | (k,e) :: l,n=>if n=k then e else It l n
def Tr.get (T:Tr) (n:Nat):Option Ent :=
 Bool.casesOn (motive:=fun _=>Option Ent) (Nat.ble n 16777215) (It T.big n)
  (Q.at (D8.of n) (Q.at (D8.of (Nat.div n 8)) (Q.at (D8.of (Nat.div n 64)) (Q.at (D8.of (Nat.div n 512)) (Q.at (D8.of (Nat.div n 4096)) (Q.at (D8.of (Nat.div n 32768)) (Q.at (D8.of (Nat.div n 262144)) (Q.at (D8.of (Nat.div n 2097152)) T.t))))))))
def Tr.set (T:Tr) (n:Nat) (e:Option Ent):Tr :=
 Bool.casesOn (motive:=fun _=>Tr) (Nat.ble n 16777215) ⟨T.t,(n,e) :: T.big⟩
  ⟨Q.up (D8.of (Nat.div n 2097152)) (Q.up (D8.of (Nat.div n 262144)) (Q.up (D8.of (Nat.div n 32768)) (Q.up (D8.of (Nat.div n 4096)) (Q.up (D8.of (Nat.div n 512)) (Q.up (D8.of (Nat.div n 64)) (Q.up (D8.of (Nat.div n 8)) (Q.up (D8.of n) (fun _=>e)))))))) T.t,T.big⟩
structure Heap where
 next:Nat
 tr:Tr
 lim:Nat
 ovr:List (Nat × Option Ent)
 deriving Inhabited
def Mb (o:Option Ent):Option Ent:=Option.casesOn (motive:=fun _=>Option Ent) o none Ent.ro
def mj (d:Option Ent) (b:Nat):List (Nat × Option Ent)->Option Ent
 | []=>d
 | (k,e) :: l=>if b=k then e else mj d b l
def Heap.get (H:Heap) (b:Nat):Option Ent:=Bool.casesOn (motive:=fun _=>Option Ent) (Nat.ble (Nat.succ b) H.lim) (H.tr.get b) (mj (Mb (H.tr.get b)) b H.ovr)
def Heap.setO (H:Heap) (b:Nat) (o:Option Ent):Heap:=⟨H.next,Bool.casesOn (motive:=fun _=>Tr) (Nat.ble (Nat.succ b) H.lim) (H.tr.set b o) H.tr,H.lim,Bool.casesOn (motive:=fun _=>List (Nat × Option Ent)) (Nat.ble (Nat.succ b) H.lim) H.ovr ((b,o) :: H.ovr)⟩
def Heap.put (H:Heap) (b:Nat) (e:Ent):Heap:=H.setO b (some e)
def Heap.kill (H:Heap) (b:Nat):Heap:=H.setO b none
def Heap.nil (n:Nat):Heap:=⟨n,Tr.nil,0,[]⟩
def Heap.ro (H:Heap):Heap:=⟨H.next,H.tr,Nat.max H.next H.lim,(H.ovr.filter fun p=>decide (p.1<H.lim)).map fun p=>(p.1,Mb p.2)⟩
abbrev Tm:=List AV
def aa (T:Tm) (n:Nat):AV:=T.getD n .undef
def Src.ev (T:Tm):Src->AV
 | .t n=>aa T n
 | .c v=>v
def putT (T:Tm) (d:Option Nat) (v:AV):Tm :=
 match d with
 | some d=>T.set d v
 | none=>T
def AV.cells:AV->List AV
 | .agg cs=>cs
 | v=>[v]
def AV.one:AV->Bool
 | .agg _ | .tup _ | .undef=>false
 | _=>true
def dj:List AV->List ((Nat × Nat) × AV)->Option (List AV)
 | cs,[]=>some cs
 | cs,((off,size),v) :: rest =>
  let a:=v.cells
  if a.length=size/\off+size<=cs.length/\a.all AV.one=true then dj (cs.take off++a++cs.drop (off+size)) rest else none
def pb (v:AV):Option Nat :=
 match v with
 | .int _ (.ofNat n)=>some n
 | _=>none
def bz (cs:List AV) (off:Nat):Option Nat->Option AV
 | none=>cs[off]?
 | some n=>if off+n<=cs.length then some (.agg ((cs.drop off).take n)) else none
def kQ (op:BinOp) (k:IntKind) (x y:Int):Option AV :=
 match op with
 | .add=>some (.int k (k.wrap (x+y)))
 | .sub=>some (.int k (k.wrap (x-y)))
 | .mul=>some (.int k (k.wrap (x*y)))
 | .quo=>if y=0 then none else some (.int k (k.wrap (x.tdiv y)))
 | .rem=>if y=0 then none else some (.int k (x.tmod y))
 | .and=>some (.int k (k.wrap (BitVec.ofInt k.bits x &&& BitVec.ofInt k.bits y).toNat))
 | .or=>some (.int k (k.wrap (BitVec.ofInt k.bits x ||| BitVec.ofInt k.bits y).toNat))
 | .xor=>some (.int k (k.wrap (BitVec.ofInt k.bits x ^^^ BitVec.ofInt k.bits y).toNat))
 | .andNot=>some (.int k (k.wrap (BitVec.ofInt k.bits x &&& ~~~ (BitVec.ofInt k.bits y)).toNat))
 | .eql=>some (.bool (x == y))
 | .neq=>some (.bool (x != y))
 | .lss=>some (.bool (decide (x<y)))
 | .leq=>some (.bool (decide (x<=y)))
 | .gtr=>some (.bool (decide (x > y)))
 | .geq=>some (.bool (decide (x ≥ y)))
 | _=>none
def kK (op:BinOp) (k:IntKind) (x y:Int):Option AV :=
 if y<0 then none else
 match op with
 | .shl=>some (.int k (k.wrap (x*2^(Nat.min y.toNat k.bits))))
 | .shr=>some (.int k (x.fdiv (2^(Nat.min y.toNat k.bits))))
 | _=>none
def yR:AV->Option Bool
 | .nilSl=>some true
 | .own ..=>some false
 | .sl ..=>some false
 | _=>none
def Hw:AV->AV->Option Bool
 | .nilIf,.nilIf=>some true
 | .nilIf,.ifc _ _=>some false
 | .ifc _ _,.nilIf=>some false
 | _,_=>none
def ca (op:BinOp) (kd:BK) (x y:AV):Option AV :=
 match kd,x,y with
 | .int,.int k a,.int c b =>
  match op with
  | .shl=>kK .shl k a b
  | .shr=>kK .shr k a b
  | op=>if k=c then kQ op k a b else none
 | .bool,.bool a,.bool b =>
  match op with
  | .eql=>some (.bool (a == b))
  | .neq=>some (.bool (!(a == b)))
  | _=>none
 | .str,.str a,.str b =>
  match op with
  | .eql=>some (.bool (a.toList == b.toList))
  | .neq=>some (.bool (!(a.toList == b.toList)))
  | .add=>if ((a.size+b.size:Nat):Int) > IntKind.i64.max then none else some (.str (a++b))
  | _=>none
 | .sl,x,.nilSl =>
  match op with
  | .eql=>(yR x).map .bool
  | .neq=>(yR x).map fun b=>.bool !b
  | _=>none
 | .ifc,x,y=>match op with
  | .eql=>(Hw x y).map .bool
  | .neq=>(Hw x y).map fun b=>.bool !b
  | _=>none
 | _,_,_=>none
def FO:List AV->List AV->Option Bool
 | [.bool a,.bool b],[.bool c,.bool d]=>some (a == c && b == d)
 | _,_=>none
def rj:Nat->List AV->List AV->Option Bool
 | 0,[],[]=>some true
 | n+1,.int k a :: as,.int c b :: bs=>if k=c then (rj n as bs).map fun r=>a == b && r else none
 | _,_,_=>none
def RP (op:UnOp) (x:AV):Option AV :=
 match op,x with
 | .neg,.int k n=>some (.int k (k.wrap (0-n)))
 | .xor,.int k n=>some (.int k (k.wrap (BitVec.ofInt k.bits (if k.signed then -1 else k.max) ^^^ BitVec.ofInt k.bits n).toNat))
 | .not,.bool b=>some (.bool !b)
 | _,_=>none
def bL (size:Nat) (x:AV) (lo hi mx:Option AV):Option AV :=
 match x with
 | .own b off n c sz ex =>
  if sz≠size then none else
  match mx,hi,lo with
  | some m,some h,lo=>do
   let m <- pb m; let h <- pb h; let l <- (lo.map pb).getD (some 0)
   if m<=c/\h<=m/\l<=h then (if m=l then some (.own b off (h-l) 0 sz true) else some (.own b (off+l*size) (h-l) (m-l) sz true)) else none
  | none,hi,lo=>do
   let h <- (hi.map pb).getD (some n); let l <- (lo.map pb).getD (some 0)
   if h<=c/\l<=h then
    (if l<c\/l=0 then some (.own b (off+l*size) (h-l) (c-l) sz ex) else if ex=true then some (.own b off (h-l) (c-l) sz true) else some (.sl [] 0))
   else none
  | _,_,_=>none
 | .sl cs n =>
  match mx,hi,lo with
  | none,hi,lo=>do
   let h <- (hi.map pb).getD (some n); let l <- (lo.map pb).getD (some 0)
   if h<=n/\l<=h/\h*size<=cs.length then some (.sl ((cs.drop (l*size)).take ((h-l)*size)) (h-l)) else none
  | some m,some h,lo=>do
   let m <- pb m; let h <- pb h; let l <- (lo.map pb).getD (some 0)
   if m<=n/\h<=m/\l<=h/\h*size<=cs.length then some (.sl ((cs.drop (l*size)).take ((h-l)*size)) (h-l)) else none
  | _,_,_=>none
 | .nilSl =>
  match mx,hi with
  | some m,some h=>if pb m=some 0/\pb h=some 0/\(lo.map pb).getD (some 0)=some 0 then some .nilSl else none
  | none,hi=>if (hi.map pb).getD (some 0)=some 0/\(lo.map pb).getD (some 0)=some 0 then some .nilSl else none
  | _,_=>none
 | .str s =>
  match mx with
  | none=>do
   let h <- (hi.map pb).getD (some s.size); let l <- (lo.map pb).getD (some 0)
   if h<=s.size && l<=h then some (.str (s.extract l h)) else none
  | some _=>none
 | _=>none
def I9:AV->AV->Option AV
 | .int k x,.int _ y=>some (.int k (if y<x then y else x))
 | _,_=>none
def Ja:AV->AV->Option AV
 | .int k x,.int _ y=>some (.int k (if y > x then y else x))
 | _,_=>none
def aN (ev:Src->AV):AOp->Option AV
 | .mv x=>some (ev x)
 | .pick c a b=>match ev c with | .bool t=>some (if t then ev a else ev b) | _=>none
 | .build zero parts=>do
  let cs <- dj zero (parts.map fun p=>(p.1,ev p.2))
  some (.agg cs)
 | .nilCheck x=>match ev x with
  | .ptr b o=>some (.ptr b o)
  | .dp cs o=>some (.dp cs o)
  | .fn (.func f) a c=>some (.fn (.func f) a c)
  | .loopv b=>some (.loopv b)
  | _=>none
 | .bin op kd x y=>ca op kd (ev x) (ev y)
 | .eqAgg neg n x y=>match ev x,ev y with
  | .agg a,.agg b=>(match n with | 0=>FO a b | n+1=>rj (n+1) a b).map fun r=>.bool (if neg then !r else r)
  | _,_=>none
 | .un op x=>RP op (ev x)
 | .conv k x=>match ev x with | .int _ n=>some (.int k (k.wrap n)) | _=>none
 | .strId x=>match ev x with | .str s=>some (.str s) | _=>none
 | .iface ty x=>match ev x with | .undef=>none | v=>some (.ifc ty v)
 | .mkfn f first cap=>some (.fn f (first.map ev) (cap.map ev))
 | .slice size x lo hi mx=>match ev x with
  | .str _=>none
  | v=>bL size v (lo.map ev) (hi.map ev) (mx.map ev)
 | .sliceStr x lo hi=>match ev x with
  | .str s=>bL 1 (.str s) (lo.map ev) (hi.map ev) none
  | _=>none
 | .fieldAddr off x=>match ev x with
  | .ptr b o=>some (.ptr b (o+off))
  | .dp cs o=>some (.dp cs (o+off))
  | _=>none
 | .field k off x=>match ev x with | .agg cs=>bz cs off k | _=>none
 | .indexAddr size x i=>do
  let i <- pb (ev i)
  match ev x with
  | .own b off n _ sz _=>if i<n/\sz=size then some (.ptr b (off+i*size)) else none
  | .sl cs n=>if i<n then some (.dp cs (i*size)) else none
  | _=>none
 | .tassert t z ok x=>match ev x with
  | .ifc d v=>if d=t then some (if ok then .tup [v,.bool true] else v) else if ok=true then some (.tup [z,.bool false]) else none
  | .nilIf=>if ok=true then some (.tup [z,.bool false]) else none
  | _=>none
 | .indexArr len size x i=>do
  let i <- pb (ev i)
  match ev x with
  | .ptr b o=>if i<len then some (.ptr b (o+i*size)) else none
  | .dp cs o=>if i<len then some (.dp cs (o+i*size)) else none
  | _=>none
 | .indexAgg len size k x i=>do
  let i <- pb (ev i)
  match ev x with
  | .agg cs=>if i<len then bz cs (i*size) k else none
  | _=>none
 | .indexStr x i=>do
  let i <- pb (ev i)
  match ev x with
  | .str s=>(s[i]?).map fun b=>.int .u8 b.toNat
  | _=>none
 | .extract i x=>match ev x with | .tup vs=>vs[i]? | _=>none
 | .len x=>match ev x with
  | .own _ _ n _ _ _=>some (.int .i64 n)
  | .sl _ n=>some (.int .i64 n)
  | .nilSl=>some (.int .i64 0)
  | _=>none
 | .lenStr x=>match ev x with
  | .str s=>some (.int .i64 s.size)
  | _=>none
 | .cap x=>match ev x with
  | .own _ _ _ c _ true=>some (.int .i64 c)
  | .nilSl=>some (.int .i64 0)
  | _=>none
 | .min xs=>match xs.map ev with
  | .int k a :: rest=>rest.foldlM I9 (AV.int k a)
  | _=>none
 | .max xs=>match xs.map ev with
  | .int k a :: rest=>rest.foldlM Ja (AV.int k a)
  | _=>none
 | _=>none
def AOp.isPure:AOp->Bool
 | .mv _ | .pick .. | .build .. | .nilCheck _ | .bin .. | .eqAgg .. | .un .. | .conv .. | .strId _ | .iface .. | .mkfn .. | .slice .. | .sliceStr .. | .fieldAddr .. | .field .. | .indexAddr .. | .indexArr .. | .tassert .. | .indexAgg .. | .indexStr .. | .extract .. | .len _ | .lenStr _ | .cap _ | .min _ | .max _=>true
 | _=>false
def dV:AV->AV->Option Bool
 | .int j a,.int k b=>if j=k then some (a == b) else none
 | .str a,.str b=>some (a == b)
 | .bool a,.bool b=>some (a == b)
 | _,_=>none
def fJ:BK->AV->Bool
 | .int,.int _ _=>true
 | .str,.str _=>true
 | _,_=>false
def ic (k:AV):List (AV × AV)->Option (Option AV)
 | []=>some none
 | (a,v) :: es=>match dV k a with
  | some true=>some (some v)
  | some false=>ic k es
  | none=>none
def mc (k v:AV):List (AV × AV)->List (AV × AV)
 | []=>[(k,v)]
 | (a,b) :: es=>match dV k a with
  | some true=>(k,v) :: es
  | _=>(a,b) :: mc k v es
def uP (H:Heap):AV->Option (List (AV × AV))
 | .nilMap=>some []
 | .map b=>match H.get b with
  | some (.map es)=>some es
  | some (.mapR es)=>some es
  | _=>none
 | _=>none
def pX (H:Heap) (kd:BK) (zero x i:AV) (ok:Bool):Option AV :=
 if fJ kd i=false then none else
 match uP H x with
 | none=>none
 | some es=>match ic i es with
  | none=>none
  | some none=>some (if ok then .tup [zero,.bool false] else zero)
  | some (some v)=>some (if ok then .tup [v,.bool true] else v)
def iB (H:Heap) (kd:BK) (m k v:AV):Option Heap :=
 if fJ kd k=false then none else
 match m with
 | .map b=>match H.get b with
  | some (.map es)=>match ic k es with
   | none=>none
   | some _=>some (H.put b (.map (mc k v es)))
  | _=>none
 | _=>none
def aG (H:Heap) (size n:Nat):AV->Option (List AV)
 | .own b off m _ sz _=>match H.get b with
  | some (.cells cs _ _)=>if sz=size/\n<=m/\off+n*size<=cs.length then some ((cs.drop off).take (n*size)) else none
  | _=>none
 | .sl cs m=>if n<=m/\n*size<=cs.length then some (cs.take (n*size)) else none
 | .nilSl=>if n=0 then some [] else none
 | .str s=>if n<=s.size/\size=1 then some ((s.extract 0 n).data.toList.map fun b=>.int .u8 b.toNat) else none
 | _=>none
def gL:AV->Option Nat
 | .own _ _ n _ _ _=>some n
 | .sl _ n=>some n
 | .nilSl=>some 0
 | .str s=>some s.size
 | _=>none
def tY:List AV->ByteArray->Option ByteArray
 | [],s=>some s
 | .int .u8 k :: l,s=>tY l (s.push (UInt8.ofNat k.toNat))
 | _,_=>none
def nH (H:Heap) (x:AV):Option ByteArray :=
 match x with
 | .str _=>none
 | x=>match gL x with
  | none=>none
  | some n=>match aG H 1 n x with
   | none=>none
   | some cs=>tY cs .empty
def cS (H:Heap) (id size bytes ty:Nat) (x:AV) (m:Nat) (a:List AV) (fr:Option Nat):Option (AV × Heap) :=
 match x with
 | .nilSl=>if m=0 then some (.nilSl,H) else if m*bytes<=2^46/\m<2^62 then some (.own id 0 m m size false,H.put id (.cells a ty true)) else none
 | .own b off n c sz ex =>
  match H.get b with
  | some (.cells cs d rw) =>
   if sz=size/\(n+m)*bytes<=2^46/\n+m<2^62/\d=ty/\off+n*size<=cs.length then
    if n+m<=c then
     (if m=0 then some (.own b off n c sz ex,H)
      else if rw=true/\a.all AV.one=true then some (.own b off (n+m) c sz ex,H.put b (.cells (cs.take (off+n*size)++a++cs.drop (off+n*size+m*size)) ty rw)) else none)
    else if ex=true then some (.own id 0 (n+m) (n+m) size false,H.put id (.cells ((cs.drop off).take (n*size)++a) ty true))
    else if off=0/\rw=true/\fr≠some b/\a.all AV.one=true then some (.own id 0 (n+m) (n+m) size false,(H.kill b).put id (.cells (cs.take (n*size)++a) ty true))
    else none
   else none
  | _=>none
 | _=>none
def aW (H:Heap) (k:Option Nat):AV->Option AV
 | .ptr b o=>match H.get b with
  | some (.cells cs _ _)=>bz cs o k
  | _=>none
 | .dp cs o=>bz cs o k
 | _=>none
def qw (H:Heap) (n:Nat) (x v:AV):Option Heap :=
 match x with
 | .ptr b o=>match H.get b with
  | some (.cells cs ty true) =>
   if v.cells.length=n/\o+n<=cs.length/\v.cells.all AV.one=true then some (H.put b (.cells (cs.take o++v.cells++cs.drop (o+n)) ty true)) else none
  | _=>none
 | _=>none
def ru (H:Heap) (size:Nat) (zero:List AV):AV->Option Heap
 | .own b off n _ sz _=>match H.get b with
  | some (.cells cs ty true) =>
   if n=0 then some H
   else if sz=size/\off+n*size<=cs.length/\zero.length=size/\zero.all AV.one=true then some (H.put b (.cells (cs.take off++(List.replicate n zero).flatten++cs.drop (off+n*size)) ty true))
   else none
  | _=>none
 | .nilSl=>some H
 | _=>none
def OA (H:Heap) (size:Nat) (x y:AV):Option (AV × Heap) :=
 match gL y with
 | none=>none
 | some m=>match x with
  | .own b off n _ sz _=>match aG H size (Nat.min m n) y,H.get b with
   | some a,some (.cells cs ty true) =>
    if sz=size/\off<=cs.length/\a.all AV.one=true then some (.int .i64 (Nat.min m n:Nat),H.put b (.cells (cs.take off++a++cs.drop (off+a.length)) ty true)) else none
   | _,_=>none
  | .nilSl=>match aG H size 0 y with
   | some _=>some (.int .i64 0,H)
   | none=>none
  | _=>none
def Hy (H:Heap):AV->Option (AV × Heap)
 | .ptr b 0=>match H.get b with
  | some (.siter s pos)=>if pos<s.size then some (.tup [.bool true,.int .i64 pos,.int .i32 (Utf8.decode s pos).1],H.put b (.siter s (pos+(Utf8.decode s pos).2))) else some (.tup [.bool false],H)
  | _=>none
 | _=>none
def bg (ev:Src->AV) (H:Heap) (id:Nat):AOp->Option (AV × Heap)
 | .alloc ty zero=>some (.ptr id 0,H.put id (.cells zero ty true))
 | .box ty x=>let cs:=(ev x).cells; if cs.all AV.one then some (.ptr id 0,H.put id (.cells cs ty true)) else none
 | .buildSlice ty size zeros len parts=>match dj zeros (parts.map fun p=>(p.1,ev p.2)) with
  | none=>none
  | some cs=>some (.own id 0 len len size true,H.put id (.cells cs ty true))
 | .load k x=>(aW H k (ev x)).map fun v=>(v,H)
 | .store n x v=>(qw H n (ev x) (ev v)).map fun H'=>(.undef,H')
 | .mkmap=>some (.map id,H.put id (.map []))
 | .mksl ty size bytes zero l c=>match pb (ev l),pb (ev c) with
  | some l,some c =>
   if l<=c/\bytes*c<=2^47/\c<2^63/\zero.length=size then
    some (.own id 0 l c size true,H.put id (.cells ((List.replicate c zero).flatten) ty true))
   else none
  | _,_=>none
 | .lookup kd zero x i ok=>(pX H kd zero (ev x) (ev i) ok).map fun v=>(v,H)
 | .mapUpd kd m k v=>(iB H kd (ev m) (ev k) (ev v)).map fun H'=>(.undef,H')
 | .lenMap x=>match ev x with
  | .nilMap=>some (.int .i64 0,H)
  | .map b=>match H.get b with | some (.map es)=>some (.int .i64 es.length,H) | some (.mapR es)=>some (.int .i64 es.length,H) | _=>none
  | _=>none
 | .append size bytes ty _ x y=>match gL (ev y) with
  | none=>none
  | some m=>match aG H size m (ev y) with
   | none=>none
   | some a=>cS H id size bytes ty (ev x) m a (match ev y with | .own b _ _ _ _ _=>some b | _=>none)
 | .appendZ size bytes ty zero x y=>match pb (ev y) with
  | none=>none
  | some m=>if zero.length=size/\m*bytes<=2^46/\m<2^62 then cS H id size bytes ty (ev x) m ((List.replicate m zero).flatten) none else none
 | .clear size zero x=>(ru H size zero (ev x)).map fun H'=>(.tup [],H')
 | .copy size x y=>OA H size (ev x) (ev y)
 | .toStr x=>(nH H (ev x)).map fun s=>(.str s,H)
 | .rangeS x=>match ev x with
  | .str s=>some (.ptr id 0,H.put id (.siter s 0))
  | _=>none
 | .nextS x=>Hy H (ev x)
 | .globIdx cs len size i=>match pb (ev i) with
  | some i=>if i<len then some (.dp cs (i*size),H) else none
  | none=>none
 | .globLoad k cs=>(bz cs 0 k).map fun v=>(v,H)
 | .toBytes ty x=>match ev x with
  | .str s=>some (.own id 0 s.size s.size 1 false,H.put id (.cells (s.data.toList.map fun b=>.int .u8 b.toNat) ty false))
  | _=>none
 | _=>none
inductive Ex where
 | nrm
 | exit (id:Nat)
 | goto (l:Nat)
 | ret
 deriving Inhabited,DecidableEq
inductive Task where
 | fn (f:Nat) (args:List AV)
 | round (b:Nat) (args:List AV)
 | ent (f:Nat) (args:List AV)
 deriving Inhabited
def iD (f:AV) (args:List AV):Option Task :=
 match f with
 | .fn (.func f) first cap=>some (.fn f (first++args++cap))
 | .loopv b=>some (.round b args)
 | _=>none
abbrev oy:=Task->Heap->Option (AV × Heap)
def Ab (cal:oy) (ev:Src->AV) (H:Heap) (id:Nat) (o:AOp):Option (AV × Heap) :=
 match o with
 | .call f args=>do
  let t <- iD (ev f) (args.map ev)
  cal t H
 | o=>match aN ev o with
  | some v=>some (v,H)
  | none=>bg ev H id o
def cg (T:Tm):Option (Nat × Bool)->Option Bool
 | none=>some true
 | some (t,a)=>match T[t]? with
  | some (.bool b)=>some (b == a)
  | some (.tup [])=>some false
  | _=>none
def yF (cal:oy):Nat->List Eo->Tm->Heap->Option (Tm × Heap)
 | _,[],T,H=>some (T,H)
 | id,o :: os,T,H =>
  match cg T o.guard with
  | some true =>
   match Ab cal (Src.ev T) H id o.op with
   | some (v,H')=>yF cal (id+1) os (putT T o.dst v) H'
   | none=>none
  | some false=>yF cal (id+1) os (putT T o.dst (.tup [])) H
  | none=>none
def mV (T0:Tm) (Vs:List AV) (u:Nat × Option Nat):AV:=match u.2 with | none=>aa T0 u.1 | some j=>Vs.getD j .undef
def cw (T0:Tm) (Vs:List AV) (us:List (Nat × Option Nat)):Tm:=us.foldl (fun T u=>T.set u.1 (mV T0 Vs u)) (List.replicate T0.length .undef)
def dH (base:Nat) (Es:List (Option Ent)) (C:Heap) (adds:List Nat):Heap :=
 adds.foldl (fun C a=>match Es.getD a none with | some e=>C.put (base+a) e | none=>C) C
def AOp.looks:AOp->Bool
 | .load .. | .lookup .. | .lenMap _ | .globIdx .. | .globLoad ..=>true
 | _=>false
def AOp.makes:AOp->Bool
 | .alloc .. | .box .. | .buildSlice .. | .mksl .. | .mkmap=>true
 | _=>false
structure DS where
 Vs:List AV
 Cs:List Heap
 Es:List (Option Ent)
def jU (cal:oy) (base:Nat) (T0:Tm) (i:Nat) (d:jv) (s:DS):Option DS :=
 let T:=cw T0 s.Vs d.uses
 match cg T d.guard with
 | none=>none
 | some false =>
  match d.cls,d.looks with
  | 2,[(k,adds)]=>some ⟨s.Vs++[.tup []],s.Cs++[dH base s.Es (s.Cs.getD k default) adds],s.Es++[none]⟩
  | 2,_=>none
  | _,_=>some ⟨s.Vs++[.tup []],s.Cs,s.Es++[none]⟩
 | some true =>
  match d.cls with
  | 0=>match aN (Src.ev T) d.op with
   | some v=>some ⟨s.Vs++[v],s.Cs,s.Es++[none]⟩
   | none=>match d.looks with
    | (k,adds) :: _=>if d.op.looks=true then match bg (Src.ev T) (dH base s.Es (s.Cs.getD k default) adds) 0 d.op with
      | some (v,_)=>some ⟨s.Vs++[v],s.Cs,s.Es++[none]⟩
      | none=>none
     else none
    | []=>none
  | 1=>if d.op.makes=true then match bg (Src.ev T) (Heap.nil 0) (base+i) d.op with
    | some (v,H')=>some ⟨s.Vs++[v],s.Cs,s.Es++[H'.get (base+i)]⟩
    | none=>none
   else none
  | _=>match d.looks with
   | [(k,adds)]=>match Ab cal (Src.ev T) (dH base s.Es (s.Cs.getD k default) adds) (base+i) d.op with
    | some (v,H')=>some ⟨s.Vs++[v],s.Cs++[H'],s.Es++[none]⟩
    | none=>none
   | _=>none
def tX (cal:oy) (base:Nat) (T0:Tm):Nat->List jv->DS->Option DS
 | _,[],s=>some s
 | i,d :: ds,s=>match jU cal base T0 i d s with
  | some s'=>tX cal base T0 (i+1) ds s'
  | none=>none
def kn (base:Nat) (T0:Tm) (s:DS) (i:Nat) (d:jv):Bool :=
 match d.cls,cg (cw T0 s.Vs d.uses) d.guard,aN (Src.ev (cw T0 s.Vs d.uses)) d.op with
 | 0,some true,none=>d.looks.all fun p=>match bg (Src.ev (cw T0 s.Vs d.uses)) (dH base s.Es (s.Cs.getD p.1 default) p.2) 0 d.op with
  | some (v,_)=>AV.beq v (s.Vs.getD i .undef)
  | none=>false
 | _,_,_=>true
def lP (base:Nat) (T0:Tm) (s:DS):Nat->List jv->Bool
 | _,[]=>true
 | i,d :: ds=>kn base T0 s i d && lP base T0 s (i+1) ds
def gD (T:Tm):List jv->List AV->Tm
 | d :: ds,v :: vs=>gD (putT T d.dst v) ds vs
 | _,_=>T
def FQ (cal:oy) (ds:List jv) (late:List Nat) (T:Tm) (H:Heap):Option (Tm × Heap) :=
 match tX cal H.next T 0 ds ⟨[],[{ H with next:=H.next+ds.length }],[]⟩ with
 | none=>none
 | some s=>if lP H.next T s 0 ds=true then some (gD T ds s.Vs,dH H.next s.Es (s.Cs.getLastD default) late) else none
def Av (body:Tm->Heap->Option (Ex × Tm × Heap)):Nat->Tm->Heap->Option (Ex × Tm × Heap)
 | 0,_,_=>none
 | n+1,T,H =>
  match body T H with
  | some (.nrm,T',H')=>Av body n T' H'
  | r=>r
def Jj (l:Nat) (body:Tm->Heap->Option (Ex × Tm × Heap)):Nat->Tm->Heap->Option (Ex × Tm × Heap)
 | 0,_,_=>none
 | n+1,T,H =>
  match body T H with
  | some (.goto a,T',H')=>if a=l then Jj l body n T' H' else none
  | r=>r
def oI:Tm->List (Nat × AV)->Tm
 | T,[]=>T
 | T,(t,v) :: r=>oI (T.set t v) r
def aI (cal:oy) (m:Nat) (rd:Bool):ACode->Tm->Heap->Option (Ex × Tm × Heap)
 | .skip,T,H=>some (.nrm,T,H)
 | .region ops,T,H =>
  match yF cal H.next ops T { H with next:=H.next+ops.length } with
  | some (T',H')=>some (.nrm,T',H')
  | none=>none
 | .draw ds late,T,H =>
  match FQ cal ds late T H with
  | some (T',H')=>some (.nrm,T',H')
  | none=>none
 | .seq a b,T,H =>
  match aI cal m rd a T H with
  | some (.nrm,T',H')=>aI cal m rd b T' H'
  | r=>r
 | .cond c a b,T,H =>
  match c.ev T with
  | .bool true=>aI cal m rd a T H
  | .bool false=>aI cal m rd b T H
  | _=>none
 | .block id body,T,H =>
  match aI cal m rd body T H with
  | some (.exit d,T',H')=>if d=id then some (.nrm,T',H') else some (.exit d,T',H')
  | r=>r
 | .loop body,T,H=>Av (aI cal m rd body) m T H
 | .exit id,T,H=>some (.exit id,T,H)
 | .goto l,T,H=>some (.goto l,T,H)
 | .ret,T,H=>some (.ret,T,H)
 | .scope a,T,H =>
  match aI cal m rd a T H with
  | some (.goto _,_,_)=>none
  | r=>r
 | .scopeL a l rest,T,H =>
  match aI cal m rd a T H with
  | some (.goto i,T',H')=>if i=l then Jj l (aI cal m rd rest) m T' H' else none
  | r=>r
 | .drawF ..,_,_=>none
 | .rangeM ..,_,_=>none
 | .rangeFunc f ps h body,T,H =>
  if rd=true then none else
  let l:=H.next
  let e:Heap:={ H with next:=H.next+1 }.put l (.loop T ps h body .ready none)
  match iD (f.ev T) [.loopv l] with
  | some (.fn fi args)=>match cal (.ent fi args) e with
   | some (_,H2)=>match H2.get l with
    | some (.loop _ _ _ _ .ready none)=>some (.nrm,T,H2.kill l)
    | some (.loop _ _ _ _ .done (some c))=>match c with
     | .ret=>some (.ret,T,H2.kill l)
     | .exit id=>some (.exit id,T,H2.kill l)
     | .goto g=>some (.goto g,T,H2.kill l)
     | _=>none
    | _=>none
   | none=>none
  | _=>none
inductive Pa where
 | code (c:ACode)
 | seq (a:ACode) (b:Pa)
 | dfr (ops:List Eo) (f:Src) (b:Pa)
 deriving Inhabited
inductive Ext where
 | add64 | sub64
 | countS | indexS
 | insert (size bytes ty:Nat)
 | keys (str:Bool) (gs:List Nat) (ty:Nat)
 | sortF (ty:Nat) (gs:List Nat)
 | dfr (b:Pa)
 | rcv (d:Nat) (c:ACode)
 deriving Inhabited
def Ext.code:Ext->Bool
 | .dfr _ | .rcv _ _ | .keys ..=>true
 | _=>false
structure au where
 nparams:Nat
 ntmps:Nat
 results:List (Nat × Option (Option Nat))
 body:ACode
 ext:Option Ext:=none
 deriving Inhabited
def Tu {α:Type} (le:α->α->Bool) (x:α):List α->List α
 | []=>[x]
 | y :: l=>if le x y=true then x :: y :: l else y :: Tu le x l
def EP {α:Type} (le:α->α->Bool):List α->List α
 | []=>[]
 | x :: l=>Tu le x (EP le l)
def Dd {α:Type} (le:α->α->Bool):List α->Bool
 | []=>true
 | [_]=>true
 | a :: b :: l=>!le b a && Dd le (b :: l)
def TX (a b:Int):Bool:=decide (a<=b)
def TR:List UInt8->List UInt8->Bool
 | [],_=>true
 | _ :: _,[]=>false
 | a :: x,b :: y=>if a.toNat<b.toNat then true else if a.toNat=b.toNat then TR x y else false
def intOf?:AV->Option Int
 | .int .i64 n=>if -9223372036854775808<=n/\n<=9223372036854775807 then some n else none
 | _=>none
def strOf?:AV->Option (List UInt8)
 | .str s=>if s.size<=9223372036854775807 then some s.data.toList else none
 | _=>none
def SN {α:Type} (f:AV->Option α):List (AV × AV)->Option (List α)
 | []=>some []
 | (k,_) :: es=>match f k,SN f es with
  | some a,some l=>some (a :: l)
  | _,_=>none
def PW (str:Bool) (es:List (AV × AV)):Option (List AV) :=
 match str with
 | false=>match SN intOf? es with
  | some a=>if Dd TX (EP TX a)=true then some ((EP TX a).map (AV.int .i64)) else none
  | none=>none
 | true=>match SN strOf? es with
  | some a=>if Dd TR (EP TR a)=true then some ((EP TR a).map fun l=>AV.str ⟨l.toArray⟩) else none
  | none=>none
def Sq (H:Heap) (gs:List Nat):List AV->Option (List (AV × AV))
 | [.fn (.func g) [] [.ptr b 0]]=>if gs.contains g then
   match H.get b with
   | some (.cells [.map mb] _ _)=>match H.get mb with
    | some (.map es)=>some es
    | some (.mapR es)=>some es
    | _=>none
   | _=>none
  else none
 | _=>none
def Tt (H:Heap) (str:Bool) (gs:List Nat) (ty:Nat) (args:List AV):Option (AV × Heap) :=
 match Sq H gs args with
 | none=>none
 | some es=>if es.length<=1000000 then
   match PW str es with
   | none=>none
   | some []=>some (.nilSl,{ H with next:=H.next+1 })
   | some cs=>some (.own H.next 0 cs.length cs.length 1 false,{ H with next:=H.next+1 }.put H.next (.cells cs ty true))
  else none
def SE (c:Nat):List UInt8->Nat
 | []=>0
 | b :: l=>bif Nat.beq b.toNat c then Nat.succ (SE c l) else SE c l
def Tv (c:Nat):List UInt8->Int
 | []=>-1
 | b :: l=>bif Nat.beq b.toNat c then 0 else match Tv c l with
  | .ofNat n=>.ofNat (Nat.succ n)
  | z=>z
def u3 (H:Heap):Ext->List AV->Option (AV × Heap)
 | .keys str gs ty,args=>Tt H str gs ty args
 | .add64,[.int .u64 (.ofNat x),.int .u64 (.ofNat y),.int .u64 (.ofNat c)]=>if c<=1 then some (.tup [.int .u64 (.ofNat ((x+y+c) % 2^64)),.int .u64 (.ofNat ((x+y+c) / 2^64))],H) else none
 | .sub64,[.int .u64 (.ofNat x),.int .u64 (.ofNat y),.int .u64 (.ofNat c)]=>if c<=1 then some (.tup [.int .u64 (.ofNat ((x+2^64-y-c) % 2^64)),.int .u64 (.ofNat (if x<y+c then 1 else 0))],H) else none
 | .countS,[.str s,.int .u8 (.ofNat c)]=>if c<256 then some (.int .i64 (.ofNat (SE c s.toList)),H) else none
 | .indexS,[.str s,.int .u8 (.ofNat c)]=>if c<256 then some (.int .i64 (Tv c s.toList),H) else none
 | .insert size bytes ty,[.nilSl,.int .i64 (.ofNat i),.own a g m e h f] =>
  match aG H size m (.own a g m e h f) with
  | some d=>if i=0/\0<m/\m*bytes<=2^46/\m<2^62/\d.all AV.one=true then some (.own H.next 0 m m size false,{ H with next:=H.next+1 }.put H.next (.cells d ty true)) else none
  | none=>none
 | .insert size bytes ty,[.own b off n c sz ex,.int .i64 (.ofNat i),.own a g m e h f] =>
  match aG H size m (.own a g m e h f),H.get b,H.get a with
  | some d,some (.cells cs j true),some (.cells _ _ true) =>
   if off=0/\sz=size/\b≠a/\0<m/\i<=n/\cs.length=n*size/\(n+m)*bytes<=2^46/\n+m<2^62/\j=ty/\d.all AV.one=true/\cs.all AV.one=true then
    some (.own H.next 0 (n+m) (n+m) size false,({ H with next:=H.next+1 }.kill b).put H.next (.cells (cs.take (i*size)++d++cs.drop (i*size)) ty true))
   else none
  | _,_,_=>none
 | _,_=>none
def oH (T:Tm) (H:Heap) (r:Nat × Option (Option Nat)):Option AV :=
 match r.2 with
 | none=>some (aa T r.1)
 | some k=>match aa T r.1 with
  | .ptr b o=>match H.get b with
   | some (.cells cs _ _)=>bz cs o k
   | _=>none
  | _=>none
def cr (T:Tm) (H:Heap) (a:List (Nat × Option (Option Nat))):Option AV:=do
 let vs <- a.mapM (oH T H)
 match vs with
 | [v]=>some v
 | vs=>some (.tup vs)
def zI (cal:oy) (m:Nat) (fn:au) (args:List AV) (H:Heap):Option (AV × Heap) :=
 if args.length=fn.nparams then
  match aI cal m false fn.body (args++List.replicate (fn.ntmps-args.length) .undef) H with
  | some (.nrm,T,H')=>(cr T H' fn.results).map fun v=>(v,H')
  | some (.ret,T,H')=>(cr T H' fn.results).map fun v=>(v,H')
  | _=>none
 else none
abbrev L8:=Task->Heap->Option (AV × Heap)
def Tg:oy:=fun _ _=>none
def Mc (M:List (List Int)) (i j:Nat):Bool:=decide ((M.getD i []).getD j 0<0)
def QS (M:List (List Int)) (n:Nat):Prop:=(∀ i,i<n->Mc M i i=false)/\(∀ i,i<n->∀ j,j<n->i=j\/Mc M i j = !Mc M j i)/\(∀ i,i<n->∀ j,j<n->∀ k,k<n->Mc M i j=true->Mc M j k=true->Mc M i k=true)
instance (M:List (List Int)) (n:Nat):Decidable (QS M n):=by unfold QS; infer_instance
def rt (cal:oy) (g:Nat) (caps:List AV) (D:Heap) (x:AV):List AV->Option (List Int)
 | []=>some []
 | y :: l=>match cal (.fn g ([x,y]++caps)) D,rt cal g caps D x l with
  | some (.int .i64 c,_),some cs=>some (c :: cs)
  | _,_=>none
def sv (cal:oy) (g:Nat) (caps:List AV) (D:Heap) (all:List AV):List AV->Option (List (List Int))
 | []=>some []
 | x :: l=>match rt cal g caps D x all,sv cal g caps D all l with
  | some r,some a=>some (r :: a)
  | _,_=>none
def kJ (M:List (List Int)) (n:Nat):List (Fin n):=(List.finRange n).mergeSort fun x y=>!Mc M y.val x.val
def B4 (cal:oy) (ty:Nat) (gs:List Nat) (H:Heap):List AV->Option (AV × Heap)
 | [.nilSl,.fn (.func _) _ _]=>some (.tup [],H)
 | [.own b off n _ sz _,.fn (.func g) [] caps]=>if n=0 then some (.tup [],H) else match H.get b with
  | some (.cells cs a true) =>
   if a=ty/\off=0/\sz=1/\cs.length=n/\0<n/\n<4611686018427387904/\g∈gs/\cs.all AV.one=true then
    match sv cal g caps (H.kill b).ro cs cs with
    | some M=>if QS M n then some (.tup [],H.put b (.cells ((kJ M n).map fun i=>cs.getD i.val .undef) ty true)) else none
    | none=>none
   else none
  | _=>none
 | _=>none
def jx (tab:Nat->Option au) (o:L8) (cal:oy) (m:Nat):Task->Heap->Option (AV × Heap)
 | .fn f args,H =>
  match tab f with
  | none=>none
  | some fn=>match fn.ext with
   | some (.sortF ty gs)=>B4 cal ty gs H args
   | some e=>u3 H e args
   | none=>zI cal m fn args H
 | .ent f args,H =>
  match tab f with
  | none=>none
  | some fn=>match fn.ext with
   | some _=>none
   | none=>zI cal m fn args H
 | .round b args,H =>
  match H.get b with
  | some (.loop T ps j body .ready none) =>
   if args.length=ps.length then
    match aI cal m true j (oI T (ps.zip args)) H with
    | some (.nrm,T1,h) =>
     match h.get b with
     | some (.loop i n k l .ready none) =>
      match aI cal m true body T1 (h.put b (.loop i n k l .busy none)) with
      | some (x,_,H2) =>
       match H2.get b with
       | some (.loop T2 d a c .busy none) =>
        match x with
        | .nrm=>some (.bool true,H2.put b (.loop T2 d a c .ready none))
        | .ret=>some (.bool false,H2.put b (.loop T2 d a c .done (some .ret)))
        | .exit id=>some (.bool false,H2.put b (.loop T2 d a c .done (some (.exit id))))
        | .goto g=>some (.bool false,H2.put b (.loop T2 d a c .done (some (.goto g))))
       | _=>none
      | none=>none
     | _=>none
    | _=>none
   else none
  | _=>none
def lu (tab:Nat->Option au) (a:L8) (m:Nat):Nat->oy
 | 0=>fun _ _=>none
 | n+1=>jx tab a (lu tab a m n) m
def Ma:Nat->Option (List AV):=fun _=>none
def O5:Prop:=True
def Cc:Value->Option AV
 | .bool b=>some (.bool b)
 | .int k n=>some (.int k n)
 | .string s=>some (.str s)
 | .pointer none=>some .nilPtr
 | .slice none 0 0=>some .nilSl
 | .map none=>some .nilMap
 | .nilFunc=>some .nilFn
 | .nilIface=>some .nilIf
 | .func f a b=>if a.size=0/\b.size=0 then some (.fn f [] []) else none
 | _=>none
def JG (v:Value):Option (List AV):=v.cells.toList.mapM Cc
def su:Value->Option AV
 | .agg cs=>do some (.agg (<- cs.toList.mapM Cc))
 | .tuple vs=>if vs.size=0 then some (.tup []) else none
 | v=>Cc v
def bV:Operand->Option Src
 | .tmp t=>some (.t t)
 | .const v=>(su v).map .c
 | .global _=>none
 | .func f=>some (.c (.fn (.func f) [] []))
def HZ:Operand->Option (List AV)
 | .global g=>Ma g
 | _=>none
def uT:Operand->Bool
 | .const _=>true
 | _=>false
def Bi:Option Operand->Option (Option Src)
 | none=>some none
 | some x=>(bV x).map some
section
variable (P:Program)
def zeroCells? (t:TypeId):Option (List AV):=do
 let i <- P.info? t
 let z <- i.zero
 JG z
def sizeOf? (t:TypeId):Option Nat:=(P.info? t).map (·.size)
def bytesOf? (t:TypeId):Option Nat:=(P.info? t).map (·.bytes)
def pY (t:TypeId):Option (Option Nat):=do
 match <- P.underlying t with
 | .struct _=>(sizeOf? P t).map some
 | .array _ _=>(sizeOf? P t).map some
 | _=>some none
def uz (a:Array Field):Option (List (Nat × Nat)):=a.toList.mapM fun f=>(sizeOf? P f.type).map fun n=>(f.offset,n)
def tV (t:TypeId):Bool :=
 match P.underlying t with
 | some (.array 2 e)=>(match P.underlying e with | some .bool=>true | _=>false) && (sizeOf? P e == some 1)
 | _=>false
def iF (t:TypeId):Nat :=
 match P.underlying t with
 | some (.struct a)=>if (a.toList.zipIdx.all fun p=>p.1.name != "_" && (p.1.offset == p.2 && (match P.underlying p.1.type with | some (.int _)=>true | _=>false))) && !P.stoodInHeld t then a.size else 0
 | _=>0
def Q4 (t:TypeId):Bool:=match P.underlying t with
 | some (.interface _)=>true
 | _=>false
def jt (t:TypeId):Option BK :=
 match P.underlying t with
 | some (.int _)=>some .int
 | some .bool=>some .bool
 | some .string=>some .str
 | some (.slice _)=>some .sl
 | _=>none
def Ci (t:TypeId):Bool :=
 match P.underlying t with
 | some (.int _) | some .string=>true
 | _=>false
def Ge (o:Oper):Option AOp :=
 match o.op with
 | .move x | .assign x=>(bV x).map .mv
 | .pick c a b=>do some (.pick (<- bV c) (<- bV a) (<- bV b))
 | .alloc e=>do some (.alloc e (<- zeroCells? P e))
 | .box e x=>do
  let _ <- sizeOf? P e
  some (.box e (<- bV x))
 | .build t parts=>do
  let z <- zeroCells? P t
  match <- P.underlying t with
  | .struct d=>do
   let h <- uz P d
   let ps <- parts.toList.mapM fun (i,x)=>do some ((<- h[i]?),(<- bV x))
   some (.build z ps)
  | .array _ e=>do
   let n <- sizeOf? P e
   let ps <- parts.toList.mapM fun (i,x)=>do some ((i*n,n),(<- bV x))
   some (.build z ps)
  | _=>none
 | .buildSlice t len parts=>do
  match <- P.underlying t with
  | .slice e=>do
   let n <- sizeOf? P e
   let z <- zeroCells? P e
   let ps <- parts.toList.mapM fun (i,x)=>do some ((i*n,n),(<- bV x))
   if len*n<=2^24/\z.length=n then some (.buildSlice e n ((List.replicate len z).flatten) len ps) else none
  | _=>none
 | .load t x=>match HZ x with
  | some cs=>do some (.globLoad (<- pY P t) cs)
  | none=>do some (.load (<- pY P t) (<- bV x))
 | .store t x v=>do some (.store (<- sizeOf? P t) (<- bV x) (<- bV v))
 | .nilCheck x=>(bV x).map .nilCheck
 | .binOp op t x y _ =>
  if tV P t then
   match op with
   | .eql=>do some (.eqAgg false 0 (<- bV x) (<- bV y))
   | .neq=>do some (.eqAgg true 0 (<- bV x) (<- bV y))
   | _=>none
  else if iF P t≠0 then
   match op with
   | .eql=>do some (.eqAgg false (iF P t) (<- bV x) (<- bV y))
   | .neq=>do some (.eqAgg true (iF P t) (<- bV x) (<- bV y))
   | _=>none
  else if Q4 P t then (if uT x || uT y then do some (.bin op .ifc (<- bV x) (<- bV y)) else none)
  else do some (.bin op (<- jt P t) (<- bV x) (<- bV y))
 | .unOp op _ x=>do some (.un op (<- bV x))
 | .convert a b x=>do
  match <- P.underlying a,<- P.underlying b with
  | .int _,.int k=>do some (.conv k (<- bV x))
  | .string,.string=>do some (.strId (<- bV x))
  | .slice e,.string=>do
   match <- P.underlying e with
   | .int .u8=>some (.toStr (<- bV x))
   | _=>none
  | .string,.slice e=>do
   match <- P.underlying e with
   | .int .u8=>do
    let n <- sizeOf? P e
    if n=1 then some (.toBytes e (<- bV x)) else none
   | _=>none
  | _,_=>none
 | .makeInterface t x=>do
  match <- P.underlying t with
  | .interface _=>none
  | _=>some (.iface t (<- bV x))
 | .makeFunc f first cap=>do some (.mkfn f (<- first.toList.mapM bV) (<- cap.toList.mapM bV))
 | .makeMap t r=>do
  match <- P.underlying t with
  | .map _ _=>if r.isNone then some .mkmap else none
  | _=>none
 | .makeSlice t l c=>do
  match <- P.underlying t with
  | .slice e=>do some (.mksl e (<- sizeOf? P e) (<- bytesOf? P e) (<- zeroCells? P e) (<- bV l) (<- bV c))
  | _=>none
 | .slice t x lo hi mx=>do
  match <- P.underlying t with
  | .slice e=>do some (.slice (<- sizeOf? P e) (<- bV x) (<- Bi lo) (<- Bi hi) (<- Bi mx))
  | .string=>if mx.isSome then none else do some (.sliceStr (<- bV x) (<- Bi lo) (<- Bi hi))
  | _=>none
 | .fieldAddr t x i=>do
  match <- P.underlying t with
  | .struct d=>do
   let f <- d[i]?
   let n <- sizeOf? P f.type
   if n=0 then none else some (.fieldAddr f.offset (<- bV x))
  | _=>none
 | .field t x i=>do
  match <- P.underlying t with
  | .struct d=>do let f <- d[i]?; some (.field (<- pY P f.type) f.offset (<- bV x))
  | _=>none
 | .indexAddr t x i=>do
  match <- P.underlying t with
  | .slice e=>do some (.indexAddr (<- sizeOf? P e) (<- bV x) (<- bV i))
  | .array n e=>match HZ x with
   | some cs=>do some (.globIdx cs n (<- sizeOf? P e) (<- bV i))
   | none=>do some (.indexArr n (<- sizeOf? P e) (<- bV x) (<- bV i))
  | _=>none
 | .index t x i=>do
  match <- P.underlying t with
  | .array n e=>do some (.indexAgg n (<- sizeOf? P e) (<- pY P e) (<- bV x) (<- bV i))
  | .string=>do some (.indexStr (<- bV x) (<- bV i))
  | _=>none
 | .lookup t x i ok=>do
  match <- P.underlying t with
  | .map k e =>
   if Ci P k then do
    let z <- (P.info? e).bind (·.zero)
    some (.lookup (<- jt P k) (<- su z) (<- bV x) (<- bV i) ok)
   else none
  | _=>none
 | .mapUpdate t m k v | .insert t m k v=>do
  match <- P.underlying t with
  | .map g _=>if Ci P g then do some (.mapUpd (<- jt P g) (<- bV m) (<- bV k) (<- bV v)) else none
  | _=>none
 | .extract x i=>do some (.extract i (<- bV x))
 | .call c=>do
  let args <- c.args.toList.mapM bV
  match c.callee with
  | .value f=>do some (.call (<- bV f) args)
  | .invoke _ _=>none
  | .builtin b =>
   match b,args,c.argTypes.toList with
   | .len,[x],[t]=>do
    match <- P.underlying t with
    | .slice _=>some (.len x)
    | .string=>some (.lenStr x)
    | .map _ _=>some (.lenMap x)
    | _=>none
   | .cap,[x],[t]=>do
    match <- P.underlying t with
    | .slice _=>some (.cap x)
    | _=>none
   | .min,xs,_=>some (.min xs)
   | .max,xs,_=>some (.max xs)
   | .append,[x,y],[t,j]=>do
    match <- P.underlying t,<- P.underlying j with
    | .slice e,.slice _=>do
     let n <- sizeOf? P e; let z <- zeroCells? P e
     if z.length=n then some (.append n (<- bytesOf? P e) e z x y) else none
    | .slice e,.string=>do
     let n <- sizeOf? P e; let z <- zeroCells? P e
     if z.length=n then some (.append n (<- bytesOf? P e) e z x y) else none
    | .slice e,.int .i64=>do
     let n <- sizeOf? P e; let z <- zeroCells? P e
     if z.length=n then some (.appendZ n (<- bytesOf? P e) e z x y) else none
    | _,_=>none
   | .clear,[x],[t]=>do
    match <- P.underlying t with
    | .slice e=>do some (.clear (<- sizeOf? P e) (<- zeroCells? P e) x)
    | _=>none
   | .copy,[x,y],[t,_]=>do
    match <- P.underlying t with
    | .slice e=>do some (.copy (<- sizeOf? P e) x y)
    | _=>none
   | _,_,_=>none
 | .panic x=>(bV x).map .panic
 | .typeAssert x _ t ok=>do
  match <- P.underlying t with
  | .interface _=>none
  | _=>do
   let z <- (P.info? t).bind (·.zero)
   some (.tassert t (<- su z) ok (<- bV x))
 | .range t x=>do
  match <- P.underlying t with
  | .string=>some (.rangeS (<- bV x))
  | _=>none
 | .next x s=>if s=true then (bV x).map .nextS else none
 | _=>none
def Bj (ops:Array Oper):Option (Nat × Bool)->Option (Option (Nat × Bool))
 | none=>some none
 | some (j,b)=>match ops[j]? with
  | none=>none
  | some a=>match a.dst with
   | none=>none
   | some d=>some (some (d,b))
def OL (ops:Array Oper) (o:Oper):Option Eo :=
 (Bj ops o.guard).map fun g=>{ dst:=o.dst,op:=(Ge P o).getD .bad,guard:=g }
def qe:Src->List Nat
 | .t n=>[n]
 | .c _=>[]
def oT:Option Src->List Nat
 | some s=>qe s
 | none=>[]
def AOp.slots:AOp->List Nat
 | .mv x | .box _ x | .load _ x | .nilCheck x | .un _ x | .conv _ x | .strId x | .iface _ x | .fieldAddr _ x | .field _ _ x | .extract _ x | .len x | .lenStr x | .lenMap x | .cap x | .clear _ _ x | .toStr x | .toBytes _ x | .rangeS x | .nextS x | .tassert _ _ _ x | .globIdx _ _ _ x | .panic x=>qe x
 | .pick a b c=>qe a++qe b++qe c
 | .build _ ps | .buildSlice _ _ _ _ ps=>ps.flatMap fun p=>qe p.2
 | .store _ x y | .bin _ _ x y | .eqAgg _ _ x y | .indexAddr _ x y | .indexArr _ _ x y | .indexAgg _ _ _ x y | .indexStr x y | .lookup _ _ x y _ | .mksl _ _ _ _ x y | .append _ _ _ _ x y | .appendZ _ _ _ _ x y | .copy _ x y=>qe x++qe y
 | .mkfn _ a b=>a.flatMap qe++b.flatMap qe
 | .slice _ x a b c=>qe x++oT a++oT b++oT c
 | .sliceStr x a b=>qe x++oT a++oT b
 | .mapUpd _ a b c=>qe a++qe b++qe c
 | .min xs | .max xs=>xs.flatMap qe
 | .call f xs=>qe f++xs.flatMap qe
 | .alloc .. | .mkmap | .bad | .globLoad ..=>[]
def lC (o:Oper):List Nat:=(o.after.toList.filter (Region.binds .any)).map (·.on)
def P7 (ops:List Oper):List (List Nat) :=
 ops.foldl (fun acc o=>acc++[((lC o).flatMap fun j=>j :: acc.getD j []).eraseDups]) []
def Q9 (a:AOp):Nat:=if a.isPure || a.looks then 0 else if a.makes then 1 else 2
structure DI where
 dst:Option Nat
 op:AOp
 guard:Option (Nat × Bool)
 preds:List Nat
 cls:Nat
 deriving Inhabited
def Jg (l:List DI) (i:Nat) (p:List Nat) (t:Nat):Option Nat :=
 (List.range i).foldl (fun acc j=>if p.contains j && ((l.getD j default).dst == some t) then some j else acc) none
def aD (l:List DI):List Nat:=(List.range l.length).filter fun i=>(l.getD i default).cls == 2
def dM (l:List DI) (k:Nat):List Nat :=
 match k with
 | 0=>[]
 | k+1=>let w:=(aD l).getD k 0; (List.range l.length).filter fun a=>(l.getD a default).cls == 1 && (l.getD w default).preds.contains a
def Jc (l:List DI) (i:Nat):List (Nat × List Nat) :=
 let d:=l.getD i default
 let b:=aD l
 let lo:=(b.filter fun w=>d.preds.contains w).length
 let hi:=if d.cls == 2 then lo else b.length-(b.filter fun w=>(l.getD w default).preds.contains i).length
 (List.range (hi+1-lo)).map fun x=>(lo+x,(List.range l.length).filter fun a=>(l.getD a default).cls == 1 && d.preds.contains a && !(dM l (lo+x)).contains a)
def xc (l:List DI):List Nat:=(List.range l.length).filter fun a=>(l.getD a default).cls == 1 && !(dM l (aD l).length).contains a
def IY (ops:List Oper) (l:List DI):Bool :=
 (List.range l.length).all fun i=>((lC (ops.getD i default)).all fun j=>decide (j<i)) &&
  (l.getD i default).preds.all fun p=>(lC (ops.getD i default)).any fun j=>p == j || (l.getD j default).preds.contains p
def IZ (l:List DI):Bool :=
 (List.range l.length).all fun j=>(List.range j).all fun i =>
  ((l.getD i default).dst.isNone || (l.getD i default).dst != (l.getD j default).dst || (l.getD j default).preds.contains i) &&
  (!((l.getD i default).cls == 2 && (l.getD j default).cls == 2) || (l.getD j default).preds.contains i)
def NK (l:List DI) (i:Nat) (u:Nat × Option Nat):Bool :=
 match u.2 with
 | some j=>(l.getD i default).preds.contains j && (l.getD j default).dst == some u.1 && decide (j<i) &&
   (List.range l.length).all fun j'=>(l.getD j' default).dst != some u.1 || decide (j'<=j) || (l.getD j' default).preds.contains i || j' == i
 | none=>(List.range l.length).all fun j'=>(l.getD j' default).dst != some u.1 || j' == i || (l.getD j' default).preds.contains i
def NJ (l:List DI) (ds:List jv):Bool:=(List.range l.length).all fun i=>(ds.getD i default).uses.all (NK l i)
def NM (l:List DI) (i:Nat) (p:Nat × List Nat):Bool :=
 p.2.all fun a=>(l.getD i default).preds.contains a && (l.getD a default).cls == 1 && !(dM l p.1).contains a && decide (a<i)
def NL (l:List DI) (i:Nat) (looks:List (Nat × List Nat)):Bool :=
 (List.range ((aD l).length+1)).all fun k =>
  ((List.range (aD l).length).any fun q=>((l.getD i default).preds.contains ((aD l).getD q 0) && decide (k<=q)) || ((l.getD ((aD l).getD q 0) default).preds.contains i && decide (q<k))) ||
  looks.any fun p=>p.1 == k
def Q3 (l:List DI) (i:Nat) (looks:List (Nat × List Nat)):Bool :=
 match looks with
 | [p]=>decide (p.1<(aD l).length) && (aD l).getD p.1 0 == i && (List.range l.length).all fun a=>(dM l (p.1+1)).contains a == ((dM l p.1).contains a || p.2.contains a)
 | _=>false
def I3 (l:List DI) (ds:List jv):Bool :=
 (List.range l.length).all fun i=>((ds.getD i default).looks.all (NM l i)) &&
  (if (l.getD i default).cls=0 then NL l i (ds.getD i default).looks else if (l.getD i default).cls=1 then true else Q3 l i (ds.getD i default).looks)
def Ij (ops:List Oper) (l:List DI) (ds:List jv):Bool:=IY ops l && IZ l && NJ l ds && I3 l ds
def TH (ops:Array Oper) (a:List (List Nat)) (o:Oper) (i:Nat):Option DI :=
 (Bj ops o.guard).map fun g=>{ dst:=o.dst,op:=(Ge P o).getD .bad,guard:=g,preds:=a.getD i [],cls:=Q9 ((Ge P o).getD .bad) }
def JH (ops:Array Oper):Option (List jv × List Nat) :=
 let a:=P7 ops.toList
 match (ops.toList.zipIdx).mapM fun (o,i)=>TH P ops a o i with
 | none=>none
 | some l =>
  let ds:=(List.range l.length).map fun i =>
   let d:=l.getD i default
   { dst:=d.dst,op:=d.op,guard:=d.guard,uses:=((d.op.slots++(match d.guard with | some (t,_)=>[t] | none=>[])).eraseDups).map fun t=>(t,Jg l i d.preds t),cls:=d.cls,looks:=Jc l i:jv }
  if Ij ops.toList l ds=true then some (ds,xc l) else none
def DL:ACode->Option Nat
 | .seq a b=>match DL a with | some l=>some l | none=>DL b
 | .scopeL .skip l .skip=>some l
 | _=>none
def bP:ACode->Nat->Option ACode
 | .seq a b,l=>match bP a l with | some r=>some (.seq r b) | none=>bP b l
 | .scopeL .skip c .skip,l=>if c == l then some .skip else none
 | _,_=>none
def Dh (a:ACode):ACode:=match DL a with
 | some l=>match bP a l with
  | some r=>.scopeL a l r
  | none=>.scope a
 | none=>.scope a
def IO:ACode:=.rangeFunc (.c .undef) [] .skip .skip
def bB:Code->Option ACode
 | .skip=>some .skip
 | .label l=>some (.scopeL .skip l .skip)
 | .region _ ops draw=>if draw then (match JH P ops with | some p=>some (.draw p.1 p.2) | none=>some IO) else (ops.toList.mapM (OL P ops)).map .region
 | .seq a b=>do some (.seq (<- bB a) (<- bB b))
 | .cond c a b=>do some (.cond (<- bV c) (<- bB a) (<- bB b))
 | .block id a=>do some (.block id (<- bB a))
 | .loop a=>do some (.loop (<- bB a))
 | .rangeFunc f ps a b=>do some (.rangeFunc (<- bV f) ps.toList (<- bB a) (<- bB b))
 | .exit id=>some (.exit id)
 | .goto l=>some (.goto l)
 | .ret=>some .ret
 | .scope a=>do some (Dh (<- bB a))
 | .refuse _=>some IO
def Gd:ResultVar->Option (Nat × Option (Option Nat))
 | .tmp t=>some (t,none)
 | .cell a t=>do some (a,some (<- pY P t))
def SF (fn:Func):Option au:=do
 if fn.name = "math/bits.Add64" then some { nparams:=3,ntmps:=3,results:=[],body:=.skip,ext:=some .add64 } else
 if fn.name = "math/bits.Sub64" then some { nparams:=3,ntmps:=3,results:=[],body:=.skip,ext:=some .sub64 } else
 if fn.origin = "slices.Insert" then do
  match <- P.underlying (<- fn.params[0]?) with
  | .slice e=>some { nparams:=3,ntmps:=3,results:=[],body:=.skip,ext:=some (.insert (<- sizeOf? P e) (<- bytesOf? P e) e) }
  | _=>none
 else do
 let b <- fn.body
 if fn.name = "runtime.NumGoroutine" then none else
 some { nparams:=fn.params.size+fn.nfree,ntmps:=fn.ntmps,results:=(<- fn.results.toList.mapM (Gd P)),body:=(<- bB P b) }
end
structure Bx where
 blk:Nat
 N:Nat
 sz:Nat
abbrev Mu:=Nat->Option Bx
inductive VR (μ:Mu) (F:Nat->Prop) (w:World):AV->Value->Prop where
 | undef (v:Value):VR μ F w .undef v
 | bool (b:Bool):VR μ F w (.bool b) (.bool b)
 | int (k:IntKind) (n:Int):VR μ F w (.int k n) (.int k n)
 | str (s:ByteArray):VR μ F w (.str s) (.string s)
 | nilPtr:VR μ F w .nilPtr (.pointer none)
 | nilSl:VR μ F w .nilSl (.slice none 0 0)
 | nilFn:VR μ F w .nilFn .nilFunc
 | nilIf:VR μ F w .nilIf .nilIface
 | nilMap:VR μ F w .nilMap (.map none)
 | agg (cs:List AV) (vs:Array Value):cs.length=vs.size->(∀ (i:Nat) (c:AV) (v:Value),cs[i]? = some c->vs[i]? = some v->VR μ F w c v)->VR μ F w (.agg cs) (.agg vs)
 | tup (cs:List AV) (vs:Array Value):cs.length=vs.size->(∀ (i:Nat) (c:AV) (v:Value),cs[i]? = some c->vs[i]? = some v->VR μ F w c v)->VR μ F w (.tup cs) (.tuple vs)
 | sl0 (a:Addr) (cap:Nat):VR μ F w (.sl [] 0) (.slice (some a) 0 cap)
 | sl (cells:List AV) (n cap blk off:Nat) (arr:Array Value) (ty:TypeId) (fr:Nat × Nat):F blk->w.heap[blk]? = some (.cells arr ty fr)->n<=cap->off+cells.length<=arr.size ->
   (∀ (i:Nat) (c:AV) (v:Value),cells[i]? = some c->arr[off+i]? = some v->VR μ F w c v)->VR μ F w (.sl cells n) (.slice (some ⟨blk,off,none⟩) n cap)
 | dp (cells:List AV) (o blk off:Nat) (arr:Array Value) (ty:TypeId) (fr:Nat × Nat):F blk->w.heap[blk]? = some (.cells arr ty fr)->off+cells.length<=arr.size ->
   (∀ (i:Nat) (c:AV) (v:Value),cells[i]? = some c->arr[off+i]? = some v->VR μ F w c v)->VR μ F w (.dp cells o) (.pointer (some ⟨blk,off+o,none⟩))
 | own (b off n c sz:Nat) (ex:Bool) (L:Bx) (cap:Nat):μ b=some L->L.sz=sz->n<=c->c<=cap->(ex=true->cap=c)->off+cap*sz<=L.N->VR μ F w (.own b off n c sz ex) (.slice (some ⟨L.blk,off,none⟩) n cap)
 | ptr (b off:Nat) (L:Bx):μ b=some L->VR μ F w (.ptr b off) (.pointer (some ⟨L.blk,off,none⟩))
 | fn (f:Fn) (as bs:List AV) (us vs:Array Value):as.length=us.size->(∀ (i:Nat) (c:AV) (v:Value),as[i]? = some c->us[i]? = some v->VR μ F w c v) ->
   bs.length=vs.size->(∀ (i:Nat) (c:AV) (v:Value),bs[i]? = some c->vs[i]? = some v->VR μ F w c v)->VR μ F w (.fn f as bs) (.func f us vs)
 | ifc (t:Nat) (x:AV) (v:Value):VR μ F w x v->VR μ F w (.ifc t x) (.iface t v)
 | map (b:Nat) (L:Bx):μ b=some L->VR μ F w (.map b) (.map (some L.blk))
 | loopv (b:Nat) (L:Bx):μ b=some L->VR μ F w (.loopv b) (.func (.yield L.blk) #[] #[])
def VR.mono {μ μ':Mu} {F F':Nat->Prop} {w w':World} (g:∀ b L,μ b=some L->μ' b=some L) (j:∀ c,F c->F' c)
  (l:∀ c,F c->w'.heap[c]? = w.heap[c]?) {a:AV} {v:Value} (h:VR μ F w a v):VR μ' F' w' a v:=by
 induction h with
 | undef v=>exact .undef v
 | bool b=>exact .bool b
 | int k n=>exact .int k n
 | str s=>exact .str s
 | nilPtr=>exact .nilPtr
 | nilSl=>exact .nilSl
 | nilFn=>exact .nilFn
 | nilIf=>exact .nilIf
 | nilMap=>exact .nilMap
 | agg cs vs h _ d=>exact .agg cs vs h d
 | tup cs vs h _ d=>exact .tup cs vs h d
 | sl0 a cap=>exact .sl0 a cap
 | sl cells n cap blk off arr ty fr e hb hn i _ d=>exact .sl cells n cap blk off arr ty fr (j _ e) ((l _ e).trans hb) hn i d
 | dp cells o blk off arr ty fr e hb i _ d=>exact .dp cells o blk off arr ty fr (j _ e) ((l _ e).trans hb) i d
 | own b off n c sz ex L cap h1 h2 h3 m h5 p=>exact .own b off n c sz ex L cap (g _ _ h1) h2 h3 m h5 p
 | ptr b off L h=>exact .ptr b off L (g _ _ h)
 | fn f as bs us vs h1 _ h3 _ q r=>exact .fn f as bs us vs h1 q h3 r
 | ifc t x v _ d=>exact .ifc t x v d
 | map b L h=>exact .map b L (g _ _ h)
 | loopv b L h=>exact .loopv b L (g _ _ h)
def LR (μ:Mu) (F:Nat->Prop) (w:World) (as:List AV) (vs:List Value):Prop:=as.length=vs.length/\∀ (i:Nat) (c:AV) (v:Value),as[i]? = some c->vs[i]? = some v->VR μ F w c v
def LR.nil {μ:Mu} {F:Nat->Prop} {w:World}:LR μ F w [] []:=⟨rfl,fun i c v h=>by simp at h⟩
def LR.cons {μ:Mu} {F:Nat->Prop} {w:World} {a:AV} {v:Value} {as:List AV} {vs:List Value} (h:VR μ F w a v) (hs:LR μ F w as vs):LR μ F w (a :: as) (v :: vs):=by
 refine ⟨by simp [hs.1],fun i c u h1 h2=>?_⟩;cases i with
 | zero=>simp at h1 h2; subst h1; subst h2; exact h
 | succ i=>simp at h1 h2; exact hs.2 i c u h1 h2
theorem LR.head {μ:Mu} {F:Nat->Prop} {w:World} {a:AV} {v:Value} {as:List AV} {vs:List Value} (hs:LR μ F w (a :: as) (v :: vs)):VR μ F w a v:=hs.2 0 a v rfl rfl
def LR.tail {μ:Mu} {F:Nat->Prop} {w:World} {a:AV} {v:Value} {as:List AV} {vs:List Value} (hs:LR μ F w (a :: as) (v :: vs)):LR μ F w as vs :=
 ⟨by have:=hs.1; simp at this; exact this,fun i c u h1 h2=>hs.2 (i+1) c u (by simpa using h1) (by simpa using h2)⟩
def LR.mono {μ μ':Mu} {F F':Nat->Prop} {w w':World} (e:∀ b L,μ b=some L->μ' b=some L) (a:∀ c,F c->F' c)
  (d:∀ c,F c->w'.heap[c]? = w.heap[c]?) {as:List AV} {vs:List Value} (h:LR μ F w as vs):LR μ' F' w' as vs :=
 ⟨h.1,fun i c v h1 h2=>(h.2 i c v h1 h2).mono e a d⟩
def LR.append {μ:Mu} {F:Nat->Prop} {w:World}:∀ {as:List AV} {vs:List Value} {bs:List AV} {us:List Value},LR μ F w as vs->LR μ F w bs us->LR μ F w (as++bs) (vs++us)
 | [],[],_,_,_,h=>h
 | [],_ :: _,_,_,h,_=>by have:=h.1; simp at this
 | _ :: _,[],_,_,h,_=>by have:=h.1; simp at this
 | a :: as,v :: vs,_,_,h,h'=>LR.cons h.head (LR.append h.tail h')
def LR.of_agg {μ:Mu} {F:Nat->Prop} {w:World} {cs:List AV} {vs:Array Value} (h1:cs.length=vs.size) (h2:∀ (i:Nat) (c:AV) (v:Value),cs[i]? = some c->vs[i]? = some v->VR μ F w c v):LR μ F w cs vs.toList :=
 ⟨by simpa using h1,fun i c v hc a=>h2 i c v hc (by simpa using a)⟩
def LR.take {μ:Mu} {F:Nat->Prop} {w:World} {as:List AV} {vs:List Value} (h:LR μ F w as vs) (n:Nat):LR μ F w (as.take n) (vs.take n):=by
 refine ⟨by simp [h.1],fun i c v h1 h2=>?_⟩;rw [VL] at h1 h2;split at h1
 ·rename_i hlt; rw [if_pos hlt] at h2; exact h.2 i c v h1 h2
 ·cases h1
def LR.drop {μ:Mu} {F:Nat->Prop} {w:World} {as:List AV} {vs:List Value} (h:LR μ F w as vs) (n:Nat):LR μ F w (as.drop n) (vs.drop n):=by
 refine ⟨by simp [h.1],fun i c v h1 h2=>?_⟩;rw [VM] at h1 h2;exact h.2 _ c v h1 h2
def LR.get {μ:Mu} {F:Nat->Prop} {w:World} {as:List AV} {vs:List Value} (h:LR μ F w as vs) {i:Nat} {c:AV} (hc:as[i]? = some c):∃ v,vs[i]? = some v/\VR μ F w c v:=by
 have hi:i<as.length:=(VA.1 hc).1;exact ⟨vs[i]'(h.1 ▸ hi),Vk _,h.2 i c _ hc (Vk _)⟩
def LR.set {μ:Mu} {F:Nat->Prop} {w:World} {as:List AV} {vs:List Value} (h:LR μ F w as vs) (i:Nat) {a:AV} {v:Value} (b:VR μ F w a v):LR μ F w (as.set i a) (vs.set i v):=by
 refine ⟨by simp [h.1],fun j c u h1 h2=>?_⟩;by_cases e:i=j
 ·subst e;rw [XU] at h1 h2;cases hc:as[i]? with
  | none=>rw [hc] at h1; cases h1
  | some x =>
   obtain ⟨y,hy,_⟩:=h.get hc;rw [hc] at h1; rw [hy] at h2;cases h1; cases h2; exact b
 ·rw [X3 e] at h1 h2;exact h.2 j c u h1 h2
def LR.map {μ:Mu} {F:Nat->Prop} {w:World} {α:Type} (f:α->AV) (g:α->Value):∀ (l:List α),(∀ x,x∈l->VR μ F w (f x) (g x))->LR μ F w (l.map f) (l.map g)
 | [],_=>LR.nil
 | x :: l,h=>LR.cons (h x (Vt ..)) (LR.map f g l fun y hy=>h y (Vn _ hy))
def VR.oneCell {μ:Mu} {F:Nat->Prop} {w:World} {a:AV} {v:Value} (h:VR μ F w a v) (h1:a.one=true):v.oneCell'=true:=by
 cases h <;> first | rfl | (simp [AV.one] at h1)
def ID (es:List MapEntry) (a:Nat):Prop:=(∀ e∈es,e.born<a)/\(es.map (·.born)).Nodup
def ER (P:Program) (μ:Mu) (F:Nat->Prop) (w:World) (L:Bx):Ent->Prop
 | .cells cs ty rw=>∃ arr fr,w.heap[L.blk]? = some (.cells arr ty fr)/\arr.size=L.N/\(P.info? ty).map (·.size)=some L.sz/\cs.length<=arr.size /\
   (∀ (i:Nat) (c:AV) (v:Value),cs[i]? = some c->arr[i]? = some v->VR μ F w c v)/\(rw=true->¬ F L.blk/\fr=(0,0))/\(rw=false->True)
 | .map es=>¬ F L.blk/\∃ a b,w.heap[L.blk]? = some (.map a b)/\LR μ F w (es.map (·.1)) (a.toList.map (·.key))/\LR μ F w (es.map (·.2)) (a.toList.map (·.val))/\ID a.toList b
 | .mapR es=>∃ a b,w.heap[L.blk]? = some (.map a b)/\LR μ F w (es.map (·.1)) (a.toList.map (·.key))/\LR μ F w (es.map (·.2)) (a.toList.map (·.val))/\ID a.toList b
 | .loop T ps d body st f=>¬ F L.blk/\∃ (r:Loop),w.heap[L.blk]? = some (.loop r)/\r.state=st/\LR μ F w T r.tmps.toList/\r.params.toList=ps/\bB P r.assign=some d/\bB P r.body=some body /\
   (match f,r.pending with | none,none=>True | some c,some e=>bB P e=some c | _,_=>False)
 | .siter s pos=>¬ F L.blk/\w.heap[L.blk]? = some (.stringIter s pos)
def Ent.rw:Ent->Bool
 | .cells _ _ rw=>rw
 | .mapR _=>false
 | _=>true
structure HR (P:Program) (μ:Mu) (F:Nat->Prop) (H:Heap) (w:World):Prop where
 dom:∀ b L,μ b=some L->b<H.next/\L.blk<w.heap.size
 fb:∀ c,F c->c<w.heap.size
 ent:∀ b e,H.get b=some e->∃ L,μ b=some L/\ER P μ F w L e
 inj:∀ b b' e e' L L',H.get b=some e->H.get b'=some e'->μ b=some L->μ b'=some L'->L.blk=L'.blk->b=b'
 gl:∀ g cs,Ma g=some cs->VR μ F w (.dp cs 0) (.pointer (some ⟨g,0,none⟩))
def Heap.rwAt (H:Heap) (b:Nat):Prop:=∃ e,H.get b=some e/\e.rw=true
def Tp (w w':World):Prop:=w'.tape=w.tape/\(O5->w.drawn<=w'.drawn)
def Tp.same {w w':World} (h:w'.tape=w.tape) (h':w'.drawn=w.drawn):Tp w w':=⟨h,fun _=>X4 h'.symm⟩
def Tp.draw {w:World}:Tp w { w with drawn:=w.drawn+1 }:=⟨rfl,fun _=>Nat.le_succ _⟩
def Tp.trans {w w' a:World} (h:Tp w w') (h':Tp w' a):Tp w a:=⟨h'.1.trans h.1,fun k=>VB (h.2 k) (h'.2 k)⟩
structure Stp (I:Nat->Prop) (P:Program) (μ:Mu) (F:Nat->Prop) (H:Heap) (w:World) (μ':Mu) (F':Nat->Prop) (H':Heap) (w':World):Prop where
 mu:∀ b L,μ b=some L->μ' b=some L
 fr:∀ c,F c->F' c
 size:w.heap.size<=w'.heap.size
 keep:∀ c,c<w.heap.size->(∀ b L,H.rwAt b->μ b=some L->L.blk≠c)->w'.heap[c]? = w.heap[c]?
 rw:∀ b L,H'.rwAt b->μ' b=some L->w.heap.size<=L.blk\/∃ b0 L0,H.rwAt b0/\μ b0=some L0/\L0.blk=L.blk
 next:H.next<=H'.next
 new:∀ b,b<H.next->¬ I b->μ b=none->μ' b=none
 rng:∀ b L,μ' b=some L->(∃ b0 L0,μ b0=some L0/\L0.blk=L.blk)\/w.heap.size<=L.blk
 old:∀ b e,H'.get b=some e->b<H.next->¬ I b->∃ e0,H.get b=some e0
 alv:∀ b e L,H'.get b=some e->μ' b=some L->w.heap.size<=L.blk\/∃ b0 e0 L0,H.get b0=some e0/\μ b0=some L0/\L0.blk=L.blk
 tape:Tp w w'
 os:w'.os=w.os
 out:w'.output=w.output
def ER.notF {P:Program} {μ:Mu} {F:Nat->Prop} {w:World} {L:Bx} {e:Ent} (h:ER P μ F w L e) (hr:e.rw=true):¬ F L.blk:=by
 cases e with
 | cells cs ty rw=>obtain ⟨_,_,_,_,_,_,_,a,_⟩:=h; exact (a hr).1
 | map es=>exact h.1
 | loop T ps b body st c=>exact h.1
 | siter s pos=>exact h.1
 | mapR es=>cases hr
def HR.rw_notF {P:Program} {μ:Mu} {F:Nat->Prop} {H:Heap} {w:World} (h:HR P μ F H w) {b:Nat} {L:Bx} (hb:H.rwAt b) (hL:μ b=some L):¬ F L.blk:=by
 obtain ⟨e,he,hr⟩:=hb;obtain ⟨L',a,c⟩:=h.ent b e he;rw [hL] at a; cases a;exact c.notF hr
section
variable {I:Nat->Prop} {P:Program} {μ:Mu} {F:Nat->Prop} {H:Heap} {w:World} {μ':Mu} {F':Nat->Prop} {H':Heap} {w':World}
def Stp.keepF (h:Stp I P μ F H w μ' F' H' w') (hH:HR P μ F H w):∀ c,F c->w'.heap[c]? = w.heap[c]? :=
 fun c hc=>h.keep c (hH.fb c hc) fun _ _ hb hL e=>hH.rw_notF hb hL (e ▸ hc)
def Stp.vr (h:Stp I P μ F H w μ' F' H' w') (hH:HR P μ F H w) {a:AV} {v:Value} (b:VR μ F w a v):VR μ' F' w' a v:=b.mono h.mu h.fr (h.keepF hH)
def Stp.lr (h:Stp I P μ F H w μ' F' H' w') (hH:HR P μ F H w) {as:List AV} {vs:List Value} (a:LR μ F w as vs):LR μ' F' w' as vs:=a.mono h.mu h.fr (h.keepF hH)
def Stp.refl (I:Nat->Prop) (P:Program) (μ:Mu) (F:Nat->Prop) (H:Heap) (w:World):Stp I P μ F H w μ F H w :=
 ⟨fun _ _ h=>h,fun _ h=>h,Vo _,fun _ _ _=>rfl,fun b L hb hL=>.inr ⟨b,L,hb,hL,rfl⟩,Vo _,fun _ _ _ h=>h,fun b L h=>.inl ⟨b,L,h,rfl⟩,fun b e h _ _=>⟨e,h⟩,fun b e L h hL=>.inr ⟨b,e,L,h,hL,rfl⟩,Tp.same rfl rfl,rfl,rfl⟩
def Stp.mono {a:Nat->Prop} (c:∀ b,I b->a b) (h:Stp I P μ F H w μ' F' H' w'):Stp a P μ F H w μ' F' H' w' :=
 ⟨h.mu,h.fr,h.size,h.keep,h.rw,h.next,fun b hb hn=>h.new b hb (fun hi=>hn (c b hi)),h.rng,fun b e hb hl hn=>h.old b e hb hl (fun hi=>hn (c b hi)),h.alv,h.tape,h.os,h.out⟩
def Stp.trans {μ₂:Mu} {i:Nat->Prop} {j:Heap} {k:World} (h:Stp I P μ F H w μ' F' H' w') (h':Stp I P μ' F' H' w' μ₂ i j k) :
  Stp I P μ F H w μ₂ i j k where
 mu b L hb:=h'.mu _ _ (h.mu _ _ hb)
 fr c hc:=h'.fr _ (h.fr _ hc)
 size:=VB h.size h'.size
 keep c hc hn:=by
  rw [h'.keep c (VF hc h.size) ?_,h.keep c hc hn];intro b L hb hL e;rcases h.rw b L hb hL with hge | ⟨b0,L0,h0,f,e0⟩
  ·omega
  ·exact hn b0 L0 h0 f (e0.trans e)
 rw b L hb hL:=by
  rcases h'.rw b L hb hL with hge | ⟨d,a,h1,g,e1⟩
  ·exact .inl (VB h.size hge)
  ·rcases h.rw d a h1 g with hge | ⟨b0,L0,h0,f,e0⟩
   ·exact .inl (e1 ▸ hge)
   ·exact .inr ⟨b0,L0,h0,f,e0.trans e1⟩
 next:=VB h.next h'.next
 new b hb hi hn:=h'.new b (VF hb h.next) hi (h.new b hb hi hn)
 rng b L hb:=by
  rcases h'.rng b L hb with ⟨d,a,h1,e1⟩ | hge
  ·rcases h.rng d a h1 with ⟨b0,L0,h0,e0⟩ | hge
   ·exact .inl ⟨b0,L0,h0,e0.trans e1⟩
   ·exact .inr (e1 ▸ hge)
  ·exact .inr (VB h.size hge)
 old b e hb hl hn:=by
  obtain ⟨e1,h1⟩:=h'.old b e hb (VF hl h.next) hn;exact h.old b e1 h1 hl hn
 alv b e L hb hL:=by
  rcases h'.alv b e L hb hL with hge | ⟨d,e1,a,h1,g,q1⟩
  ·exact .inl (VB h.size hge)
  ·rcases h.alv d e1 a h1 g with hge | ⟨b0,e0,L0,h0,f,q0⟩
   ·exact .inl (q1 ▸ hge)
   ·exact .inr ⟨b0,e0,L0,h0,f,q0.trans q1⟩
 tape:=h.tape.trans h'.tape
 os:=h'.os.trans h.os
 out:=h'.out.trans h.out
end
def D8.of_eq {x y:Nat} (h:D8.of x=D8.of y):x % 8=y % 8:=by
 have key:∀ (a b c a' b' d:Bool),(Bool.casesOn (motive:=fun _=>D8) a (Bool.casesOn (motive:=fun _=>D8) b (Bool.casesOn (motive:=fun _=>D8) c .d0 .d1) (Bool.casesOn (motive:=fun _=>D8) c .d2 .d3)) (Bool.casesOn (motive:=fun _=>D8) b (Bool.casesOn (motive:=fun _=>D8) c .d4 .d5) (Bool.casesOn (motive:=fun _=>D8) c .d6 .d7))) =
   (Bool.casesOn (motive:=fun _=>D8) a' (Bool.casesOn (motive:=fun _=>D8) b' (Bool.casesOn (motive:=fun _=>D8) d .d0 .d1) (Bool.casesOn (motive:=fun _=>D8) d .d2 .d3)) (Bool.casesOn (motive:=fun _=>D8) b' (Bool.casesOn (motive:=fun _=>D8) d .d4 .d5) (Bool.casesOn (motive:=fun _=>D8) d .d6 .d7)))->a=a'/\b=b'/\c=d:=by decide
 obtain ⟨h1,h2,h3⟩:=key _ _ _ _ _ _ h;have bit:∀ u v:Nat,Nat.beq (Nat.mod u 2) 1=Nat.beq (Nat.mod v 2) 1->u % 2=v % 2:=by
  intro u v hb;have i:Nat.mod u 2=u % 2:=rfl;have j:Nat.mod v 2=v % 2:=rfl;rw [i,j] at hb;rcases Zs u with e | e <;> rcases Zs v with e' | e' <;> rw [e,e'] at hb ⊢ <;> first | rfl | cases hb
 have f:=bit _ _ h1;have g:=bit _ _ h2;have k:=bit _ _ h3;have e1:∀ u v:Nat,Nat.div u v=u / v:=fun _ _=>rfl;rw [e1,e1] at f g;omega
def Q.at_up {α:Type} (d a:D8) (u:α->α) (q:Q α):Q.at d (Q.up a u q)=if d=a then u (Q.at d q) else Q.at d q:=by
 cases q;cases d <;> cases a <;> rfl
def Tr.get_set (t:Tr) (n:Nat) (e:Option Ent) (m:Nat):(t.set n e).get m=if m=n then e else t.get m:=by
 have f:∀ u v:Nat,Nat.div u v=u / v:=fun _ _=>rfl;unfold Tr.set Tr.get;cases hn:Nat.ble n 16777215 with
 | false =>
  cases hm:Nat.ble m 16777215 with
  | false=>simp only [It]
  | true =>
   have hne:m≠n:=fun h=>by rw [h,hn] at hm; cases hm
   simp only [if_neg hne]
 | true =>
  cases hm:Nat.ble m 16777215 with
  | false =>
   have hne:m≠n:=fun h=>by rw [h,hn] at hm; cases hm
   simp only [if_neg hne]
  | true =>
   have i:n<=16777215:=Y2 hn;have g:m<=16777215:=Y2 hm;simp only [f];by_cases d:m=n
   ·subst d;simp only [Q.at_up,if_true]
   ·rw [if_neg d];by_cases c:D8.of (m / 2097152)=D8.of (n / 2097152)
    ·rw [Q.at_up,if_pos c];by_cases b:D8.of (m / 262144)=D8.of (n / 262144)
     ·rw [Q.at_up,if_pos b];by_cases h5:D8.of (m / 32768)=D8.of (n / 32768)
      ·rw [Q.at_up,if_pos h5];by_cases a:D8.of (m / 4096)=D8.of (n / 4096)
       ·rw [Q.at_up,if_pos a];by_cases h3:D8.of (m / 512)=D8.of (n / 512)
        ·rw [Q.at_up,if_pos h3];by_cases h2:D8.of (m / 64)=D8.of (n / 64)
         ·rw [Q.at_up,if_pos h2];by_cases h1:D8.of (m / 8)=D8.of (n / 8)
          ·rw [Q.at_up,if_pos h1];have h0:D8.of m≠D8.of n:=fun h0=>d (by
            have:=D8.of_eq h0; have:=D8.of_eq h1; have:=D8.of_eq h2; have:=D8.of_eq h3
            have:=D8.of_eq a; have:=D8.of_eq h5; have:=D8.of_eq b; have:=D8.of_eq c
            omega)
           rw [Q.at_up,if_neg h0]
          ·rw [Q.at_up,if_neg h1]
         ·rw [Q.at_up,if_neg h2]
        ·rw [Q.at_up,if_neg h3]
       ·rw [Q.at_up,if_neg a]
      ·rw [Q.at_up,if_neg h5]
     ·rw [Q.at_up,if_neg b]
    ·rw [Q.at_up,if_neg c]
def SK (a b:Nat):Nat.ble (Nat.succ a) b=decide (a<b):=by
 cases h:Nat.ble (Nat.succ a) b with
 | true=>exact (decide_eq_true (Y2 h)).symm
 | false =>
  refine (decide_eq_false fun hlt=>?_).symm;rw [Nat.ble_eq_true_of_le (show Nat.succ a<=b from hlt)] at h;cases h
def Heap.get_setO (H:Heap) (b:Nat) (o:Option Ent) (m:Nat):(H.setO b o).get m=if m=b then o else H.get m:=by
 unfold Heap.setO;cases hb:Nat.ble (Nat.succ b) H.lim with
 | false =>
  simp only [Heap.get,hb];by_cases h:m=b
  ·subst h;rw [hb,Tr.get_set,if_pos rfl]
  ·rw [if_neg h,Tr.get_set,if_neg h]
 | true =>
  simp only [Heap.get,hb];by_cases h:m=b
  ·subst h;rw [if_pos rfl,hb];show mj _ m ((m,o) :: H.ovr)=o;unfold mj;rw [if_pos rfl]
  ·rw [if_neg h];simp only [mj,if_neg h]
def Nw (o:Option Ent):Mb (Mb o)=Mb o:=by
 cases o with
 | none=>rfl
 | some e=>cases e <;> rfl
def wE (lim:Nat) (d:Option Ent) (b:Nat) (hb:b<lim):∀ l:List (Nat × Option Ent),mj (Mb d) b ((l.filter fun p=>decide (p.1<lim)).map fun p=>(p.1,Mb p.2))=Mb (mj (Mb d) b l)
 | []=>(Nw d).symm
 | (k,e) :: l=>by
  by_cases a:k<lim
  ·rw [Yg (by simpa using a),Vq];simp only [mj];split
   ·rfl
   ·exact wE lim d b hb l
  ·rw [Yh (by simpa using a)];have hne:¬ b=k:=fun e=>a (e ▸ hb);simp only [mj,if_neg hne];exact wE lim d b hb l
def tE (lim:Nat) (d:Option Ent) (b:Nat) (hb:¬ b<lim):∀ l:List (Nat × Option Ent),mj d b ((l.filter fun p=>decide (p.1<lim)).map fun p=>(p.1,Mb p.2))=d
 | []=>rfl
 | (k,e) :: l=>by
  by_cases a:k<lim
  ·rw [Yg (by simpa using a),Vq];have hne:¬ b=k:=fun e=>hb (e ▸ a);simp only [mj,if_neg hne];exact tE lim d b hb l
  ·rw [Yh (by simpa using a)];exact tE lim d b hb l
def Heap.get_ro (H:Heap) (b:Nat):H.ro.get b=if b<max H.next H.lim then Mb (H.get b) else H.get b:=by
 unfold Heap.ro Heap.get;simp only [SK];have e:Nat.max H.next H.lim=max H.next H.lim:=rfl
 rw [e];by_cases h1:b<max H.next H.lim
 ·rw [if_pos h1,decide_eq_true h1];by_cases h2:b<H.lim
  ·rw [decide_eq_true h2];exact wE H.lim _ b h2 _
  ·rw [decide_eq_false h2];exact tE H.lim _ b h2 _
 ·have h2:¬ b<H.lim:=by omega
  rw [if_neg h1,decide_eq_false h1,decide_eq_false h2]
def Heap.get_put (H:Heap) (b:Nat) (e:Ent) (m:Nat):(H.put b e).get m=if m=b then some e else H.get m:=Heap.get_setO _ _ _ _
def Heap.get_kill (H:Heap) (b:Nat) (m:Nat):(H.kill b).get m=if m=b then none else H.get m:=Heap.get_setO _ _ _ _
@[simp] theorem Heap.next_put (H:Heap) (b:Nat) (e:Ent):(H.put b e).next=H.next:=rfl
@[simp] theorem Heap.next_kill (H:Heap) (b:Nat):(H.kill b).next=H.next:=rfl
section
variable {P:Program} {μ:Mu} {F:Nat->Prop} {w:World} {T:Tm} {a:Act}
def Fg {v:Value} {x:AV} (h:Cc v=some x):VR μ F w x v:=by
 unfold Cc at h;split at h <;> first | (cases h; done) | skip
 ·cases h; exact .bool _
 ·cases h; exact .int _ _
 ·cases h; exact .str _
 ·cases h; exact .nilPtr
 ·cases h; exact .nilSl
 ·cases h; exact .nilMap
 ·cases h; exact .nilFn
 ·cases h; exact .nilIf
 ·split at h
  ·rename_i a;cases h;exact .fn _ _ _ _ _ a.1.symm (fun i c v h=>by simp at h) a.2.symm (fun i c v h=>by simp at h)
  ·cases h
def uO:∀ {l:List Value} {cs:List AV},l.mapM Cc=some cs->LR μ F w cs l
 | [],cs,h=>by simp at h; subst h; exact LR.nil
 | v :: l,cs,h=>by
  simp only [WY,XI,Vj,Vf] at h;obtain ⟨x,hx,xs,a,h⟩:=h;cases h;exact LR.cons (Fg hx) (uO a)
def pL {v:Value} {x:AV} (h:su v=some x):VR μ F w x v:=by
 unfold su at h;split at h
 ·simp only [Vj,Vf] at h;obtain ⟨cs,a,h⟩:=h;cases h;have hl:=uO (μ:=μ) (F:=F) (w:=w) a;exact .agg _ _ (by simpa using hl.1) fun i c v h1 h2=>hl.2 i c v h1 (by simpa using h2)
 ·split at h
  ·rename_i b;cases h;exact .tup _ _ b.symm fun i c v h=>by simp at h
  ·cases h
 ·exact Fg h
def Jo (hT:LR μ F w T a.tmps.toList) (t:Nat):VR μ F w (aa T t) (a.tmps.getD t undef):=by
 unfold aa;cases hc:T[t]? with
 | none=>rw [Vh,hc]; exact .undef _
 | some c =>
  obtain ⟨v,b,hr⟩:=hT.get hc
  have:a.tmps[t]? = some v:=by simpa using b
  rw [Vh,hc];simp [this];exact hr
def aO {x:Operand} {s:Src} (hT:LR μ F w T a.tmps.toList) (h:bV x=some s):VR μ F w (s.ev T) (a.eval x):=by
 cases x with
 | tmp t=>cases h; exact Jo hT t
 | const v =>
  simp only [bV,Vu] at h;obtain ⟨y,hy,h⟩:=h;cases h;exact pL hy
 | global g=>cases h
 | func f=>cases h; exact .fn _ _ _ _ _ rfl (fun i c v h=>by simp at h) rfl (fun i c v h=>by simp at h)
def ph (hT:LR μ F w T a.tmps.toList):∀ {l:List Operand} {b:List Src},l.mapM bV=some b->LR μ F w (b.map (Src.ev T)) (l.map a.eval)
 | [],b,h=>by simp at h; subst h; exact LR.nil
 | x :: l,b,h=>by
  simp only [WY,XI,Vj,Vf] at h;obtain ⟨s,hs,d,c,h⟩:=h;cases h;exact LR.cons (aO hT hs) (ph hT c)
def AX {x:AV} {v:Value} (h:VR μ F w x v) (e:x.cells.all AV.one=true):LR μ F w x.cells v.cells.toList:=by
 cases h with
 | agg cs vs hl g=>exact LR.of_agg hl g
 | undef v=>simp [AV.cells,AV.one] at e
 | tup cs vs hl g=>simp [AV.cells,AV.one] at e
 | bool b=>exact LR.cons (.bool b) LR.nil
 | int k n=>exact LR.cons (.int k n) LR.nil
 | str s=>exact LR.cons (.str s) LR.nil
 | nilPtr=>exact LR.cons .nilPtr LR.nil
 | nilSl=>exact LR.cons .nilSl LR.nil
 | nilFn=>exact LR.cons .nilFn LR.nil
 | nilIf=>exact LR.cons .nilIf LR.nil
 | nilMap=>exact LR.cons .nilMap LR.nil
 | sl0 a cap=>exact LR.cons (.sl0 a cap) LR.nil
 | sl cells n cap blk off arr ty fr h1 h2 h3 d h5=>exact LR.cons (.sl cells n cap blk off arr ty fr h1 h2 h3 d h5) LR.nil
 | dp cells o blk off arr ty fr h1 h2 d h5=>exact LR.cons (.dp cells o blk off arr ty fr h1 h2 d h5) LR.nil
 | own b off n c sz ex L cap h1 h2 h3 d h5 i=>exact LR.cons (.own b off n c sz ex L cap h1 h2 h3 d h5 i) LR.nil
 | ptr b off L h=>exact LR.cons (.ptr b off L h) LR.nil
 | fn f as bs us vs h1 h2 h3 d=>exact LR.cons (.fn f as bs us vs h1 h2 h3 d) LR.nil
 | ifc t x v h=>exact LR.cons (.ifc t x v h) LR.nil
 | map b L h=>exact LR.cons (.map b L h) LR.nil
 | loopv b L h=>exact LR.cons (.loopv b L h) LR.nil
def LR.one {as:List AV} {vs:List Value} (h:LR μ F w as vs) (h1:as.all AV.one=true):∀ v∈vs,v.oneCell'=true:=by
 intro v a;obtain ⟨i,hi,rfl⟩:=Z6.1 a;have b:i<as.length:=h.1 ▸ hi
 have:=h.2 i as[i] vs[i] (Vk _) (Vk _)
 exact this.oneCell (by rw [VJ] at h1; exact h1 _ (Vm _))
def gt {x:AV} {v:Value} {n:Nat} (h:pb x=some n) (a:VR μ F w x v):∃ k,v=.int k (n:Int):=by
 unfold pb at h;split at h
 ·cases h;cases a with
  | int k n=>exact ⟨_,rfl⟩
 ·cases h
def Ib:∀ (l:List Value) (off:Nat) (cs:Array Value),off+l.length<=cs.size ->
  ((l.zipIdx).foldl (fun (cs:Array Value) (p:Value × Nat)=>cs.setIfInBounds (off+p.2) p.1) cs).toList=cs.toList.take off++l++cs.toList.drop (off+l.length):=by
 intro l off cs h;have key:∀ (l:List Value) (k:Nat) (cs:Array Value),off+k+l.length<=cs.size ->
   ((l.zipIdx k).foldl (fun (cs:Array Value) (p:Value × Nat)=>cs.setIfInBounds (off+p.2) p.1) cs).toList=cs.toList.take (off+k)++l++cs.toList.drop (off+k+l.length):=by
  intro l
  induction l with
  | nil=>intro k cs h; simp
  | cons v l a =>
   intro k cs h;simp only [VX] at h;simp only [List.zipIdx_cons,Wn];rw [a (k+1) _ (by simp; omega)];simp only [Yz,VX];have hlt:off+k<cs.toList.length:=by rw [Yd]; omega
   have h1:(cs.toList.set (off+k) v).take (off+(k+1))=cs.toList.take (off+k)++[v]:=by
    rw [<- Wx,List.take_add_one,List.take_set_of_le (Vo _),List.getElem?_set_self hlt]; rfl
   have h2:(cs.toList.set (off+k) v).drop (off+(k+1)+l.length)=cs.toList.drop (off+k+(l.length+1)):=by
    rw [List.drop_set_of_lt (by omega)]; congr 1; omega
   rw [h1,h2]; simp
 simpa using key l 0 cs (by simpa using h)
def DW (hT:LR μ F w T a.tmps.toList) (i:Nat->Option (Nat × Nat)):∀ (parts:List (Nat × Operand)) (ps:List ((Nat × Nat) × Src)) (z:List AV) (d:Array Value) (cs:List AV),
  (parts.mapM fun (p:Nat × Operand)=>(do some ((<- i p.1),(<- bV p.2)):Option ((Nat × Nat) × Src)))=some ps->LR μ F w z d.toList->dj z (ps.map fun p=>(p.1,p.2.ev T))=some cs ->
  ∃ vs,Instr.fill i d (parts.map fun p=>(p.1,a.eval p.2))=some vs/\LR μ F w cs vs.toList:=by
 intro parts
 induction parts with
 | nil =>
  intro ps z d cs h g b;simp at h; subst h;simp [dj] at b; subst b;exact ⟨d,rfl,g⟩
 | cons p parts u =>
  intro ps z d cs h g b;simp only [WY,XI,Vj,Vf] at h;obtain ⟨q,⟨f,k,s,hs,l⟩,v,m,h⟩:=h;cases h; cases l;simp only [Vq,dj] at b;split at b
  ·rename_i hc;obtain ⟨h1,h2,h3⟩:=hc;have o:=aO hT hs;have hl:=AX o h3;have n:(a.eval p.2).cells.size=f.2:=by have:=hl.1; simp at this; omega
   have t:=g.1;simp only [Yd] at t;obtain ⟨vs,r,hr⟩:=u v _ (((a.eval p.2).cells.zipIdx.foldl (fun cs (c,j)=>cs.setIfInBounds (f.1+j) c) d)) cs m (by
    have e:=Ib (a.eval p.2).cells.toList f.1 d (by simp; omega);rw [<- Array.toList_zipIdx,Array.foldl_toList] at e;rw [e];refine LR.append (LR.append (g.take _) hl) ?_
    have:f.1+(a.eval p.2).cells.toList.length=f.1+f.2:=by simp [n]
    rw [this];exact g.drop _) b
   refine ⟨vs,?_,hr⟩;simp only [Vq,Instr.fill,k];rw [if_neg (by simp; omega)];exact r
  ·cases b
def cN {s:Sem Value} {v:Value} {w':World} (h:s.run P w=.ok v w'):((do pure (Next.value (<- s))):Sem Next).run P w=.ok (.value v) w':=by
 simp [h]
def iV {t:TypeId} {i:TypeInfo} (h:P.info? t=some i) (w:World):(typeInfo t).run P w=.ok i w:=by
 simp [typeInfo,h]
def cq {t:TypeId} {n:Nat} (h:sizeOf? P t=some n) (w:World):(Go.sizeOf t).run P w=.ok n w:=by
 simp only [sizeOf?,Vu] at h;obtain ⟨i,hi,rfl⟩:=h;simp [Go.sizeOf,iV hi]
def KJ {t:TypeId} {n:Nat} (h:bytesOf? P t=some n) (w:World):∃ i,(typeInfo t).run P w=.ok i w/\i.bytes=n:=by
 simp only [bytesOf?,Vu] at h;obtain ⟨i,hi,rfl⟩:=h;exact ⟨i,iV hi w,rfl⟩
def qA {t:TypeId} {z:List AV} (h:zeroCells? P t=some z) (w:World):∃ v,(zeroValue t).run P w=.ok v w/\∀ μ F W,LR μ F W z v.cells.toList:=by
 simp only [zeroCells?,Vj,Vf] at h;obtain ⟨i,hi,zv,a,h⟩:=h;exact ⟨zv,by simp [zeroValue,iV hi,a],fun μ F W=>uO h⟩
def An {t:TypeId} (h:pY P t=some none) (w:World):(isAgg t).run P w=.ok false w:=by
 simp only [pY,Vj,Vf] at h;obtain ⟨d,hd,h⟩:=h;split at h
 ·simp at h
 ·simp at h
 ·rename_i h1 h2;simp only [isAgg,Sem.run_bind,run_underlying hd,Result.andThen_ok];cases d <;> first | rfl | (exact absurd rfl (h1 _)) | (exact absurd rfl (h2 _ _))
def Am {t:TypeId} {n:Nat} (h:pY P t=some (some n)) (w:World):(isAgg t).run P w=.ok true w/\(Go.sizeOf t).run P w=.ok n w:=by
 simp only [pY,Vj,Vf] at h;obtain ⟨d,hd,h⟩:=h;split at h
 ·simp only [Vu] at h;obtain ⟨m,hm,h⟩:=h;cases h;exact ⟨by simp [isAgg,run_underlying hd],cq hm w⟩
 ·simp only [Vu] at h;obtain ⟨m,hm,h⟩:=h;cases h;exact ⟨by simp [isAgg,run_underlying hd],cq hm w⟩
 ·cases h
def xI {cs:List AV} {vs:Array Value} {off:Nat} {k:Option Nat} {t:TypeId} {v:AV} (b:pY P t=some k) (hl:LR μ F w cs vs.toList) (h:bz cs off k=some v) :
  ∃ u,(part t vs off).run P w=.ok u w/\VR μ F w v u:=by
 cases k with
 | none =>
  obtain ⟨u,e,hr⟩:=hl.get h;have f:vs[off]? = some u:=by simpa using e
  exact ⟨u,by simp [part,An b,f],hr⟩
 | some n =>
  simp only [bz] at h;split at h
  ·rename_i g;cases h;obtain ⟨h1,h2⟩:=Am b w;refine ⟨.agg (vs.extract off (off+n)),by simp [part,h1,h2],?_⟩;have d:=hl.1;simp at d;refine .agg _ _ (by simp; omega) fun i c v hc a=>?_;rw [VL] at hc;split at hc
   ·rename_i hi;rw [VM] at hc;refine hl.2 _ c v hc ?_;rw [Z0] at a;split at a
    ·simpa using a
    ·cases a
   ·cases hc
  ·cases h
def rl (op:BinOp) (ty:TypeId) (X Y:Operand) (j k:IntKind) (m n:Int):(eqGuard op ty X Y (.int j m) (.int k n)).run P w=.ok () w:=by
 unfold eqGuard; cases op <;> rfl
def vp (op:BinOp) (ty:TypeId) (X Y:Operand) (b c:Bool):(eqGuard op ty X Y (.bool b) (.bool c)).run P w=.ok () w:=by
 unfold eqGuard; cases op <;> rfl
def rk (op:BinOp) (ty:TypeId) (X Y:Operand) (b c:ByteArray):(eqGuard op ty X Y (.string b) (.string c)).run P w=.ok () w:=by
 unfold eqGuard; cases op <;> rfl
def gM (op:BinOp) (ty:TypeId) (X Y:Operand) (x:Value) (b:Option Addr) (m n:Nat):(eqGuard op ty X Y x (.slice b m n)).run P w=.ok () w:=by
 unfold eqGuard; cases op <;> cases x <;> rfl
def uA {op:BinOp} {k yk:IntKind} {x y:Int} {v:AV} (h:kK op k x y=some v):∃ u,(Op.shift op k x yk y).run P w=.ok u w/\VR μ F w v u:=by
 unfold kK at h;split at h
 ·cases h
 ·rename_i hy;unfold Op.shift;cases op <;> simp at h <;> subst h <;> simp [hy] <;> exact .int _ _
def Eg {op:BinOp} {ty:TypeId} {k:IntKind} {x y:Int} {v:AV} (h:kQ op k x y=some v):∃ u,(binOp op ty (.int k x) (.int k y)).run P w=.ok u w/\VR μ F w v u:=by
 unfold kQ at h;cases op
 case quo=>simp at h; obtain ⟨h0,h⟩:=h; subst h; exact ⟨_,by simp [binOp,Op.intDiv,h0],.int _ _⟩
 case rem=>simp at h; obtain ⟨h0,h⟩:=h; subst h; exact ⟨_,by simp [binOp,Op.intDiv,h0],.int _ _⟩
 case shl=>cases h
 case shr=>cases h
 all_goals (injection h with h; subst h; cases k <;> first | exact ⟨_,rfl,.int _ _⟩ | exact ⟨_,rfl,.bool _⟩)
def Is {op:BinOp} {kd:BK} {ty:TypeId} {x y:AV} {g i:Value} {v:AV} (d:jt P ty=some kd)
  (hx:VR μ F w x g) (hy:VR μ F w y i) (h:ca op kd x y=some v) (X Y:Operand) :
  ∃ u,((do eqGuard op ty X Y g i; binOp op ty g i):Sem Value).run P w=.ok u w/\VR μ F w v u:=by
 unfold ca at h;split at h
 ·cases hx; cases hy;rename_i k1 l k2 m;split at h
  ·obtain ⟨u,f,hr⟩:=uA (P:=P) (μ:=μ) (F:=F) (w:=w) (yk:=k2) h;exact ⟨u,by simp [rl,binOp,f],hr⟩
  ·obtain ⟨u,f,hr⟩:=uA (P:=P) (μ:=μ) (F:=F) (w:=w) (yk:=k2) h;exact ⟨u,by simp [rl,binOp,f],hr⟩
  ·split at h
   ·rename_i j;subst j;obtain ⟨u,f,hr⟩:=Eg (P:=P) (μ:=μ) (F:=F) (w:=w) (ty:=ty) h;exact ⟨u,by simp [rl,f],hr⟩
   ·cases h
 ·cases hx; cases hy;rename_i b c _ _;have hb:P.underlying ty=some .bool:=by
   unfold jt at d; split at d <;> first | assumption | (cases d)
  split at h <;> first | (cases h; done) | skip
  ·cases h; exact ⟨_,by simp only [Sem.run_bind,vp,Result.andThen_ok]; exact run_eql_bool w ty _ _ hb,.bool _⟩
  ·cases h; exact ⟨_,by simp only [Sem.run_bind,vp,Result.andThen_ok]; exact run_neq_bool w ty _ _ hb,.bool _⟩
 ·cases hx; cases hy;split at h <;> first | (cases h; done) | skip
  ·cases h; exact ⟨_,by simp [rk,binOp,Op.stringOp],.bool _⟩
  ·cases h; exact ⟨_,by simp [rk,binOp,Op.stringOp],.bool _⟩
  ·split at h
   ·cases h
   ·rename_i k;cases h; exact ⟨_,by simp only [Sem.run_bind,rk,Result.andThen_ok,binOp,Op.stringOp]; rw [if_neg k]; rfl,.str _⟩
 ·cases hy;have hb:∃ e,P.underlying ty=some (.slice e):=by
   unfold jt at d; split at d <;> first | (cases d; done) | exact ⟨_,by assumption⟩
  obtain ⟨e,hb⟩:=hb;split at h <;> first | (cases h; done) | skip
  ·simp only [Vu] at h;obtain ⟨b,a,rfl⟩:=h;unfold yR at a;split at a <;> first | (cases a; done) | skip
   ·cases a; cases hx;exact ⟨_,by simp only [Sem.run_bind,gM,Result.andThen_ok,binOp,run_equal_slice_nil w ty e _ _ _ hb,Sem.run_pure]; rfl,.bool _⟩
   ·cases a; cases hx;exact ⟨_,by simp only [Sem.run_bind,gM,Result.andThen_ok,binOp,run_equal_slice_nil w ty e _ _ _ hb,Sem.run_pure]; rfl,.bool _⟩
   ·cases a; cases hx
    ·exact ⟨_,by simp only [Sem.run_bind,gM,Result.andThen_ok,binOp,run_equal_slice_nil w ty e _ _ _ hb,Sem.run_pure]; rfl,.bool _⟩
    ·exact ⟨_,by simp only [Sem.run_bind,gM,Result.andThen_ok,binOp,run_equal_slice_nil w ty e _ _ _ hb,Sem.run_pure]; rfl,.bool _⟩
  ·simp only [Vu] at h;obtain ⟨b,a,rfl⟩:=h;unfold yR at a;split at a <;> first | (cases a; done) | skip
   ·cases a; cases hx;exact ⟨_,by simp only [Sem.run_bind,gM,Result.andThen_ok,binOp,run_equal_slice_nil w ty e _ _ _ hb,Sem.run_pure]; rfl,.bool _⟩
   ·cases a; cases hx;exact ⟨_,by simp only [Sem.run_bind,gM,Result.andThen_ok,binOp,run_equal_slice_nil w ty e _ _ _ hb,Sem.run_pure]; rfl,.bool _⟩
   ·cases a; cases hx
    ·exact ⟨_,by simp only [Sem.run_bind,gM,Result.andThen_ok,binOp,run_equal_slice_nil w ty e _ _ _ hb,Sem.run_pure]; rfl,.bool _⟩
    ·exact ⟨_,by simp only [Sem.run_bind,gM,Result.andThen_ok,binOp,run_equal_slice_nil w ty e _ _ _ hb,Sem.run_pure]; rfl,.bool _⟩
 ·exfalso
  unfold jt at d;split at d <;> cases d
 ·cases h
def Li {op:BinOp} {ty:TypeId} {l:Array (String × TypeId)} {x y:AV} {c e:Value} {v:AV} (j:P.underlying ty=some (.interface l))
  (hx:VR μ F w x c) (hy:VR μ F w y e) (h:ca op .ifc x y=some v) {X Y:Operand} (hc:(uT X || uT Y)=true) :
  ∃ u,((do eqGuard op ty X Y c e; binOp op ty c e):Sem Value).run P w=.ok u w/\VR μ F w v u:=by
 have a:=run_underlying (P:=P) j;have f:∀ op,(eqGuard op ty X Y .nilIface .nilIface).run P w=.ok () w:=by
  intro op;unfold eqGuard;cases op <;> cases X <;> cases Y <;> first | rfl | (simp [uT] at hc; done)
 have g:∀ op t z,(eqGuard op ty X Y .nilIface (.iface t z)).run P w=.ok () w:=fun op t z=>by unfold eqGuard; cases op <;> rfl
 have i:∀ op t z,(eqGuard op ty X Y (.iface t z) .nilIface).run P w=.ok () w:=fun op t z=>by unfold eqGuard; cases op <;> rfl
 have k1:∀ d,(Op.equalIn (d+1) ty .nilIface .nilIface).run P w=.ok true w:=fun d=>by simp [Op.equalIn,a]
 have k2:∀ d t z,(Op.equalIn (d+1) ty .nilIface (.iface t z)).run P w=.ok false w:=fun d t z=>by simp [Op.equalIn,a]
 have k:∀ d t z,(Op.equalIn (d+1) ty (.iface t z) .nilIface).run P w=.ok false w:=fun d t z=>by simp [Op.equalIn,a]
 have q1:(Op.equal ty .nilIface .nilIface).run P w=.ok true w:=k1 9999;have q2:∀ t z,(Op.equal ty .nilIface (.iface t z)).run P w=.ok false w:=k2 9999;have q3:∀ t z,(Op.equal ty (.iface t z) .nilIface).run P w=.ok false w:=k 9999;simp only [ca] at h;split at h <;> first | (cases h; done) | skip
 all_goals
  simp only [Vu] at h;obtain ⟨b,hb,rfl⟩:=h;unfold Hw at hb;split at hb <;> first | (cases hb; done) | skip
  all_goals
   cases hb;cases hx;cases hy;refine ⟨_,?_,.bool _⟩
   first
    | (simp only [Sem.run_bind,f,q1,binOp,Result.andThen_ok,Sem.run_pure]; done)
    | (simp only [Sem.run_bind,g,q2,binOp,Result.andThen_ok,Sem.run_pure]; done)
    | (simp only [Sem.run_bind,i,q3,binOp,Result.andThen_ok,Sem.run_pure]; done)
    | (simp only [Sem.run_bind,f,q1,binOp,Result.andThen_ok,Sem.run_pure]; rfl)
    | (simp only [Sem.run_bind,g,q2,binOp,Result.andThen_ok,Sem.run_pure]; rfl)
    | (simp only [Sem.run_bind,i,q3,binOp,Result.andThen_ok,Sem.run_pure]; rfl)
def LB {as bs:List AV} {r:Bool} (h:FO as bs=some r):∃ a b c d,as=[.bool a,.bool b]/\bs=[.bool c,.bool d]/\r=(a == c && b == d):=by
 unfold FO at h;split at h
 ·cases h; exact ⟨_,_,_,_,rfl,rfl,rfl⟩
 ·cases h
def N0 {b c:Bool} {us:Array Value} (h:LR μ F w [.bool b,.bool c] us.toList):us = #[.bool b,.bool c]:=by
 obtain ⟨l⟩:=us;obtain ⟨hl,a⟩:=h
 match l,hl with
 | [x,y],_ =>
  have h0:=a 0 _ x rfl rfl;have h1:=a 1 _ y rfl rfl;cases h0; cases h1;rfl
def LA (d:Nat) {t e:TypeId} (k:P.underlying t=some (.array 2 e)) (he:P.underlying e=some .bool) (hs:sizeOf? P e=some 1) (a b c f:Bool) :
  (Op.equalIn (d+2) t (.agg #[.bool a,.bool b]) (.agg #[.bool c,.bool f])).run P w=.ok (a == c && b == f) w:=by
 have g:(isAgg e).run P w=.ok false w:=by simp [isAgg,run_underlying he]
 have hp:∀ (x y:Bool) (i:Nat) (z:Bool),#[Value.bool x,Value.bool y][i]? = some (.bool z)->(part e #[.bool x,.bool y] i).run P w=.ok (.bool z) w:=by
  intro x y i z h;simp [part,g,h]
 have j:=fun (x y:Bool)=>run_equalIn_bool (P:=P) w d e x y he;unfold Op.equalIn;simp only [Sem.run_bind,run_underlying k,Result.andThen_ok,cq hs];simp only [Std.Legacy.Range.forIn_eq_forIn_range',Std.Legacy.Range.size];simp [List.range',hp,j];cases a <;> cases b <;> cases c <;> cases f <;> simp
def FN {ty:TypeId} {as bs:List AV} {us vs:Array Value} {r:Bool} (f:tV P ty=true) (ha:LR μ F w as us.toList) (hb:LR μ F w bs vs.toList) (h:FO as bs=some r) (X Y:Operand) :
  ((do eqGuard .eql ty X Y (.agg us) (.agg vs); binOp .eql ty (.agg us) (.agg vs)):Sem Value).run P w=.ok (.bool r) w /\
  ((do eqGuard .neq ty X Y (.agg us) (.agg vs); binOp .neq ty (.agg us) (.agg vs)):Sem Value).run P w=.ok (.bool !r) w:=by
 obtain ⟨a,b,c,d,rfl,rfl,rfl⟩:=LB h;obtain rfl:=N0 ha;obtain rfl:=N0 hb;unfold tV at f;split at f
 ·rename_i e he;simp only [VU,beq_iff_eq] at f;obtain ⟨h1,hs⟩:=f;split at h1
  ·rename_i g;have hg:P.eqGuardType P.depth ty=false:=by
    have:P.depth=(2*(P.types.size+Made.depth))+2:=rfl
    rw [this];simp [Program.eqGuardType,he,g]
   have j:∀ op,(eqGuard op ty X Y (.agg #[.bool a,.bool b]) (.agg #[.bool c,.bool d])).run P w=.ok () w:=by
    intro op;unfold eqGuard;cases op <;> simp [hg]
   have i:=LA (w:=w) 9998 he g hs a b c d;refine ⟨?_,?_⟩
   ·simp only [Sem.run_bind,j,Result.andThen_ok,binOp,Op.equal,Op.maxDepth,i,Sem.run_pure]
   ·simp only [Sem.run_bind,j,Result.andThen_ok,binOp,Op.equal,Op.maxDepth,i,Sem.run_pure]
  ·cases h1
 ·cases f
def vj (d:Nat) (xs l:Array Value):∀ (c:List Field) (i:Nat) (as bs:List AV) (r:Bool),(∀ j f,c[j]? = some f → f.name ≠ "_" ∧ f.offset=i+j ∧ ∃ k,P.underlying f.type=some (.int k)) →
  (∀ j k a,as[j]? = some (.int k a)->xs[i+j]? = some (.int k a))->(∀ j k a,bs[j]? = some (.int k a)->l[i+j]? = some (.int k a))->rj c.length as bs=some r ->
  (Op.eqFields (d+1) xs l c).run P w=.ok r w
 | [],i,as,bs,r,m,ha,hb,h=>by
  unfold rj at h;split at h
  ·cases h; simp [Op.eqFields]
  ·rename_i e; cases e
  ·cases h
 | f :: c,i,as,bs,r,m,ha,hb,h=>by
  unfold rj at h;split at h
  ·rename_i e; cases e
  ·rename_i n k a s D b t e
   injection e with e
   split at h
   ·rename_i v;subst v;simp only [Vu] at h;obtain ⟨B,p,rfl⟩:=h;obtain ⟨hn,x,q,o⟩:=m 0 f rfl;have u:(isAgg f.type).run P w=.ok false w:=by simp [isAgg,run_underlying o]
    have hp:∀ (zs:Array Value) (z:Value),zs[i]? = some z->(part f.type zs f.offset).run P w=.ok z w:=by
     intro zs z y;rw [x];simp [part,u,y]
    have hx:=hp xs _ (ha 0 k a rfl);have hy:=hp l _ (hb 0 k b rfl);have A:=vj d xs l c (i+1) s t B (fun j g hg=>by have:=m (j+1) g hg; exact ⟨this.1,by omega,this.2.2⟩) (fun j k a hj=>by have:=ha (j+1) k a hj; rwa [show i+1+j=i+(j+1) by omega]) (fun j k a hj=>by have:=hb (j+1) k a hj; rwa [show i+1+j=i+(j+1) by omega]) (by rw [<- e] at p; exact p);simp only [Op.eqFields,hn,ne_eq,not_false_eq_true,if_true,Sem.run_bind,hx,hy,Result.andThen_ok,run_equalIn_int w d f.type k q a b o];cases C:(a == b)
    ·simp
    ·simpa using A
   ·cases h
  ·cases h
def AE {ty:TypeId} {as bs:List AV} {us vs:Array Value} {r:Bool} (b:iF P ty≠0) (ha:LR μ F w as us.toList) (hb:LR μ F w bs vs.toList) (h:rj (iF P ty) as bs=some r) (X Y:Operand) :
  ((do eqGuard .eql ty X Y (.agg us) (.agg vs); binOp .eql ty (.agg us) (.agg vs)):Sem Value).run P w=.ok (.bool r) w /\
  ((do eqGuard .neq ty X Y (.agg us) (.agg vs); binOp .neq ty (.agg us) (.agg vs)):Sem Value).run P w=.ok (.bool !r) w:=by
 unfold iF at b h;split at b
 rotate_left
 ·exact absurd rfl b
 rename_i c d;simp only [d] at h;split at b
 rotate_left
 ·exact absurd rfl b
 rename_i hc;simp only [hc,if_true] at h;simp only [VU,Wy,VJ,bne_iff_ne,ne_eq,beq_iff_eq] at hc;obtain ⟨o,s⟩:=hc;have m:P.fieldsOf ty=c:=by simp [Program.fieldsOf,d]
 have l:∀ j f,c.toList[j]? = some f → f.name ≠ "_" ∧ f.offset=0+j ∧ ∃ k,P.underlying f.type=some (.int k):=by
  intro j f hj;have hm:(f,j)∈c.toList.zipIdx:=by
   rw [List.mem_zipIdx_iff_getElem?]; exact hj
  have:=o _ hm
  refine ⟨this.1,by simpa using this.2.1,?_⟩;have h3:=this.2.2;split at h3
  ·exact ⟨_,by assumption⟩
  ·cases h3
 have g:∀ {ls:List AV} {zs:Array Value},LR μ F w ls zs.toList->∀ j k a,ls[j]? = some (.int k a)->zs[0+j]? = some (.int k a):=by
  intro ls zs hl j k a hj;obtain ⟨u,t⟩:=hl;have hlt:j<ls.length:=(VA.1 hj).1;have e:zs.toList[j]? = some (zs.toList[j]'(by omega)):=Vk _;have n:=t j _ _ hj e
  generalize v:zs.toList[j]'(by omega)=z at n e
  cases n;rw [V3,<- Y3];exact e
 have hg:P.eqGuardType P.depth ty=false:=by
  have:P.depth=(2*(P.types.size+Made.depth))+2:=rfl
  rw [this];simp only [Program.eqGuardType,d];rw [<- Array.any_toList,WU];intro f p;obtain ⟨j,hj⟩:=List.mem_iff_getElem?.1 p;obtain ⟨-,-,k,q⟩:=l j f hj;simp [q]
 have he:=vj (w:=w) 9998 us vs c.toList 0 as bs r l (g ha) (g hb) (by simpa using h);have i:(Op.equalIn 10000 ty (.agg us) (.agg vs)).run P w=.ok r w:=by
  rw [run_equalIn_struct w 9999 ty us vs (by rw [m]; exact d) s,m];exact he
 refine ⟨?_,?_⟩
 ·simp only [Sem.run_bind,run_eqGuard_agg w _ _ _ _ _ _ hg,Result.andThen_ok,run_eql_struct,i]
 ·simp only [Sem.run_bind,run_eqGuard_agg w _ _ _ _ _ _ hg,Result.andThen_ok,run_neq_struct,i]
def Kk {op:UnOp} {x:AV} {a:Value} {v:AV} (hx:VR μ F w x a) (h:RP op x=some v):∃ u,(Op.unary op a).run P w=.ok u w/\VR μ F w v u:=by
 unfold RP at h;split at h
 ·cases h; cases hx; exact ⟨_,rfl,.int _ _⟩
 ·cases h; cases hx; exact ⟨_,rfl,.int _ _⟩
 ·cases h; cases hx; exact ⟨_,rfl,.bool _⟩
 ·cases h
def OR (μ:Mu) (F:Nat->Prop) (w:World) (x:Option AV) (v:Option Value):Prop :=
 match x,v with
 | none,none=>True
 | some x,some v=>VR μ F w x v
 | _,_=>False
def jr (k:IntKind) (n y:Nat) (code:BoundsCode) (h:n<=y):(Instr.sliceBound (.int k (n:Int)) y code).run P w=.ok n w:=by
 simp [Instr.sliceBound,asIntOf,h]
def tZ {len cap m h l:Nat} {k1 k2:IntKind} {lo:Option Value} (hl:(lo=none/\l=0)\/∃ k,lo=some (.int k (l:Int))) (h1:m<=cap) (h2:h<=m) (h3:l<=h) :
  (Instr.sliceBounds true len cap lo (some (.int k1 (h:Int))) (some (.int k2 (m:Int)))).run P w=.ok (l,h,m) w:=by
 rcases hl with ⟨rfl,rfl⟩ | ⟨k,rfl⟩
 ·simp [Instr.sliceBounds,jr k2 m cap _ h1,jr k1 h m _ h2]
 ·simp [Instr.sliceBounds,jr k2 m cap _ h1,jr k1 h m _ h2,jr k l h _ h3]
def pN {s:Bool} {len cap h l:Nat} {lo hi:Option Value} (hl:(lo=none/\l=0)\/∃ k,lo=some (.int k (l:Int))) (hh:(hi=none/\h=len)\/∃ k,hi=some (.int k (h:Int))) (h2:h<=cap) (h3:l<=h) :
  (Instr.sliceBounds s len cap lo hi none).run P w=.ok (l,h,cap) w:=by
 rcases hl with ⟨rfl,rfl⟩ | ⟨k,rfl⟩ <;> rcases hh with ⟨rfl,rfl⟩ | ⟨a,rfl⟩
 ·simp [Instr.sliceBounds]
 ·simp [Instr.sliceBounds,jr a h cap _ h2]
 ·simp [Instr.sliceBounds,jr k l h _ h3]
 ·simp [Instr.sliceBounds,jr a h cap _ h2,jr k l h _ h3]
def ml {x:Option AV} {v:Option Value} {n d:Nat} (h:OR μ F w x v) (hn:(x.map pb).getD (some d)=some n):(v=none/\n=d)\/∃ k,v=some (.int k (n:Int)):=by
 cases x with
 | none =>
  cases v with
  | none=>simp at hn; exact .inl ⟨rfl,hn.symm⟩
  | some v=>exact h.elim
 | some x =>
  cases v with
  | none=>exact h.elim
  | some v =>
   simp at hn;obtain ⟨k,a⟩:=gt hn h;exact .inr ⟨k,by rw [a]⟩
def ju (b o k:Nat):(⟨b,o,none⟩:Addr).add k=⟨b,o+k,none⟩:=by
 unfold Addr.add; split <;> simp_all
def iK {t e:TypeId} {size:Nat} (b:P.underlying t=some (.slice e)) (hs:sizeOf? P e=some size) {a:Option Addr} {len cap l h m:Nat} {lo hi mx:Option Value}
  (hb:(Instr.sliceBounds true len cap lo hi mx).run P w=.ok (l,h,m) w) :
  (Instr.sliceAt t (.slice a len cap) lo hi mx).run P w=.ok (.slice (if m=l then a else a.map (·.add (l*size))) (h-l) (m-l)) w:=by
 simp [Instr.sliceAt,Instr.slice,run_underlying b,hb,cq hs]
def De {size:Nat} {t e:TypeId} {x:AV} {A:Value} {lo hi mx:Option AV} {I k vmx:Option Value} {v:AV}
  (q:P.underlying t=some (.slice e)) (hs:sizeOf? P e=some size)
  (hx:VR μ F w x A) (R:∀ s,x ≠ .str s) (p:OR μ F w lo I) (f:OR μ F w hi k) (g:OR μ F w mx vmx) (h:bL size x lo hi mx=some v) :
  ∃ u,(Instr.sliceAt t A I k vmx).run P w=.ok u w/\VR μ F w v u:=by
 unfold bL at h;split at h
 ·rename_i b off n c sz ex;split at h
  ·cases h
  rename_i y;have y:sz=size:=by simpa using y
  subst y;cases hx with
  | own _ _ _ _ _ _ L cap h1 h2 h3 M h5 S =>
  split at h
  ·rename_i H h0 lo;simp only [Vj,Vf] at h;obtain ⟨m,hm,h',hh,l,hl,h⟩:=h;split at h
   ·rename_i hc;obtain ⟨r,d,o⟩:=hc;obtain ⟨vm,rfl⟩:∃ vm,vmx=some vm:=by cases vmx with | none=>exact g.elim | some vm=>exact ⟨_,rfl⟩
    obtain ⟨j,rfl⟩:∃ j,k=some j:=by cases k with | none=>exact f.elim | some vm=>exact ⟨_,rfl⟩
    obtain ⟨k2,rfl⟩:=gt hm g;obtain ⟨k1,rfl⟩:=gt hh f;have hb:=tZ (P:=P) (w:=w) (len:=n) (cap:=cap) (k1:=k1) (k2:=k2) (ml p hl) (VB r M) d o;refine ⟨_,iK q hs hb,?_⟩;split at h
    ·rename_i e';cases h;subst e';simp only [if_true,YE]
     have:h'-m=0:=by omega
     rw [this];exact .own _ _ _ _ _ _ L 0 h1 h2 (Vo _) (Vo _) (fun _=>rfl) (by omega)
    ·rename_i e';cases h;rw [if_neg e'];simp only [W8,ju];refine .own _ _ _ _ _ _ L _ h1 h2 (by omega) (Vo _) (fun _=>rfl) ?_
     have:l*sz+(m-l)*sz=m*sz:=by rw [<- Wq]; congr 1; omega
     have N:m*sz<=cap*sz:=Vy _ (by omega);omega
   ·cases h
  ·rename_i hi lo;simp only [Vj,Vf] at h;obtain ⟨h',hh,l,hl,h⟩:=h;obtain rfl:vmx=none:=by cases vmx with | none=>rfl | some vm=>exact g.elim
   split at h
   ·rename_i hc;obtain ⟨r,d⟩:=hc;have hb:=pN (P:=P) (w:=w) (s:=true) (len:=n) (cap:=cap) (ml p hl) (ml f hh) (by omega) d;refine ⟨_,iK q hs hb,?_⟩;have N:(cap-l)*sz+l*sz<=cap*sz:=by rw [<- Wq]; exact Vy _ (by omega)
    split at h
    ·rename_i e';cases h;by_cases e2:cap=l
     ·have O:l=0:=by omega
      subst O;simp only [e2,if_true,YS,WZ,Zn];subst e2;exact .own _ _ _ _ _ _ L 0 h1 h2 (by omega) (by omega) (fun e=>by have:=h5 e; omega) (by omega)
     ·rw [if_neg e2];simp only [W8,ju];exact .own _ _ _ _ _ _ L _ h1 h2 (by omega) (by omega) (fun e=>by have:=h5 e; omega) (by omega)
    ·rename_i e';have Q:l=c:=by omega
     subst Q;split at h
     ·rename_i e3;cases h
      have:=h5 e3
      subst this;rw [if_pos rfl];exact .own _ _ _ _ _ _ L _ h1 h2 (by omega) (by omega) (fun e=>rfl) (by omega)
     ·cases h
      have:h'-l=0:=by omega
      rw [this];split
      ·exact .sl0 _ _
      ·exact .sl0 _ _
   ·cases h
  ·cases h
 ·rename_i cs n;have G:∀ l h' m,h'<=n->l<=h'->h'<=m->h'*size<=cs.length->∀ (a0:Addr) (cap:Nat),VR μ F w (.sl cs n) (.slice (some a0) n cap)->m<=cap ->
    VR μ F w (.sl ((cs.drop (l*size)).take ((h'-l)*size)) (h'-l)) (.slice (if m=l then some a0 else (some a0).map (·.add (l*size))) (h'-l) (m-l)):=by
   intro l h' m q1 q2 q3 q5 a0 cap z q4;by_cases e0:h'=l
   ·subst e0;simp only [YE,YS,YT];split
    ·exact .sl0 _ _
    ·exact .sl0 _ _
   ·rw [if_neg (by omega)];cases z with
    | sl0=>omega
    | sl _ _ _ blk off arr ty fr B C D K E =>
     simp only [W8,ju];have U:l*size<=h'*size:=Vy _ q2;refine .sl _ _ _ blk _ arr ty fr B C (by omega) ?_ ?_
     ·simp only [VN,WN]; omega
     ·intro i c v hc z;rw [VL] at hc;split at hc
      ·rw [VM] at hc;exact E _ c v hc (by rw [<- Wx]; exact z)
      ·cases hc
  obtain ⟨a0,cap,rfl,T⟩:∃ a0 cap,A=.slice (some a0) n cap/\n<=cap:=by
   cases hx with
   | sl0 a cap=>exact ⟨_,_,rfl,Vz _⟩
   | sl _ _ _ blk off arr ty fr B C D K E=>exact ⟨_,_,rfl,D⟩
  split at h
  ·rename_i hi lo;simp only [Vj,Vf] at h;obtain ⟨h',hh,l,hl,h⟩:=h;obtain rfl:vmx=none:=by cases vmx with | none=>rfl | some vm=>exact g.elim
   split at h
   ·rename_i hc;obtain ⟨r,d,o⟩:=hc;cases h;have hb:=pN (P:=P) (w:=w) (s:=true) (len:=n) (cap:=cap) (ml p hl) (ml f hh) (by omega) d;exact ⟨_,iK q hs hb,G l h' cap r d (by omega) o a0 cap hx (Vo _)⟩
   ·cases h
  ·rename_i H h0 lo;simp only [Vj,Vf] at h;obtain ⟨m,hm,h',hh,l,hl,h⟩:=h;split at h
   ·rename_i hc;obtain ⟨r,d,o,J⟩:=hc;cases h;obtain ⟨vm,rfl⟩:∃ vm,vmx=some vm:=by cases vmx with | none=>exact g.elim | some vm=>exact ⟨_,rfl⟩
    obtain ⟨j,rfl⟩:∃ j,k=some j:=by cases k with | none=>exact f.elim | some vm=>exact ⟨_,rfl⟩
    obtain ⟨k2,rfl⟩:=gt hm g;obtain ⟨k1,rfl⟩:=gt hh f;have hb:=tZ (P:=P) (w:=w) (len:=n) (cap:=cap) (k1:=k1) (k2:=k2) (ml p hl) (by omega) d o;exact ⟨_,iK q hs hb,G l h' m (by omega) o d J a0 cap hx (by omega)⟩
   ·cases h
  ·cases h
 ·cases hx;split at h
  ·rename_i H h0;split at h
   ·rename_i hc;obtain ⟨hm,hh,hl⟩:=hc;cases h;obtain ⟨vm,rfl⟩:∃ vm,vmx=some vm:=by cases vmx with | none=>exact g.elim | some vm=>exact ⟨_,rfl⟩
    obtain ⟨j,rfl⟩:∃ j,k=some j:=by cases k with | none=>exact f.elim | some vm=>exact ⟨_,rfl⟩
    obtain ⟨k2,rfl⟩:=gt hm g;obtain ⟨k1,rfl⟩:=gt hh f;have hb:=tZ (P:=P) (w:=w) (len:=0) (cap:=0) (k1:=k1) (k2:=k2) (ml p hl) (Vo _) (Vo _) (Vo _);exact ⟨_,iK q hs hb,.nilSl⟩
   ·cases h
  ·rename_i hi;obtain rfl:vmx=none:=by cases vmx with | none=>rfl | some vm=>exact g.elim
   split at h
   ·rename_i hc;obtain ⟨hh,hl⟩:=hc;cases h;have hb:=pN (P:=P) (w:=w) (s:=true) (len:=0) (cap:=0) (ml p hl) (ml f hh) (Vo _) (Vo _);exact ⟨_,iK q hs hb,.nilSl⟩
   ·cases h
  ·cases h
 ·exact absurd rfl (R _)
 ·cases h
def zu {size:Nat} {t:TypeId} {s:ByteArray} {lo hi mx:Option AV} {b a vmx:Option Value} {v:AV}
  (f:P.underlying t=some .string) (d:OR μ F w lo b) (c:OR μ F w hi a) (e:OR μ F w mx vmx) (h:bL size (.str s) lo hi mx=some v) :
  ∃ u,(Instr.sliceAt t (.string s) b a vmx).run P w=.ok u w/\VR μ F w v u:=by
 unfold bL at h;simp only at h;split at h
 ·simp only [Vj,Vf] at h;obtain ⟨h',hh,l,hl,h⟩:=h;obtain rfl:vmx=none:=by cases vmx with | none=>rfl | some vm=>exact e.elim
  split at h
  ·rename_i hc;simp only [VU,decide_eq_true_eq] at hc;cases h;have hb:=pN (P:=P) (w:=w) (s:=false) (len:=s.size) (cap:=s.size) (ml d hl) (ml c hh) hc.1 hc.2;exact ⟨_,by simp [Instr.sliceAt,Instr.slice,run_underlying f,hb],.str _⟩
  ·cases h
 ·cases h
def uJ (hT:LR μ F w T a.tmps.toList) {x:Option Operand} {s:Option Src} (h:Bi x=some s):OR μ F w (s.map (Src.ev T)) (x.map a.eval):=by
 cases x with
 | none=>cases h; trivial
 | some x =>
  simp only [Bi,Vu] at h;obtain ⟨y,hy,rfl⟩:=h;exact aO hT hy
def gJ {as:List AV} {vs:Array Value} (h:LR μ F w as vs.toList):as.length=vs.size/\∀ (i:Nat) (c:AV) (v:Value),as[i]? = some c->vs[i]? = some v->VR μ F w c v :=
 ⟨by simpa using h.1,fun i c v h1 h2=>h.2 i c v h1 (by simpa using h2)⟩
def Hp {o:Oper} {c x y:Operand} (d:o.op=.pick c x y) {b:Bool} (hc:a.eval c=.bool b):(execOp a.eval o).run P w=.ok (.value (if b then a.eval x else a.eval y)) w:=by
 simp [execOp,d,hc,asBool]
def Fl (k:IntKind):∀ (l:List AV) (vs:List Value) (m:Int) (r:AV),LR μ F w l vs->l.foldlM I9 (AV.int k m)=some r ->
  ∃ u,(vs.foldlM Builtin.min2 (.int k m)).run P w=.ok u w/\VR μ F w r u
 | [],[],m,r,_,h=>by simp at h; subst h; exact ⟨_,rfl,.int _ _⟩
 | [],_ :: _,_,_,hl,_=>by have:=hl.1; simp at this
 | _ :: _,[],_,_,hl,_=>by have:=hl.1; simp at this
 | x :: l,v :: vs,m,r,hl,h=>by
  simp only [Y9,Vj,Vf] at h;obtain ⟨y,hy,h⟩:=h;have hx:=hl.head;cases x <;> simp only [I9] at hy <;> first | (cases hy; done) | skip
  cases hy;cases hx;obtain ⟨u,a,hr⟩:=Fl k l vs _ r hl.tail h;exact ⟨u,by simp only [Y9,Sem.run_bind,Builtin.min2,Sem.run_pure,Result.andThen_ok]; exact a,hr⟩
def Fm (k:IntKind):∀ (l:List AV) (vs:List Value) (m:Int) (r:AV),LR μ F w l vs->l.foldlM Ja (AV.int k m)=some r ->
  ∃ u,(vs.foldlM Builtin.max2 (.int k m)).run P w=.ok u w/\VR μ F w r u
 | [],[],m,r,_,h=>by simp at h; subst h; exact ⟨_,rfl,.int _ _⟩
 | [],_ :: _,_,_,hl,_=>by have:=hl.1; simp at this
 | _ :: _,[],_,_,hl,_=>by have:=hl.1; simp at this
 | x :: l,v :: vs,m,r,hl,h=>by
  simp only [Y9,Vj,Vf] at h;obtain ⟨y,hy,h⟩:=h;have hx:=hl.head;cases x <;> simp only [Ja] at hy <;> first | (cases hy; done) | skip
  cases hy;cases hx;obtain ⟨u,a,hr⟩:=Fm k l vs _ r hl.tail h;exact ⟨u,by simp only [Y9,Sem.run_bind,Builtin.max2,Sem.run_pure,Result.andThen_ok]; exact a,hr⟩
def nd (w:World):∀ (l:List Field) (a:List (Nat × Nat)),(l.mapM fun f=>(sizeOf? P f.type).map fun n=>(f.offset,n))=some a ->
  (l.mapM fun f=>(do pure (f.offset,<- Go.sizeOf f.type):Sem (Nat × Nat))).run P w=.ok a w
 | [],a,h=>by simp at h; subst h; simp
 | f :: l,a,h=>by
  simp only [WY,XI,Vj,Vf,Vu] at h;obtain ⟨q,⟨n,hn,rfl⟩,c,b,h⟩:=h;cases h
  have:=nd w l c b
  simp only [WY,Sem.run_bind,cq hn,Result.andThen_ok,this,Sem.run_pure]
def ww {a:Array Field} {b:List (Nat × Nat)} (h:uz P a=some b) (w:World) :
  (a.mapM fun f=>(do pure (f.offset,<- Go.sizeOf f.type):Sem (Nat × Nat))).run P w=.ok b.toArray w:=by
 rw [ZH];simp only [Sem.run_map,nd w a.toList b h,Result.andThen_ok]
def pT (parts:Array (Nat × Operand)) (ρ:Operand->Value):(parts.map fun (x:Nat × Operand)=>match x with | (i,x)=>(i,ρ x)).toList=parts.toList.map fun p=>(p.1,ρ p.2):=by
 simp
def E9 {o:Oper} {ao:AOp} {v:AV} (hc:Ge P o=some ao) (hp:aN (Src.ev T) ao=some v) (hT:LR μ F w T a.tmps.toList) :
  ∃ u,(execOp a.eval o).run P w=.ok (.value u) w/\VR μ F w v u:=by
 obtain ⟨dst,op,ty,pos,ar,guard⟩:=o;cases op <;> simp only [Ge] at hc
 case move x =>
  simp only [Vu] at hc; obtain ⟨s,hs,rfl⟩:=hc;cases hp; exact ⟨_,rfl,aO hT hs⟩
 case assign x =>
  simp only [Vu] at hc; obtain ⟨s,hs,rfl⟩:=hc;cases hp; exact ⟨_,rfl,aO hT hs⟩
 case pick c x y =>
  simp only [Vj,Vf] at hc;obtain ⟨sc,aI,B,j,sy,I,hc⟩:=hc; cases hc;simp only [aN] at hp;split at hp
  ·rename_i t G;cases hp
   have:=aO hT aI
   rw [G] at this
   generalize ay:a.eval c=cv at this
   cases this;refine ⟨_,Hp rfl ay,?_⟩;cases t
   ·exact aO hT I
   ·exact aO hT j
  ·cases hp
 case nilCheck x =>
  simp only [Vu] at hc; obtain ⟨s,hs,rfl⟩:=hc;have hx:=aO hT hs;simp only [aN] at hp;split at hp
  ·rename_i e; rw [e] at hx; cases hp; generalize g:a.eval x=q at hx; cases hx; rename_i L hL;exact ⟨_,by simp [execOp,g],.ptr _ _ L hL⟩
  ·rename_i e; rw [e] at hx; cases hp; generalize g:a.eval x=q at hx;cases hx with
   | dp _ _ blk off arr ty fr O Q X R=>exact ⟨_,by simp [execOp,g],.dp _ _ blk off arr ty fr O Q X R⟩
  ·rename_i e; rw [e] at hx; cases hp; generalize g:a.eval x=q at hx;cases hx with
   | fn _ _ _ us vs h1 h2 h3 S=>exact ⟨_,by simp [execOp,g],.fn _ _ _ us vs h1 h2 h3 S⟩
  ·rename_i e; rw [e] at hx; cases hp; generalize g:a.eval x=q at hx; cases hx; rename_i L hL;exact ⟨_,by simp [execOp,g],.loopv _ L hL⟩
  ·cases hp
 case unOp op t x =>
  simp only [Vj,Vf] at hc;obtain ⟨s,hs,hc⟩:=hc; cases hc;obtain ⟨u,p,hr⟩:=Kk (P:=P) (aO hT hs) hp;exact ⟨u,cN p,hr⟩
 case extract x i =>
  simp only [Vj,Vf] at hc;obtain ⟨s,hs,hc⟩:=hc; cases hc;have hx:=aO hT hs;simp only [aN] at hp;split at hp
  ·rename_i e; rw [e] at hx; generalize g:a.eval x=q at hx;cases hx with
   | tup cs vs h1 h2 =>
    obtain ⟨u,p,hr⟩:=(LR.of_agg h1 h2).get hp;have aL:vs[i]? = some u:=by simpa using p
    exact ⟨u,by simp [execOp,g,Instr.extract,aL],hr⟩
  ·cases hp
 case makeFunc f first cap =>
  simp only [Vj,Vf] at hc;obtain ⟨W,az,cs,V,hc⟩:=hc; cases hc;cases hp;have h1:=ph hT az;have h2:=ph hT V;refine ⟨.func f (first.map a.eval) (cap.map a.eval),by simp [execOp,Instr.makeFunc],?_⟩;have e1:LR μ F w (W.map (Src.ev T)) (first.map a.eval).toList:=by simpa using h1
  have e2:LR μ F w (cs.map (Src.ev T)) (cap.map a.eval).toList:=by simpa using h2
  exact .fn _ _ _ _ _ (gJ e1).1 (gJ e1).2 (gJ e2).1 (gJ e2).2
 case build t parts =>
  simp only [Vj,Vf] at hc;obtain ⟨z,hz,d,hd,hc⟩:=hc;obtain ⟨zv,aa,ap⟩:=qA hz w;split at hc
  ·rename_i W;simp only [Vf] at hc;obtain ⟨pl,aF,ps,af,hc⟩:=hc;cases hc;simp only [aN,Vj,Vf] at hp;obtain ⟨cs,V,hp⟩:=hp;cases hp;obtain ⟨vs,J,hr⟩:=DW hT (pl[·]?) parts.toList ps z zv.cells cs af (ap μ F w) V;refine ⟨.agg vs,cN ?_,.agg _ _ (gJ hr).1 (gJ hr).2⟩;simp only [Instr.build,Sem.run_bind,aa,Result.andThen_ok,run_underlying hd,ww aF,pT]
   have:(fun x:Nat=>pl.toArray[x]?)=(fun x:Nat=>pl[x]?):=by funext x; simp
   rw [this,J];rfl
  ·rename_i m e;simp only [Vf] at hc;obtain ⟨n,hn,ps,af,hc⟩:=hc;cases hc;simp only [aN,Vj,Vf] at hp;obtain ⟨cs,V,hp⟩:=hp;cases hp;obtain ⟨vs,J,hr⟩:=DW hT (fun i=>some (i*n,n)) parts.toList ps z zv.cells cs af (ap μ F w) V;refine ⟨.agg vs,cN ?_,.agg _ _ (gJ hr).1 (gJ hr).2⟩;simp only [Instr.build,Sem.run_bind,aa,Result.andThen_ok,run_underlying hd,cq hn,pT];rw [J];rfl
  ·cases hc
 case binOp op t x y yt =>
  split at hc
  ·rename_i Z;split at hc
   all_goals first | (cases hc; done) | skip
   all_goals
    simp only [Vj,Vf] at hc;obtain ⟨B,j,sy,I,hc⟩:=hc; cases hc;have hx:=aO hT j;have hy:=aO hT I;simp only [aN] at hp;split at hp
    ·rename_i as bs e1 e2;rw [e1] at hx; rw [e2] at hy;simp only [Vu] at hp;obtain ⟨r,hr,rfl⟩:=hp
     generalize ai:a.eval x=q at hx
     generalize ak:a.eval y=vy at hy
     cases hx with
     | agg _ us h1 h2 =>
     cases hy with
     | agg _ vs h3 S =>
     have:=FN Z (LR.of_agg h1 h2) (LR.of_agg h3 S) hr x y
     refine ⟨.bool _,cN (by rw [ai,ak]; first | exact this.1 | exact this.2),.bool _⟩
    ·cases hp
  ·split at hc
   ·rename_i Z;split at hc
    all_goals first | (cases hc; done) | skip
    all_goals
     simp only [Vj,Vf] at hc;obtain ⟨B,j,sy,I,hc⟩:=hc; cases hc;have hx:=aO hT j;have hy:=aO hT I;simp only [aN] at hp;split at hp
     ·rename_i as bs e1 e2;rw [e1] at hx; rw [e2] at hy;simp only [Vu] at hp;obtain ⟨r,hr,rfl⟩:=hp
      generalize ai:a.eval x=q at hx
      generalize ak:a.eval y=vy at hy
      have aG:rj (iF P t) as bs=some r:=by
       obtain ⟨n,hn⟩:=Nat.exists_eq_succ_of_ne_zero Z;rw [hn] at hr ⊢;exact hr
      cases hx with
      | agg _ us h1 h2 =>
      cases hy with
      | agg _ vs h3 S =>
      have:=AE Z (LR.of_agg h1 h2) (LR.of_agg h3 S) aG x y
      refine ⟨.bool _,cN (by rw [ai,ak]; first | exact this.1 | exact this.2),.bool _⟩
     ·cases hp
   split at hc
   ·rename_i ad;split at hc
    ·rename_i ax;simp only [Vj,Vf] at hc;obtain ⟨B,j,sy,I,hc⟩:=hc; cases hc;obtain ⟨ms,aC⟩:∃ ms,P.underlying t=some (.interface ms):=by
      unfold Q4 at ad;split at ad
      ·exact ⟨_,by assumption⟩
      ·cases ad
     obtain ⟨u,p,hr⟩:=Li aC (aO hT j) (aO hT I) hp ax;exact ⟨u,cN p,hr⟩
    ·cases hc
   simp only [Vj,Vf] at hc;obtain ⟨kd,aA,B,j,sy,I,hc⟩:=hc; cases hc;obtain ⟨u,p,hr⟩:=Is aA (aO hT j) (aO hT I) hp x y;exact ⟨u,cN p,hr⟩
 case convert s d x =>
  simp only [Vj,Vf] at hc;obtain ⟨ds,aP,dd,am,hc⟩:=hc;split at hc
  ·simp only [Vf] at hc;obtain ⟨B,j,hc⟩:=hc; cases hc;have hx:=aO hT j;simp only [aN] at hp;split at hp
   ·rename_i e; rw [e] at hx; cases hp
    generalize g:a.eval x=q at hx
    cases hx;exact ⟨_,cN (by rw [g]; simp [convert,run_underlying aP,run_underlying am,Conv.intToInt]),.int _ _⟩
   ·cases hp
  ·simp only [Vf] at hc;obtain ⟨B,j,hc⟩:=hc; cases hc;have hx:=aO hT j;simp only [aN] at hp;split at hp
   ·rename_i e; rw [e] at hx; cases hp
    generalize g:a.eval x=q at hx
    cases hx;exact ⟨_,cN (by rw [g]; simp [convert,run_underlying aP,run_underlying am]),.str _⟩
   ·cases hp
  ·simp only [Vf] at hc;obtain ⟨e,he,hc⟩:=hc;split at hc
   ·simp only [Vf] at hc;obtain ⟨B,j,hc⟩:=hc; cases hc; cases hp
   ·cases hc
  ·simp only [Vf] at hc;obtain ⟨e,he,hc⟩:=hc;split at hc
   ·simp only [Vf] at hc;obtain ⟨n,hn,hc⟩:=hc;split at hc
    ·simp only [Vf] at hc;obtain ⟨B,j,hc⟩:=hc; cases hc; cases hp
    ·cases hc
   ·cases hc
  ·cases hc
 case makeInterface t x =>
  simp only [Vj,Vf] at hc;obtain ⟨d,hd,hc⟩:=hc;split at hc
  ·cases hc
  ·rename_i hn;simp only [Vf] at hc;obtain ⟨B,j,hc⟩:=hc; cases hc;have hx:=aO hT j;simp only [aN] at hp;split at hp
   ·cases hp
   ·cases hp;refine ⟨.iface t (a.eval x),cN ?_,.ifc _ _ _ hx⟩;simp only [Instr.makeInterface,Sem.run_bind,run_underlying hd,Result.andThen_ok];cases d <;> first | rfl | (exact absurd rfl (hn _))
 case slice t x lo hi mx =>
  simp only [Vj,Vf] at hc;obtain ⟨d,hd,hc⟩:=hc;split at hc
  ·simp only [Vf] at hc;obtain ⟨n,hn,B,j,sl,ah,sh,ag,sm,aJ,hc⟩:=hc; cases hc;simp only [aN] at hp;split at hp
   ·cases hp
   ·rename_i aK;obtain ⟨u,p,hr⟩:=De hd hn (aO hT j) aK (uJ hT ah) (uJ hT ag) (uJ hT aJ) hp;exact ⟨u,cN p,hr⟩
  ·split at hc
   ·cases hc
   ·rename_i aD;simp only [Vf] at hc;obtain ⟨B,j,sl,ah,sh,ag,hc⟩:=hc; cases hc;have hx:=aO hT j;simp only [aN] at hp;split at hp
    ·rename_i s e;rw [e] at hx
     generalize g:a.eval x=q at hx
     cases hx;have hm:mx=none:=by simpa using aD
     subst hm;obtain ⟨u,p,hr⟩:=zu (mx:=none) (vmx:=none) hd (uJ hT ah) (uJ hT ag) (show OR μ F w none none from trivial) hp;exact ⟨u,cN (by rw [g]; exact p),hr⟩
    ·cases hp
  ·cases hc
 case fieldAddr t x i =>
  simp only [Vj,Vf] at hc;obtain ⟨d,hd,hc⟩:=hc;split at hc
  ·rename_i W;simp only [Vf] at hc;obtain ⟨f,hf,n,hn,hc⟩:=hc;split at hc
   ·cases hc
   ·rename_i aE;simp only [Vf] at hc;obtain ⟨B,j,hc⟩:=hc; cases hc;have hx:=aO hT j;have A:∀ b o,(Instr.fieldAt t (.pointer (some ⟨b,o,none⟩)) i).run P w=.ok (.pointer (some ⟨b,o+f.offset,none⟩)) w:=by
     intro b o;simp [Instr.fieldAt,run_underlying hd,hf,Instr.sureAddr,fieldPlace,cq hn,aE,ju]
    simp only [aN] at hp;split at hp
    ·rename_i b o e; rw [e] at hx; cases hp; generalize g:a.eval x=q at hx; cases hx; rename_i L hL;exact ⟨_,cN (by rw [g]; exact A _ _),.ptr _ _ L hL⟩
    ·rename_i cs o e; rw [e] at hx; cases hp; generalize g:a.eval x=q at hx;cases hx with
     | dp _ _ blk off arr ty fr O Q X R =>
      refine ⟨_,cN (by rw [g]; exact A _ _),?_⟩;rw [Wx];exact .dp _ _ blk off arr ty fr O Q X R
    ·cases hp
  ·cases hc
 case field t x i =>
  simp only [Vj,Vf] at hc;obtain ⟨d,hd,hc⟩:=hc;split at hc
  ·rename_i W;simp only [Vf] at hc;obtain ⟨f,hf,k,E,B,j,hc⟩:=hc; cases hc;have hx:=aO hT j;simp only [aN] at hp;split at hp
   ·rename_i cs e; rw [e] at hx; generalize g:a.eval x=q at hx;cases hx with
    | agg _ vs h1 h2 =>
     obtain ⟨u,p,hr⟩:=xI E (LR.of_agg h1 h2) hp;exact ⟨u,cN (by rw [g]; simp [Instr.field,run_underlying hd,hf,asAgg,p]),hr⟩
   ·cases hp
  ·cases hc
 case indexAddr t x i =>
  simp only [Vj,Vf] at hc;obtain ⟨d,hd,hc⟩:=hc;split at hc
  ·rename_i e;simp only [Vf] at hc;obtain ⟨n,hn,B,j,si,M,hc⟩:=hc; cases hc;have hx:=aO hT j;have hi:=aO hT M;simp only [aN,Vj,Vf] at hp;obtain ⟨K,U,hp⟩:=hp;obtain ⟨k,E⟩:=gt U hi;have A:∀ b o len cap,K<len->(Instr.indexAt t (.slice (some ⟨b,o,none⟩) len cap) (.int k (K:Int))).run P w=.ok (.pointer (some ⟨b,o+K*n,none⟩)) w:=by
    intro b o len cap hlt;simp [Instr.indexAt,asIntOf,run_underlying hd,cq hn,ju,hlt]
   split at hp
   ·rename_i b off m c sz ex e'; rw [e'] at hx; generalize g:a.eval x=q at hx;split at hp
    ·rename_i hlt;cases hp;cases hx with
     | own _ _ _ _ _ _ L cap h1 h2 h3 S h5 h6 =>
      exact ⟨_,cN (by rw [g,E]; exact A _ _ _ _ hlt.1),.ptr _ _ L h1⟩
    ·cases hp
   ·rename_i cs m e'; rw [e'] at hx; generalize g:a.eval x=q at hx;split at hp
    ·rename_i hlt;cases hp;cases hx with
     | sl0=>omega
     | sl _ _ _ blk off arr ty fr O Q X R g5 =>
      exact ⟨_,cN (by rw [g,E]; exact A _ _ _ _ hlt),.dp _ _ blk off arr ty fr O Q R g5⟩
    ·cases hp
   ·cases hp
  ·rename_i len e;split at hc
   ·simp only [Vf] at hc;obtain ⟨n,hn,si,M,hc⟩:=hc; cases hc; cases hp
   ·simp only [Vf] at hc;obtain ⟨n,hn,B,j,si,M,hc⟩:=hc; cases hc;have hx:=aO hT j;have hi:=aO hT M;simp only [aN,Vj,Vf] at hp;obtain ⟨K,U,hp⟩:=hp;obtain ⟨k,E⟩:=gt U hi;have A:∀ b o,K<len->(Instr.indexAt t (.pointer (some ⟨b,o,none⟩)) (.int k (K:Int))).run P w=.ok (.pointer (some ⟨b,o+K*n,none⟩)) w:=by
     intro b o hlt;simp [Instr.indexAt,Instr.sureAddr,asIntOf,run_underlying hd,cq hn,ju,hlt]
    split at hp
    ·rename_i b o e'; rw [e'] at hx; generalize g:a.eval x=q at hx;split at hp
     ·rename_i hlt;cases hp;cases hx with
      | ptr _ _ L h1=>exact ⟨_,cN (by rw [g,E]; exact A _ _ hlt),.ptr _ _ L h1⟩
     ·cases hp
    ·rename_i cs o e'; rw [e'] at hx; generalize g:a.eval x=q at hx;split at hp
     ·rename_i hlt;cases hp;cases hx with
      | dp _ _ blk off arr ty fr O Q R g5 =>
       refine ⟨_,cN (by rw [g,E]; exact A _ _ hlt),?_⟩;rw [Wx];exact .dp _ _ blk off arr ty fr O Q R g5
     ·cases hp
    ·cases hp
  ·cases hc
 case index t x i =>
  simp only [Vj,Vf] at hc;obtain ⟨d,hd,hc⟩:=hc;split at hc
  ·rename_i len e;simp only [Vf] at hc;obtain ⟨n,hn,kk,aB,B,j,si,M,hc⟩:=hc; cases hc;have hx:=aO hT j;have hi:=aO hT M;simp only [aN,Vj,Vf] at hp;obtain ⟨K,U,hp⟩:=hp;obtain ⟨k,E⟩:=gt U hi;split at hp
   ·rename_i cs e'; rw [e'] at hx; generalize g:a.eval x=q at hx;split at hp
    ·rename_i hlt;cases hx with
     | agg _ vs h1 h2 =>
      obtain ⟨u,p,hr⟩:=xI aB (LR.of_agg h1 h2) hp;exact ⟨u,cN (by rw [g,E]; simp [Instr.index,asIntOf,run_underlying hd,hlt,cq hn,p]),hr⟩
    ·cases hp
   ·cases hp
  ·simp only [Vf] at hc;obtain ⟨B,j,si,M,hc⟩:=hc; cases hc;have hx:=aO hT j;have hi:=aO hT M;simp only [aN,Vj,Vf] at hp;obtain ⟨K,U,hp⟩:=hp;obtain ⟨k,E⟩:=gt U hi;split at hp
   ·rename_i s e'; rw [e'] at hx; generalize g:a.eval x=q at hx;simp only [Vu] at hp;obtain ⟨b,hb,rfl⟩:=hp;cases hx;exact ⟨_,cN (by rw [g,E]; simp [Instr.index,asIntOf,run_underlying hd,hb]),.int _ _⟩
   ·cases hp
  ·cases hc
 case call c =>
  simp only [Vj,Vf] at hc;obtain ⟨args,hargs,hc⟩:=hc;have hl:=ph hT hargs;obtain ⟨callee,D,argTypes⟩:=c;simp only at hc hl hargs;cases callee with
  | value f =>
   simp only [Vf] at hc;obtain ⟨s,hs,hc⟩:=hc; cases hc; cases hp
  | invoke r m=>cases hc
  | builtin b =>
   have A:∀ (s:Sem Value) (u:Value),s.run P w=.ok u w->(∀ av,builtin b argTypes ty av (D.map a.eval)=(do pure (.value (<- s)))) ->
     (execOp a.eval ⟨dst,.call ⟨.builtin b,D,argTypes⟩,ty,pos,ar,guard⟩).run P w=.ok (.value u) w:=by
    intro s u h1 h2;simp only [execOp,resolve,Sem.run_bind,Sem.run_pure,Result.andThen_ok,invoke];exact (congrArg (fun s=>s.run P w) (h2 _)).trans (cN h1)
   have one:∀ {x:Src},args=[x]->∃ v,D.map a.eval = #[v]/\VR μ F w (x.ev T) v:=by
    intro x hx;subst hx;have h1:=hl.1;simp only [Vq,Vw,VX,Xi,Vp,Yd] at h1;obtain ⟨l⟩:=D
    match l,h1 with
    | [y],_=>exact ⟨a.eval y,by simp,hl.2 0 _ _ rfl rfl⟩
   have ab:∀ {t:TypeId},argTypes.toList=[t]->argTypes = #[t]:=by
    intro t G;obtain ⟨l⟩:=argTypes; simp at G; subst G; rfl
   simp only at hc;split at hc
   ·rename_i x t;obtain ⟨v1,N,C⟩:=one rfl;simp only [Vf] at hc;obtain ⟨d,hd,hc⟩:=hc;split at hc
    ·rename_i e G;have H:=ab (by assumption);cases hc;simp only [aN] at hp;split at hp
     ·rename_i b off n c sz ex e'; rw [e'] at C; cases hp;cases C;exact ⟨_,A _ _ (by rw [N,H]; simp [Builtin.len_,run_underlying hd]; rfl) (fun _=>rfl),.int _ _⟩
     ·rename_i b off e'; rw [e'] at C; cases hp;cases C
      ·exact ⟨_,A _ _ (by rw [N,H]; simp [Builtin.len_,run_underlying hd]; rfl) (fun _=>rfl),.int _ _⟩
      ·exact ⟨_,A _ _ (by rw [N,H]; simp [Builtin.len_,run_underlying hd]; rfl) (fun _=>rfl),.int _ _⟩
     ·rename_i e'; rw [e'] at C; cases hp;cases C;exact ⟨_,A _ _ (by rw [N,H]; simp [Builtin.len_,run_underlying hd]; rfl) (fun _=>rfl),.int _ _⟩
     ·cases hp
    ·rename_i G;have H:=ab (by assumption);cases hc;simp only [aN] at hp;split at hp
     ·rename_i s e'; rw [e'] at C; cases hp;cases C;exact ⟨_,A _ _ (by rw [N,H]; simp [Builtin.len_,run_underlying hd]; rfl) (fun _=>rfl),.int _ _⟩
     ·cases hp
    ·cases hc; cases hp
    ·cases hc
   ·rename_i x t;obtain ⟨v1,N,C⟩:=one rfl;simp only [Vf] at hc;obtain ⟨d,hd,hc⟩:=hc;split at hc
    ·rename_i e G;have H:=ab (by assumption);cases hc;simp only [aN] at hp;split at hp
     ·rename_i b off n c sz e'; rw [e'] at C; cases hp;cases C with
      | own _ _ _ _ _ _ L cap h1 h2 h3 S h5 h6 =>
      have:=h5 rfl
      subst this;exact ⟨_,A _ _ (by rw [N,H]; simp [Builtin.cap_,run_underlying hd]; rfl) (fun _=>rfl),.int _ _⟩
     ·rename_i e'; rw [e'] at C; cases hp;cases C;exact ⟨_,A _ _ (by rw [N,H]; simp [Builtin.cap_,run_underlying hd]; rfl) (fun _=>rfl),.int _ _⟩
     ·cases hp
    ·cases hc
   ·cases hc;simp only [aN] at hp;rw [show D.toList.map a.eval=(D.map a.eval).toList by simp] at hl;split at hp
    ·rename_i k m rest e';rw [e'] at hl;obtain ⟨l,J⟩:∃ l,(D.map a.eval).toList=l:=⟨_,rfl⟩
     rw [J] at hl;cases l with
     | nil=>have:=hl.1; simp at this
     | cons v vs =>
      have h0:=hl.head;cases h0;obtain ⟨u,p,hr⟩:=Fl (P:=P) k rest vs m _ hl.tail hp;exact ⟨u,A (Builtin.min_ argTypes ty (D.map a.eval)) u (by unfold Builtin.min_; rw [J]; exact p) (fun _=>rfl),hr⟩
    ·cases hp
   ·cases hc;simp only [aN] at hp;rw [show D.toList.map a.eval=(D.map a.eval).toList by simp] at hl;split at hp
    ·rename_i k m rest e';rw [e'] at hl;obtain ⟨l,J⟩:∃ l,(D.map a.eval).toList=l:=⟨_,rfl⟩
     rw [J] at hl;cases l with
     | nil=>have:=hl.1; simp at this
     | cons v vs =>
      have h0:=hl.head;cases h0;obtain ⟨u,p,hr⟩:=Fm (P:=P) k rest vs m _ hl.tail hp;exact ⟨u,A (Builtin.max_ argTypes ty (D.map a.eval)) u (by unfold Builtin.max_; rw [J]; exact p) (fun _=>rfl),hr⟩
    ·cases hp
   all_goals (try simp only [Vf] at hc)
   all_goals (repeat' (first | (cases hc; done) | (obtain ⟨_,_,hc⟩:=hc) | (simp only [Vf] at hc) | (split at hc)))
   all_goals first | (cases hp; done) | (cases hc; cases hp; done)
 case typeAssert x xt t ok =>
  simp only [Vj,Vf] at hc;obtain ⟨d,hd,hc⟩:=hc;split at hc
  ·cases hc
  ·rename_i Y;simp only [Vf] at hc;obtain ⟨zv,aa,z,hz,B,j,hc⟩:=hc;cases hc;have hx:=aO hT j;obtain ⟨i,hi,aM⟩:=aa;have aq:(zeroValue t).run P w=.ok zv w:=by simp [zeroValue,typeInfo,hi,aM]
   have p:=run_underlying (P:=P) hd;simp only [aN] at hp;have al:∀ {x:AV} {u:Value} {b:Bool},VR μ F w x u->VR μ F w (.tup [x,.bool b]) (.tuple #[u,.bool b]):=fun {x u b} h=>by
    refine .tup _ _ rfl fun i c v hc g=>?_
    have:i=0\/i=1\/2<=i:=by omega
    rcases this with rfl | rfl | h2
    ·simp at hc g; subst hc; subst g; exact h
    ·simp at hc g; subst hc; subst g; exact .bool _
    ·rw [VS (by simpa using h2)] at hc; cases hc
   split at hp
   ·rename_i t' y e; rw [e] at hx; generalize g:a.eval x=q at hx;cases hx with
    | ifc _ _ u hy =>
    split at hp
    ·rename_i G;cases hp;subst G;cases ok
     ·refine ⟨_,cN (?_:(Instr.typeAssert (a.eval x) xt t' false).run P w=.ok u w),hy⟩;rw [g]; unfold Instr.typeAssert;cases d <;> first | exact absurd rfl (Y _) | simp [p]
     ·refine ⟨_,cN (?_:(Instr.typeAssert (a.eval x) xt t' true).run P w=.ok (.tuple #[u,.bool true]) w),al hy⟩;rw [g]; unfold Instr.typeAssert;cases d <;> first | exact absurd rfl (Y _) | simp [p]
    ·rename_i G;split at hp
     ·rename_i ae;cases hp;subst ae;refine ⟨_,cN (?_:(Instr.typeAssert (a.eval x) xt t true).run P w=.ok (.tuple #[zv,.bool false]) w),al (pL hz)⟩;rw [g]; unfold Instr.typeAssert;cases d <;> first | exact absurd rfl (Y _) | simp [p,G,aq]
     ·cases hp
   ·rename_i e; rw [e] at hx; generalize g:a.eval x=q at hx;cases hx;split at hp
    ·rename_i ae;cases hp;subst ae;refine ⟨_,cN (?_:(Instr.typeAssert (a.eval x) xt t true).run P w=.ok (.tuple #[zv,.bool false]) w),al (pL hz)⟩;rw [g]; unfold Instr.typeAssert;cases d <;> first | exact absurd rfl (Y _) | simp [p,aq]
    ·cases hp
   ·cases hp
 case load t x =>
  split at hc
  ·simp only [Vj,Vf] at hc;obtain ⟨_,_,hc⟩:=hc;cases hc; cases hp
  ·simp only [Vj,Vf] at hc;obtain ⟨_,_,_,_,hc⟩:=hc;cases hc; cases hp
 case next x sb =>
  split at hc
  ·simp only [Vu] at hc;obtain ⟨_,_,hc⟩:=hc;cases hc; cases hp
  ·cases hc
 all_goals (try simp only [Vj,Vf,Vu] at hc)
 all_goals (repeat' (first | (cases hc; done) | (obtain ⟨_,_,hc⟩:=hc) | (simp only [Vf] at hc) | (split at hc)))
 all_goals first | (cases hp; done) | (cases hc; cases hp; done)
end
end Go.Proofs.YtkmepoeklibegaaGreat.Ev
