/- Names. -/
import Init
import Derived.WalkKit
import Derived.RangeFuncIn
import GoSem.Core.Utf8
import Derived.Laws.CopyRow
import Derived.Laws.Cells
import Derived.Laws.Entries
import Derived.Laws.Sem
import Derived.Laws.Small
import Derived.Laws.StructEq
import Derived.Laws.Cover3
set_option linter.all false
namespace Go.Proofs.YteaefaohjlmjdaaGreat
def zO {P:Prop} (h:P:=by omega):P:=h
def zS {P:Prop} (h:P:=by simp; omega):P:=h
def U3:=@Option.bind_eq_some_iff
def U4:=@List.length_set
def U5:=@List.getD_eq_getElem?_getD
def U6:=@And.intro
def U7:=@List.getElem?_eq_getElem
def U8:=@Option.bind_eq_bind
def U9:=@List.getElem_mem
def Va:=@List.mem_map
def Vb:=@Nat.le_refl
def Vc:=@List.length_map
def Vd:=@List.mem_cons_of_mem
def Ve:=@List.map_cons
def Vf:=@Option.map_eq_some_iff
def Vg:=@List.cons.injEq
def Vh:=@List.mem_cons_self
def Vi:=@List.take_succ_eq_append_getElem
def Vj:=@Nat.zero_le
def Vk:=@List.map_nil
def Vl:=@Nat.mul_le_mul_right
def Vm:=@List.getElem?_eq_some_iff
def Vn:=@Nat.le_trans
def Vo:=@List.mem_of_getElem?
def Vp:=@List.mem_filter
def Vq:=@Nat.lt_of_lt_of_le
def Vr:=@List.length_append
def Vt:=@Nat.mul_comm
def Vu:=@List.mem_append
def Vv:=@List.getElem?_take
def Vw:=@List.getElem?_drop
def Vx:=@Nat.pow_le_pow_right
def Vy:=@List.all_eq_true
def Vz:=@Nat.div_lt_iff_lt_mul
def VA:=@List.mem_cons
def VB:=@Int.mul_eq_zero
def VC:=@List.length_take
def VD:=@List.take_length
def VE:=@List.getElem?_append_left
def VF:=@List.take_of_length_le
def VG:=@Bool.and_eq_true
def VH:=@Nat.le_add_right
def VI:=@List.getElem?_eq_none
def VJ:=@Nat.pow_succ
def VK:=@Nat.pow_pos
def VL:=@Option.some.injEq
def VM:=@List.mem_of_mem_eraseIdx
def VN:=@List.getElem?_of_mem
def VO:=@List.any_eq_true
def VP:=@Classical.byContradiction
def VQ:=@Nat.zero_add
def VS:=@Int.mul_nonneg
def VT:=@List.length_cons
def VU:=@Nat.mul_assoc
def VV:=@Nat.mod_eq_of_lt
def VW:=@List.map_append
def VX:=@List.pairwise_iff_getElem
def VY:=@List.getElem?_append_right
def VZ:=@Nat.pow_add
def V2:=@List.findIdx?_eq_some_iff_getElem
def V3:=@Bool.false_eq_true
def V4:=@Nat.mod_lt
def V5:=@List.getElem?_map
def V6:=@List.eq_nil_of_length_eq_zero
def V7:=@List.mem_singleton
def V8:=@Bool.not_eq_true'
def V9:=@List.getElem?_replicate
def Wa:=@Nat.mul_add
def Wb:=@Nat.add_assoc
def Wc:=@Array.getElem?_eq_some_iff
def Wd:=@Nat.lt_of_le_of_lt
def We:=@Nat.div_div_eq_div_mul
def Wg:=@List.getElem_of_mem
def Wh:=@Nat.add_mul
def Wi:=@Nat.min_eq_left
def Wj:=@Nat.div_add_mod
def Wk:=@List.length_eq_zero_iff
def Wl:=@Array.getElem?_eq_getElem
def Wm:=@List.mem_range
def Wn:=@List.length_filter_le
def Wo:=@List.filter_append
def Wp:=@Array.getElem?_append_left
def Wq:=@Nat.mul_le_mul
def Wt:=@List.any_eq_false
def Wu:=@List.length_drop
def Wv:=@List.getElem?_cons_zero
def Ww:=@Option.bind_some
def Wx:=@List.pairwise_map
def Wy:=@List.append_nil
def Wz:=@Bool.eq_iff_iff
def WA:=@List.replicate_succ
def WE:=@Nat.mul_one
def WF:=@List.mem_append_left
def WG:=@List.getElem?_toArray
def WH:=@List.getElem?_cons_succ
def WI:=@List.getD_cons_succ
def WJ:=@Option.getD_some
def WK:=@List.mapM_cons
def WL:=@Nat.add_zero
def WM:=@List.ext_getElem?
def WN:=@Int.mul_pos
def WO:=@List.mem_append_right
def WP:=@Nat.succ_mul
def WQ:=@List.foldl_cons
def WR:=@Bool.or_eq_false_iff
def WS:=@Option.map_some
def WT:=@Bool.or_eq_true
def WU:=@Option.getD_none
def WV:=@List.map_congr_left
def WW:=@List.mem_map_of_mem
def WX:=@Nat.pow_le_pow_left
def WY:=@List.contains_iff_mem
def WZ:=@List.append_assoc
def W0:=@Nat.le_of_lt
def W2:=@List.pairwise_cons
def W3:=@Option.map_none
def W4:=@List.ext_getElem
def W5:=@Int.le_of_lt
def W6:=@Nat.div_eq_of_lt
def W7:=@Int.nonneg_of_mul_nonneg_right
def W8:=@Int.toNat_natCast
def W9:=@List.getElem?_set
def Xa:=@Array.getElem?_modify
def Xb:=@List.eq_nil_or_concat
def Xc:=@List.concat_eq_append
def Xd:=@Nat.eq_zero_or_pos
def Xe:=@Nat.add_sub_cancel
def Xf:=@List.cons_append
def Xg:=@List.filter_cons
def Xh:=@List.mem_of_mem_take
def Xi:=@Int.le_refl
def Xj:=@Nat.mul_lt_mul_of_pos_right
def Xk:=@Array.size_append
def Xl:=@List.map_map
def Xm:=@Nat.eq_of_mul_eq_mul_right
def Xn:=@List.take_take
def Xo:=@Nat.mul_le_mul_left
def Xp:=@Option.pure_def
def Xq:=@List.length_nil
def Xr:=@List.nil_append
def Xs:=@Nat.le_antisymm
def Xt:=@List.eraseIdx_eq_take_drop_succ
def Xu:=@List.mem_or_eq_of_mem_set
def Xv:=@List.findIdx?_eq_none_iff
def Xw:=@Nat.le_of_not_lt
def Xx:=@Int.natAbs_natCast
def Xy:=@List.take_append_of_le_length
def Xz:=@List.pairwise_append
def XA:=@List.getElem?_set_self'
def XB:=@List.size_toArray
def XC:=@List.nodup_cons
def XD:=@Nat.div_le_self
def XE:=@List.countP_eq_length_filter
def XF:=@List.getD_cons_zero
def XG:=@List.length_replicate
def XH:=@List.set_eq_take_append_cons_drop
def XI:=@Nat.add_mul_mod_self_left
def XJ:=@List.getElem?_set_ne
def XK:=@Nat.le_of_eq
def XL:=@Nat.add_comm
def XM:=@Nat.lt_trichotomy
def XN:=@List.mem_of_mem_drop
def XO:=@Nat.le_of_lt_succ
def XP:=@Nat.mul_zero
def XQ:=@Int.natAbs_add_le
def XS:=@List.eq_of_mem_replicate
def XT:=@List.Pairwise.imp_of_mem
def XU:=@Array.length_toList
def XV:=@Array.getElem?_push
def XW:=@List.getElem?_range
def XX:=@Array.eq_empty_of_size_eq_zero
def XY:=@Nat.add_sub_cancel_left
def XZ:=@Int.eq_ofNat_of_zero_le
def X0:=@Int.natAbs_mul
def X5:=@List.getElem_map
def X6:=@List.mem_eraseIdx_iff_getElem?
def X7:=@Nat.one_mul
def X8:=@Array.getElem?_eq_none
def X9:=@List.drop_eq_nil_of_le
def Ya:=@Nat.mul_right_comm
def Yb:=@Nat.pow_zero
def Yc:=@List.filter_nil
def Yd:=@List.sum_cons
def Ye:=@Int.natAbs_dvd_natAbs
def Yf:=@List.flatten_cons
def Yg:=@List.foldl_append
def Yh:=@Array.toList_setIfInBounds
def Yi:=@List.Pairwise.filter
def Yj:=@Int.natAbs_neg
def Yk:=@Int.tdiv_eq_ediv_of_nonneg
def Yl:=@Nat.pow_lt_pow_right
def Ym:=@Nat.pow_mul
def Yn:=@Nat.le_sub_one_of_lt
def Yo:=@Nat.lt_succ_self
def Yp:=@Nat.div_add_mod'
def Yq:=@Bool.not_true
def Yr:=@Option.isSome_iff_exists
def Ys:=@Int.ofNat_dvd_left
def Yt:=@List.filter_cons_of_pos
def Yu:=@List.filter_cons_of_neg
def Yv:=@Nat.le_mul_of_pos_right
def Yw:=@Nat.zero_mul
def Yx:=@Array.toList_push
def Yy:=@List.map_set
def Yz:=@List.pairwise_lt_range
def YA:=@List.filter_congr
def YB:=@Nat.mul_left_comm
def YC:=@Classical.not_not
def YD:=@List.getElem_cons_zero
def YE:=@List.length_eq_countP_add_countP
def YF:=@List.flatMap_cons
def YG:=@Nat.le_of_ble_eq_true
def YH:=@Array.getElem?_toList
def YI:=@List.length_mergeSort
def YJ:=@Nat.le_div_iff_mul_le
def YK:=@Nat.mul_div_mul_right
def YL:=@Nat.add_mul_div_right
def YM:=@List.foldlM_cons
def YN:=@Nat.min_eq_right
def YO:=@Bool.not_eq_true
def YP:=@Int.mul_le_mul_of_nonneg_right
def YQ:=@Bool.false_or
def YR:=@Iff.rfl
def YS:=@List.range_eq_range'
def YT:=@Int.neg_mul
def YU:=@List.map_id
def YV:=@Classical.not_forall
def YW:=@Int.mul_le_mul_of_nonneg_left
def YX:=@Nat.div_le_div_right
def YY:=@List.prefix_rfl
def YZ:=@Nat.div_lt_self
def Y0:=@Nat.mod_add_div
def Y1:=@Nat.add_lt_add_left
def Y2:=@List.flatMap_append
def Y3:=@Nat.sub_self
def Y4:=@Nat.lt_or_ge
def Y5:=@Nat.lt_trans
def Y6:=@Int.mul_zero
def Y7:=@Nat.mod_two_eq_zero_or_one
def Y8:=@List.take_zero
def Y9:=@Bool.not_false
def Za:=@Array.ext_getElem?
def Zb:=@List.prefix_append
def Zc:=@Nat.le_of_mul_le_mul_right
def Zd:=@Int.fdiv_eq_ediv_of_nonneg
def Ze:=@Option.toList_some
def Zf:=@Int.tmod_eq_emod_of_nonneg
def Zg:=@Int.ofNat_tdiv
def Zh:=@List.perm_ext_iff_of_nodup
def Zi:=@List.length_eraseIdx_of_lt
def Zj:=@Nat.sub_add_cancel
def Zk:=@List.getLastD_cons
def Zl:=@List.take_succ
def Zm:=@Array.mapM_eq_mapM_toList
def Zn:=@Nat.eq_of_mul_eq_mul_left
def Zo:=@Int.eq_of_mul_eq_mul_left
def Zp:=@List.getElem_append_right
def Zq:=@Nat.mul_pos
def Zr:=@Nat.or_lt_two_pow
def Zs:=@List.mem_range'_1
def Zt:=@List.getLastD_nil
def Zu:=@List.mapM_nil
def Zv:=@List.filterMap_cons_none
def Zw:=@List.filterMap_cons_some
def Zx:=@List.Perm.eq_of_pairwise
def Zy:=@Bool.or_false
def Zz:=@List.getElem_append_left
def ZA:=@Nat.mul_lt_mul''
def ZB:=@List.mem_flatMap
def ZC:=@Array.getElem?_extract
def ZD:=@Nat.sub_zero
def ZE:=@Int.zero_mul
def ZF:=@List.range_succ_eq_map
def ZG:=@Bool.or_true
def ZH:=@List.filter_eq_nil_iff
def ZI:=@List.range_succ
def ZJ:=@List.take_append_drop
def ZK:=@Nat.mul_mod_mul_right
def ZL:=@Bool.and_eq_false_iff
def ZM:=@List.mem_iff_getElem
def ZN:=@List.length_finRange
def ZO:=@Int.ofNat_eq_natCast
def ZP:=@Nat.div_lt_of_lt_mul
def ZQ:=@Bool.false_and
def ZR:=@Nat.mul_mod_mul_left
def ZS:=@Nat.div_one
def ZT:=@Nat.add_mul_div_left
def ZU:=@Int.mul_ediv_cancel'
def ZV:=@Int.mul_dvd_mul_left
def ZW:=@Nat.min_def
def ZX:=@Array.toList_append
def ZY:=@Nat.add_le_add_left
def ZZ:=@List.take_succ_cons
def Z0:=@List.length_pos_iff
def Z1:=@Int.toNat_of_nonneg
def Z2:=@Nat.div_mul_le_self
def Z3:=@List.mergeSort_perm
def Z4:=@List.filter_eq_self
def Z5:=@Bool.true_and
def Z6:=@Array.foldl_toList
def Z7:=@Array.ext'
def Z8:=@List.set_cons_succ
def Z9:=@Nat.mul_div_cancel
end Go.Proofs.YteaefaohjlmjdaaGreat
namespace Go.Proofs.YteaefaohjlmjdaaGreat.Ev
open Go
inductive AV where
 | undef
 | bool (b:Bool)
 | int (k:IntKind) (n:Int)
 | str (s:ByteArray)
 | nilPtr | nilSl | nilFn | nilIf | nilMap
 | agg (cs:List AV)
 | tup (vs:List AV)
 | sl (cells:List AV) (n:Nat)
 | dp (cells:List AV) (off:Nat)
 | own (b off n c sz:Nat) (ex:Bool)
 | ptr (b off:Nat)
 | fn (f:Fn) (first captured:List AV)
 | ifc (t:Nat) (v:AV)
 | map (b:Nat)
 | loopv (b:Nat)
 deriving Inhabited
inductive Src where
 | t (n:Nat)
 | c (v:AV)
 deriving Inhabited
inductive BK where
 | int | bool | str | sl | ifc
 deriving Inhabited
inductive AOp where
 | mv (x:Src)
 | pick (c a b:Src)
 | alloc (ty:Nat) (zero:List AV)
 | box (ty:Nat) (x:Src)
 | build (zero:List AV) (parts:List ((Nat × Nat) × Src))
 | buildSlice (ty size:Nat) (zeros:List AV) (len:Nat) (parts:List ((Nat × Nat) × Src))
 | load (k:Option Nat) (x:Src)
 | store (n:Nat) (x v:Src)
 | nilCheck (x:Src)
 | bin (op:BinOp) (kd:BK) (x y:Src)
 | eqAgg (neg:Bool) (n:Nat) (x y:Src)
 | un (op:UnOp) (x:Src)
 | conv (k:IntKind) (x:Src)
 | strId (x:Src)
 | iface (ty:Nat) (x:Src)
 | mkfn (fn:Fn) (first captured:List Src)
 | mkmap
 | mksl (ty size bytes:Nat) (zero:List AV) (l c:Src)
 | slice (size:Nat) (x:Src) (lo hi mx:Option Src)
 | sliceStr (x:Src) (lo hi:Option Src)
 | fieldAddr (off:Nat) (x:Src)
 | field (k:Option Nat) (off:Nat) (x:Src)
 | indexAddr (size:Nat) (x i:Src)
 | indexAgg (len size:Nat) (k:Option Nat) (x i:Src)
 | indexStr (x i:Src)
 | lookup (kd:BK) (zero:AV) (x i:Src) (ok:Bool)
 | mapUpd (kd:BK) (m k v:Src)
 | extract (i:Nat) (x:Src)
 | len (x:Src)
 | lenStr (x:Src)
 | lenMap (x:Src)
 | cap (x:Src)
 | min (xs:List Src)
 | max (xs:List Src)
 | append (size bytes ty:Nat) (zero:List AV) (x y:Src)
 | appendZ (size bytes ty:Nat) (zero:List AV) (x y:Src)
 | clear (size:Nat) (zero:List AV) (x:Src)
 | copy (size:Nat) (x y:Src)
 | toStr (x:Src)
 | toBytes (ty:Nat) (x:Src)
 | tassert (t:Nat) (zero:AV) (ok:Bool) (x:Src)
 | indexArr (len size:Nat) (x i:Src)
 | globIdx (cs:List AV) (len size:Nat) (i:Src)
 | globLoad (k:Option Nat) (cs:List AV)
 | rangeS (x:Src)
 | nextS (x:Src)
 | bad
 | call (f:Src) (args:List Src)
 | panic (x:Src)
 deriving Inhabited
structure EP where
 dst:Option Nat
 op:AOp
 guard:Option (Nat × Bool)
 deriving Inhabited
structure jx where
 dst:Option Nat
 op:AOp
 guard:Option (Nat × Bool)
 uses:List (Nat × Option Nat)
 cls:Nat
 looks:List (Nat × List Nat)
 deriving Inhabited
inductive ACode where
 | skip
 | region (ops:List EP)
 | draw (ops:List jx) (late:List Nat)
 | seq (a b:ACode)
 | cond (c:Src) (thn els:ACode)
 | block (id:Nat) (body:ACode)
 | loop (body:ACode)
 | rangeFunc (f:Src) (params:List Nat) (assign body:ACode)
 | exit (id:Nat)
 | goto (l:Nat)
 | ret
 | scope (a:ACode)
 | drawF (ds:List jx) (late:List Nat) (last:jx) (mid:List Nat)
 | rangeM (pre:List EP) (x:Src) (it nx ex bid bid2 en:Nat) (ops:List EP) (rest:ACode) (W:List Nat)
 | scopeL (a:ACode) (l:Nat) (rest:ACode)
 deriving Inhabited
inductive Ent where
 | cells (cs:List AV) (ty:Nat) (rw:Bool)
 | map (es:List (AV × AV))
 | loop (T:List AV) (params:List Nat) (assign body:ACode) (state:LoopState) (pending:Option ACode)
 | siter (s:ByteArray) (pos:Nat)
 | mapR (es:List (AV × AV))
 deriving Inhabited
def Ent.ro:Ent->Option Ent
 | .cells cs ty _=>some (.cells cs ty false)
 | .map es=>some (.mapR es)
 | .mapR es=>some (.mapR es)
 | .loop ..=>none
 | .siter ..=>none
mutual
def AV.beq:AV->AV->Bool
 | .undef,.undef=>true
 | .bool a,.bool b=>a == b
 | .int j a,.int k b=>decide (j=k) && decide (a=b)
 | .str a,.str b=>decide (a=b)
 | .nilPtr,.nilPtr=>true
 | .nilSl,.nilSl=>true
 | .nilFn,.nilFn=>true
 | .nilIf,.nilIf=>true
 | .nilMap,.nilMap=>true
 | .agg a,.agg b=>AV.beqs a b
 | .tup a,.tup b=>AV.beqs a b
 | .sl a n,.sl b m=>AV.beqs a b && n == m
 | .dp a n,.dp b m=>AV.beqs a b && n == m
 | .own a b c d e f,.own a' b' c' d' e' f'=>a == a' && b == b' && c == c' && d == d' && e == e' && f == f'
 | .ptr a b,.ptr a' b'=>a == a' && b == b'
 | .fn f a b,.fn f' a' b'=>decide (f=f') && AV.beqs a a' && AV.beqs b b'
 | .ifc t v,.ifc t' v'=>t == t' && AV.beq v v'
 | .map b,.map b'=>b == b'
 | .loopv b,.loopv b'=>b == b'
 | _,_=>false
def AV.beqs:List AV->List AV->Bool
 | [],[]=>true
 | a :: as,b :: bs=>AV.beq a b && AV.beqs as bs
 | _,_=>false
end
structure Q (α:Type) where
 a:α
 b:α
 c:α
 d:α
 e:α
 f:α
 g:α
 h:α
 deriving Inhabited
inductive D8 where
 | d0 | d1 | d2 | d3 | d4 | d5 | d6 | d7
 deriving DecidableEq
def D8.of (n:Nat):D8 :=
 Bool.casesOn (motive:=fun _=>D8) (Nat.beq (Nat.mod (Nat.div n 4) 2) 1)
  (Bool.casesOn (motive:=fun _=>D8) (Nat.beq (Nat.mod (Nat.div n 2) 2) 1) (Bool.casesOn (motive:=fun _=>D8) (Nat.beq (Nat.mod n 2) 1) .d0 .d1) (Bool.casesOn (motive:=fun _=>D8) (Nat.beq (Nat.mod n 2) 1) .d2 .d3))
  (Bool.casesOn (motive:=fun _=>D8) (Nat.beq (Nat.mod (Nat.div n 2) 2) 1) (Bool.casesOn (motive:=fun _=>D8) (Nat.beq (Nat.mod n 2) 1) .d4 .d5) (Bool.casesOn (motive:=fun _=>D8) (Nat.beq (Nat.mod n 2) 1) .d6 .d7))
def Q.at {α:Type} (d:D8):Q α->α:=D8.casesOn (motive:=fun _=>Q α->α) d Q.a Q.b Q.c Q.d Q.e Q.f Q.g Q.h
def Q.ua {α:Type} (u:α->α) (q:Q α):Q α:=Q.casesOn (motive:=fun _=>Q α) q fun a b c d e f g h=>⟨u a,b,c,d,e,f,g,h⟩
def Q.ub {α:Type} (u:α->α) (q:Q α):Q α:=Q.casesOn (motive:=fun _=>Q α) q fun a b c d e f g h=>⟨a,u b,c,d,e,f,g,h⟩
def Q.uc {α:Type} (u:α->α) (q:Q α):Q α:=Q.casesOn (motive:=fun _=>Q α) q fun a b c d e f g h=>⟨a,b,u c,d,e,f,g,h⟩
def Q.ud {α:Type} (u:α->α) (q:Q α):Q α:=Q.casesOn (motive:=fun _=>Q α) q fun a b c d e f g h=>⟨a,b,c,u d,e,f,g,h⟩
def Q.ue {α:Type} (u:α->α) (q:Q α):Q α:=Q.casesOn (motive:=fun _=>Q α) q fun a b c d e f g h=>⟨a,b,c,d,u e,f,g,h⟩
def Q.uf {α:Type} (u:α->α) (q:Q α):Q α:=Q.casesOn (motive:=fun _=>Q α) q fun a b c d e f g h=>⟨a,b,c,d,e,u f,g,h⟩
def Q.ug {α:Type} (u:α->α) (q:Q α):Q α:=Q.casesOn (motive:=fun _=>Q α) q fun a b c d e f g h=>⟨a,b,c,d,e,f,u g,h⟩
def Q.uh {α:Type} (u:α->α) (q:Q α):Q α:=Q.casesOn (motive:=fun _=>Q α) q fun a b c d e f g h=>⟨a,b,c,d,e,f,g,u h⟩
def Q.up {α:Type} (d:D8):(α->α)->Q α->Q α:=D8.casesOn (motive:=fun _=>(α->α)->Q α->Q α) d Q.ua Q.ub Q.uc Q.ud Q.ue Q.uf Q.ug Q.uh
def Q.all {α:Type} (x:α):Q α:=⟨x,x,x,x,x,x,x,x⟩
structure Tr where
 t:Q (Q (Q (Q (Q (Q (Q (Q (Option Ent))))))))
 big:List (Nat × Option Ent)
 deriving Inhabited
def Tr.nil:Tr:=⟨.all (.all (.all (.all (.all (.all (.all (.all none))))))),[]⟩
def IV:List (Nat × Option Ent)->Nat->Option Ent
 | [],_=>none
 | (k,e) :: l,n=>if n=k then e else IV l n
def Tr.get (T:Tr) (n:Nat):Option Ent :=
 Bool.casesOn (motive:=fun _=>Option Ent) (Nat.ble n 16777215) (IV T.big n)
  (Q.at (D8.of n) (Q.at (D8.of (Nat.div n 8)) (Q.at (D8.of (Nat.div n 64)) (Q.at (D8.of (Nat.div n 512)) (Q.at (D8.of (Nat.div n 4096)) (Q.at (D8.of (Nat.div n 32768)) (Q.at (D8.of (Nat.div n 262144)) (Q.at (D8.of (Nat.div n 2097152)) T.t))))))))
def Tr.set (T:Tr) (n:Nat) (e:Option Ent):Tr :=
 Bool.casesOn (motive:=fun _=>Tr) (Nat.ble n 16777215) ⟨T.t,(n,e) :: T.big⟩
  ⟨Q.up (D8.of (Nat.div n 2097152)) (Q.up (D8.of (Nat.div n 262144)) (Q.up (D8.of (Nat.div n 32768)) (Q.up (D8.of (Nat.div n 4096)) (Q.up (D8.of (Nat.div n 512)) (Q.up (D8.of (Nat.div n 64)) (Q.up (D8.of (Nat.div n 8)) (Q.up (D8.of n) (fun _=>e)))))))) T.t,T.big⟩
structure Heap where
 next:Nat
 tr:Tr
 lim:Nat
 ovr:List (Nat × Option Ent)
 deriving Inhabited
def Mt (o:Option Ent):Option Ent:=Option.casesOn (motive:=fun _=>Option Ent) o none Ent.ro
def ml (d:Option Ent) (b:Nat):List (Nat × Option Ent)->Option Ent
 | []=>d
 | (k,e) :: l=>if b=k then e else ml d b l
def Heap.get (H:Heap) (b:Nat):Option Ent:=Bool.casesOn (motive:=fun _=>Option Ent) (Nat.ble (Nat.succ b) H.lim) (H.tr.get b) (ml (Mt (H.tr.get b)) b H.ovr)
def Heap.setO (H:Heap) (b:Nat) (o:Option Ent):Heap:=⟨H.next,Bool.casesOn (motive:=fun _=>Tr) (Nat.ble (Nat.succ b) H.lim) (H.tr.set b o) H.tr,H.lim,Bool.casesOn (motive:=fun _=>List (Nat × Option Ent)) (Nat.ble (Nat.succ b) H.lim) H.ovr ((b,o) :: H.ovr)⟩
def Heap.put (H:Heap) (b:Nat) (e:Ent):Heap:=H.setO b (some e)
def Heap.kill (H:Heap) (b:Nat):Heap:=H.setO b none
def Heap.nil (n:Nat):Heap:=⟨n,Tr.nil,0,[]⟩
def Heap.ro (H:Heap):Heap:=⟨H.next,H.tr,Nat.max H.next H.lim,(H.ovr.filter fun p=>decide (p.1<H.lim)).map fun p=>(p.1,Mt p.2)⟩
abbrev Tm:=List AV
def ad (T:Tm) (n:Nat):AV:=T.getD n .undef
def Src.ev (T:Tm):Src->AV
 | .t n=>ad T n
 | .c v=>v
def putT (T:Tm) (d:Option Nat) (v:AV):Tm :=
 match d with
 | some d=>T.set d v
 | none=>T
def AV.cells:AV->List AV
 | .agg cs=>cs
 | v=>[v]
def AV.one:AV->Bool
 | .agg _ | .tup _ | .undef=>false
 | _=>true
def cG:List AV->List ((Nat × Nat) × AV)->Option (List AV)
 | cs,[]=>some cs
 | cs,((off,size),v) :: rest =>
  let vc:=v.cells
  if vc.length=size/\off+size<=cs.length/\vc.all AV.one=true then cG (cs.take off++vc++cs.drop (off+size)) rest else none
def qa (v:AV):Option Nat :=
 match v with
 | .int _ (.ofNat n)=>some n
 | _=>none
def aY (cs:List AV) (off:Nat):Option Nat->Option AV
 | none=>cs[off]?
 | some n=>if off+n<=cs.length then some (.agg ((cs.drop off).take n)) else none
def kV (op:BinOp) (k:IntKind) (x y:Int):Option AV :=
 match op with
 | .add=>some (.int k (k.wrap (x+y)))
 | .sub=>some (.int k (k.wrap (x-y)))
 | .mul=>some (.int k (k.wrap (x*y)))
 | .quo=>if y=0 then none else some (.int k (k.wrap (x.tdiv y)))
 | .rem=>if y=0 then none else some (.int k (x.tmod y))
 | .and=>some (.int k (k.wrap (BitVec.ofInt k.bits x &&& BitVec.ofInt k.bits y).toNat))
 | .or=>some (.int k (k.wrap (BitVec.ofInt k.bits x ||| BitVec.ofInt k.bits y).toNat))
 | .xor=>some (.int k (k.wrap (BitVec.ofInt k.bits x ^^^ BitVec.ofInt k.bits y).toNat))
 | .andNot=>some (.int k (k.wrap (BitVec.ofInt k.bits x &&& ~~~ (BitVec.ofInt k.bits y)).toNat))
 | .eql=>some (.bool (x == y))
 | .neq=>some (.bool (x != y))
 | .lss=>some (.bool (decide (x<y)))
 | .leq=>some (.bool (decide (x<=y)))
 | .gtr=>some (.bool (decide (x > y)))
 | .geq=>some (.bool (decide (x ≥ y)))
 | _=>none
def kO (op:BinOp) (k:IntKind) (x y:Int):Option AV :=
 if y<0 then none else
 match op with
 | .shl=>some (.int k (k.wrap (x*2^(Nat.min y.toNat k.bits))))
 | .shr=>some (.int k (x.fdiv (2^(Nat.min y.toNat k.bits))))
 | _=>none
def zk:AV->Option Bool
 | .nilSl=>some true
 | .own ..=>some false
 | .sl ..=>some false
 | _=>none
def Ib:AV->AV->Option Bool
 | .nilIf,.nilIf=>some true
 | .nilIf,.ifc _ _=>some false
 | .ifc _ _,.nilIf=>some false
 | _,_=>none
def bV (op:BinOp) (kd:BK) (x y:AV):Option AV :=
 match kd,x,y with
 | .int,.int k a,.int k' b =>
  match op with
  | .shl=>kO .shl k a b
  | .shr=>kO .shr k a b
  | op=>if k=k' then kV op k a b else none
 | .bool,.bool a,.bool b =>
  match op with
  | .eql=>some (.bool (a == b))
  | .neq=>some (.bool (!(a == b)))
  | _=>none
 | .str,.str a,.str b =>
  match op with
  | .eql=>some (.bool (a.toList == b.toList))
  | .neq=>some (.bool (!(a.toList == b.toList)))
  | .add=>if ((a.size+b.size:Nat):Int) > IntKind.i64.max then none else some (.str (a++b))
  | _=>none
 | .sl,x,.nilSl =>
  match op with
  | .eql=>(zk x).map .bool
  | .neq=>(zk x).map fun b=>.bool !b
  | _=>none
 | .ifc,x,y=>match op with
  | .eql=>(Ib x y).map .bool
  | .neq=>(Ib x y).map fun b=>.bool !b
  | _=>none
 | _,_,_=>none
def F8:List AV->List AV->Option Bool
 | [.bool a,.bool b],[.bool c,.bool d]=>some (a == c && b == d)
 | _,_=>none
def rA:Nat->List AV->List AV->Option Bool
 | 0,[],[]=>some true
 | n+1,.int k a :: as,.int k' b :: bs=>if k=k' then (rA n as bs).map fun r=>a == b && r else none
 | _,_,_=>none
def RX (op:UnOp) (x:AV):Option AV :=
 match op,x with
 | .neg,.int k n=>some (.int k (k.wrap (0-n)))
 | .xor,.int k n=>some (.int k (k.wrap (BitVec.ofInt k.bits (if k.signed then -1 else k.max) ^^^ BitVec.ofInt k.bits n).toNat))
 | .not,.bool b=>some (.bool !b)
 | _,_=>none
def bR (size:Nat) (x:AV) (lo hi mx:Option AV):Option AV :=
 match x with
 | .own b off n c sz ex =>
  if sz≠size then none else
  match mx,hi,lo with
  | some m,some h,lo=>do
   let m <- qa m; let h <- qa h; let l <- (lo.map qa).getD (some 0)
   if m<=c/\h<=m/\l<=h then (if m=l then some (.own b off (h-l) 0 sz true) else some (.own b (off+l*size) (h-l) (m-l) sz true)) else none
  | none,hi,lo=>do
   let h <- (hi.map qa).getD (some n); let l <- (lo.map qa).getD (some 0)
   if h<=c/\l<=h then
    (if l<c\/l=0 then some (.own b (off+l*size) (h-l) (c-l) sz ex) else if ex=true then some (.own b off (h-l) (c-l) sz true) else some (.sl [] 0))
   else none
  | _,_,_=>none
 | .sl cs n =>
  match mx,hi,lo with
  | none,hi,lo=>do
   let h <- (hi.map qa).getD (some n); let l <- (lo.map qa).getD (some 0)
   if h<=n/\l<=h/\h*size<=cs.length then some (.sl ((cs.drop (l*size)).take ((h-l)*size)) (h-l)) else none
  | some m,some h,lo=>do
   let m <- qa m; let h <- qa h; let l <- (lo.map qa).getD (some 0)
   if m<=n/\h<=m/\l<=h/\h*size<=cs.length then some (.sl ((cs.drop (l*size)).take ((h-l)*size)) (h-l)) else none
  | _,_,_=>none
 | .nilSl =>
  match mx,hi with
  | some m,some h=>if qa m=some 0/\qa h=some 0/\(lo.map qa).getD (some 0)=some 0 then some .nilSl else none
  | none,hi=>if (hi.map qa).getD (some 0)=some 0/\(lo.map qa).getD (some 0)=some 0 then some .nilSl else none
  | _,_=>none
 | .str s =>
  match mx with
  | none=>do
   let h <- (hi.map qa).getD (some s.size); let l <- (lo.map qa).getD (some 0)
   if h<=s.size && l<=h then some (.str (s.extract l h)) else none
  | some _=>none
 | _=>none
def Jz:AV->AV->Option AV
 | .int k x,.int _ y=>some (.int k (if y<x then y else x))
 | _,_=>none
def JB:AV->AV->Option AV
 | .int k x,.int _ y=>some (.int k (if y > x then y else x))
 | _,_=>none
def aP (ev:Src->AV):AOp->Option AV
 | .mv x=>some (ev x)
 | .pick c a b=>match ev c with | .bool t=>some (if t then ev a else ev b) | _=>none
 | .build zero parts=>do
  let cs <- cG zero (parts.map fun p=>(p.1,ev p.2))
  some (.agg cs)
 | .nilCheck x=>match ev x with
  | .ptr b o=>some (.ptr b o)
  | .dp cs o=>some (.dp cs o)
  | .fn (.func f) a c=>some (.fn (.func f) a c)
  | .loopv b=>some (.loopv b)
  | _=>none
 | .bin op kd x y=>bV op kd (ev x) (ev y)
 | .eqAgg neg n x y=>match ev x,ev y with
  | .agg a,.agg b=>(match n with | 0=>F8 a b | n+1=>rA (n+1) a b).map fun r=>.bool (if neg then !r else r)
  | _,_=>none
 | .un op x=>RX op (ev x)
 | .conv k x=>match ev x with | .int _ n=>some (.int k (k.wrap n)) | _=>none
 | .strId x=>match ev x with | .str s=>some (.str s) | _=>none
 | .iface ty x=>match ev x with | .undef=>none | v=>some (.ifc ty v)
 | .mkfn f first cap=>some (.fn f (first.map ev) (cap.map ev))
 | .slice size x lo hi mx=>match ev x with
  | .str _=>none
  | v=>bR size v (lo.map ev) (hi.map ev) (mx.map ev)
 | .sliceStr x lo hi=>match ev x with
  | .str s=>bR 1 (.str s) (lo.map ev) (hi.map ev) none
  | _=>none
 | .fieldAddr off x=>match ev x with
  | .ptr b o=>some (.ptr b (o+off))
  | .dp cs o=>some (.dp cs (o+off))
  | _=>none
 | .field k off x=>match ev x with | .agg cs=>aY cs off k | _=>none
 | .indexAddr size x i=>do
  let i <- qa (ev i)
  match ev x with
  | .own b off n _ sz _=>if i<n/\sz=size then some (.ptr b (off+i*size)) else none
  | .sl cs n=>if i<n then some (.dp cs (i*size)) else none
  | _=>none
 | .tassert t z ok x=>match ev x with
  | .ifc t' v=>if t'=t then some (if ok then .tup [v,.bool true] else v) else if ok=true then some (.tup [z,.bool false]) else none
  | .nilIf=>if ok=true then some (.tup [z,.bool false]) else none
  | _=>none
 | .indexArr len size x i=>do
  let i <- qa (ev i)
  match ev x with
  | .ptr b o=>if i<len then some (.ptr b (o+i*size)) else none
  | .dp cs o=>if i<len then some (.dp cs (o+i*size)) else none
  | _=>none
 | .indexAgg len size k x i=>do
  let i <- qa (ev i)
  match ev x with
  | .agg cs=>if i<len then aY cs (i*size) k else none
  | _=>none
 | .indexStr x i=>do
  let i <- qa (ev i)
  match ev x with
  | .str s=>(s[i]?).map fun b=>.int .u8 b.toNat
  | _=>none
 | .extract i x=>match ev x with | .tup vs=>vs[i]? | _=>none
 | .len x=>match ev x with
  | .own _ _ n _ _ _=>some (.int .i64 n)
  | .sl _ n=>some (.int .i64 n)
  | .nilSl=>some (.int .i64 0)
  | _=>none
 | .lenStr x=>match ev x with
  | .str s=>some (.int .i64 s.size)
  | _=>none
 | .cap x=>match ev x with
  | .own _ _ _ c _ true=>some (.int .i64 c)
  | .nilSl=>some (.int .i64 0)
  | _=>none
 | .min xs=>match xs.map ev with
  | .int k a :: rest=>rest.foldlM Jz (AV.int k a)
  | _=>none
 | .max xs=>match xs.map ev with
  | .int k a :: rest=>rest.foldlM JB (AV.int k a)
  | _=>none
 | _=>none
def AOp.isPure:AOp->Bool
 | .mv _ | .pick .. | .build .. | .nilCheck _ | .bin .. | .eqAgg .. | .un .. | .conv .. | .strId _ | .iface .. | .mkfn .. | .slice .. | .sliceStr .. | .fieldAddr .. | .field .. | .indexAddr .. | .indexArr .. | .tassert .. | .indexAgg .. | .indexStr .. | .extract .. | .len _ | .lenStr _ | .cap _ | .min _ | .max _=>true
 | _=>false
def iv:AV->AV->Option Bool
 | .int j a,.int k b=>if j=k then some (a == b) else none
 | .str a,.str b=>some (a == b)
 | .bool a,.bool b=>some (a == b)
 | _,_=>none
def gQ:BK->AV->Bool
 | .int,.int _ _=>true
 | .str,.str _=>true
 | _,_=>false
def oV (k:AV):List (AV × AV)->Option (Option AV)
 | []=>some none
 | (k',v) :: es=>match iv k k' with
  | some true=>some (some v)
  | some false=>oV k es
  | none=>none
def sV (k v:AV):List (AV × AV)->List (AV × AV)
 | []=>[(k,v)]
 | (k',v') :: es=>match iv k k' with
  | some true=>(k,v) :: es
  | _=>(k',v') :: sV k v es
def yi (H:Heap):AV->Option (List (AV × AV))
 | .nilMap=>some []
 | .map b=>match H.get b with
  | some (.map es)=>some es
  | some (.mapR es)=>some es
  | _=>none
 | _=>none
def tp (H:Heap) (kd:BK) (zero x i:AV) (ok:Bool):Option AV :=
 if gQ kd i=false then none else
 match yi H x with
 | none=>none
 | some es=>match oV i es with
  | none=>none
  | some none=>some (if ok then .tup [zero,.bool false] else zero)
  | some (some v)=>some (if ok then .tup [v,.bool true] else v)
def nj (H:Heap) (kd:BK) (m k v:AV):Option Heap :=
 if gQ kd k=false then none else
 match m with
 | .map b=>match H.get b with
  | some (.map es)=>match oV k es with
   | none=>none
   | some _=>some (H.put b (.map (sV k v es)))
  | _=>none
 | _=>none
def aN (H:Heap) (size n:Nat):AV->Option (List AV)
 | .own b off m _ sz _=>match H.get b with
  | some (.cells cs _ _)=>if sz=size/\n<=m/\off+n*size<=cs.length then some ((cs.drop off).take (n*size)) else none
  | _=>none
 | .sl cs m=>if n<=m/\n*size<=cs.length then some (cs.take (n*size)) else none
 | .nilSl=>if n=0 then some [] else none
 | .str s=>if n<=s.size/\size=1 then some ((s.extract 0 n).data.toList.map fun b=>.int .u8 b.toNat) else none
 | _=>none
def gP:AV->Option Nat
 | .own _ _ n _ _ _=>some n
 | .sl _ n=>some n
 | .nilSl=>some 0
 | .str s=>some s.size
 | _=>none
def xL:List AV->ByteArray->Option ByteArray
 | [],s=>some s
 | .int .u8 k :: l,s=>xL l (s.push (UInt8.ofNat k.toNat))
 | _,_=>none
def Dz (H:Heap) (x:AV):Option ByteArray :=
 match x with
 | .str _=>none
 | x=>match gP x with
  | none=>none
  | some n=>match aN H 1 n x with
   | none=>none
   | some cs=>xL cs .empty
def cU (H:Heap) (id size bytes ty:Nat) (x:AV) (m:Nat) (news:List AV) (fr:Option Nat):Option (AV × Heap) :=
 match x with
 | .nilSl=>if m=0 then some (.nilSl,H) else if m*bytes<=2^46/\m<2^62 then some (.own id 0 m m size false,H.put id (.cells news ty true)) else none
 | .own b off n c sz ex =>
  match H.get b with
  | some (.cells cs ty' rw) =>
   if sz=size/\(n+m)*bytes<=2^46/\n+m<2^62/\ty'=ty/\off+n*size<=cs.length then
    if n+m<=c then
     (if m=0 then some (.own b off n c sz ex,H)
      else if rw=true/\news.all AV.one=true then some (.own b off (n+m) c sz ex,H.put b (.cells (cs.take (off+n*size)++news++cs.drop (off+n*size+m*size)) ty rw)) else none)
    else if ex=true then some (.own id 0 (n+m) (n+m) size false,H.put id (.cells ((cs.drop off).take (n*size)++news) ty true))
    else if off=0/\rw=true/\fr≠some b/\news.all AV.one=true then some (.own id 0 (n+m) (n+m) size false,(H.kill b).put id (.cells (cs.take (n*size)++news) ty true))
    else none
   else none
  | _=>none
 | _=>none
def aX (H:Heap) (k:Option Nat):AV->Option AV
 | .ptr b o=>match H.get b with
  | some (.cells cs _ _)=>aY cs o k
  | _=>none
 | .dp cs o=>aY cs o k
 | _=>none
def qH (H:Heap) (n:Nat) (x v:AV):Option Heap :=
 match x with
 | .ptr b o=>match H.get b with
  | some (.cells cs ty true) =>
   if v.cells.length=n/\o+n<=cs.length/\v.cells.all AV.one=true then some (H.put b (.cells (cs.take o++v.cells++cs.drop (o+n)) ty true)) else none
  | _=>none
 | _=>none
def rI (H:Heap) (size:Nat) (zero:List AV):AV->Option Heap
 | .own b off n _ sz _=>match H.get b with
  | some (.cells cs ty true) =>
   if n=0 then some H
   else if sz=size/\off+n*size<=cs.length/\zero.length=size/\zero.all AV.one=true then some (H.put b (.cells (cs.take off++(List.replicate n zero).flatten++cs.drop (off+n*size)) ty true))
   else none
  | _=>none
 | .nilSl=>some H
 | _=>none
def OM (H:Heap) (size:Nat) (x y:AV):Option (AV × Heap) :=
 match gP y with
 | none=>none
 | some m=>match x with
  | .own b off n _ sz _=>match aN H size (Nat.min m n) y,H.get b with
   | some news,some (.cells cs ty true) =>
    if sz=size/\off<=cs.length/\news.all AV.one=true then some (.int .i64 (Nat.min m n:Nat),H.put b (.cells (cs.take off++news++cs.drop (off+news.length)) ty true)) else none
   | _,_=>none
  | .nilSl=>match aN H size 0 y with
   | some _=>some (.int .i64 0,H)
   | none=>none
  | _=>none
def Ic (H:Heap):AV->Option (AV × Heap)
 | .ptr b 0=>match H.get b with
  | some (.siter s pos)=>if pos<s.size then some (.tup [.bool true,.int .i64 pos,.int .i32 (Utf8.decode s pos).1],H.put b (.siter s (pos+(Utf8.decode s pos).2))) else some (.tup [.bool false],H)
  | _=>none
 | _=>none
def bf (ev:Src->AV) (H:Heap) (id:Nat):AOp->Option (AV × Heap)
 | .alloc ty zero=>some (.ptr id 0,H.put id (.cells zero ty true))
 | .box ty x=>let cs:=(ev x).cells; if cs.all AV.one then some (.ptr id 0,H.put id (.cells cs ty true)) else none
 | .buildSlice ty size zeros len parts=>match cG zeros (parts.map fun p=>(p.1,ev p.2)) with
  | none=>none
  | some cs=>some (.own id 0 len len size true,H.put id (.cells cs ty true))
 | .load k x=>(aX H k (ev x)).map fun v=>(v,H)
 | .store n x v=>(qH H n (ev x) (ev v)).map fun H'=>(.undef,H')
 | .mkmap=>some (.map id,H.put id (.map []))
 | .mksl ty size bytes zero l c=>match qa (ev l),qa (ev c) with
  | some l,some c =>
   if l<=c/\bytes*c<=2^47/\c<2^63/\zero.length=size then
    some (.own id 0 l c size true,H.put id (.cells ((List.replicate c zero).flatten) ty true))
   else none
  | _,_=>none
 | .lookup kd zero x i ok=>(tp H kd zero (ev x) (ev i) ok).map fun v=>(v,H)
 | .mapUpd kd m k v=>(nj H kd (ev m) (ev k) (ev v)).map fun H'=>(.undef,H')
 | .lenMap x=>match ev x with
  | .nilMap=>some (.int .i64 0,H)
  | .map b=>match H.get b with | some (.map es)=>some (.int .i64 es.length,H) | some (.mapR es)=>some (.int .i64 es.length,H) | _=>none
  | _=>none
 | .append size bytes ty _ x y=>match gP (ev y) with
  | none=>none
  | some m=>match aN H size m (ev y) with
   | none=>none
   | some news=>cU H id size bytes ty (ev x) m news (match ev y with | .own b _ _ _ _ _=>some b | _=>none)
 | .appendZ size bytes ty zero x y=>match qa (ev y) with
  | none=>none
  | some m=>if zero.length=size/\m*bytes<=2^46/\m<2^62 then cU H id size bytes ty (ev x) m ((List.replicate m zero).flatten) none else none
 | .clear size zero x=>(rI H size zero (ev x)).map fun H'=>(.tup [],H')
 | .copy size x y=>OM H size (ev x) (ev y)
 | .toStr x=>(Dz H (ev x)).map fun s=>(.str s,H)
 | .rangeS x=>match ev x with
  | .str s=>some (.ptr id 0,H.put id (.siter s 0))
  | _=>none
 | .nextS x=>Ic H (ev x)
 | .globIdx cs len size i=>match qa (ev i) with
  | some i=>if i<len then some (.dp cs (i*size),H) else none
  | none=>none
 | .globLoad k cs=>(aY cs 0 k).map fun v=>(v,H)
 | .toBytes ty x=>match ev x with
  | .str s=>some (.own id 0 s.size s.size 1 false,H.put id (.cells (s.data.toList.map fun b=>.int .u8 b.toNat) ty false))
  | _=>none
 | _=>none
inductive Ex where
 | nrm
 | exit (id:Nat)
 | goto (l:Nat)
 | ret
 deriving Inhabited,DecidableEq
inductive Task where
 | fn (f:Nat) (args:List AV)
 | round (b:Nat) (args:List AV)
 | ent (f:Nat) (args:List AV)
 deriving Inhabited
def iA (f:AV) (args:List AV):Option Task :=
 match f with
 | .fn (.func f) first cap=>some (.fn f (first++args++cap))
 | .loopv b=>some (.round b args)
 | _=>none
abbrev oA:=Task->Heap->Option (AV × Heap)
def Ax (cal:oA) (ev:Src->AV) (H:Heap) (id:Nat) (o:AOp):Option (AV × Heap) :=
 match o with
 | .call f args=>do
  let t <- iA (ev f) (args.map ev)
  cal t H
 | o=>match aP ev o with
  | some v=>some (v,H)
  | none=>bf ev H id o
def bW (T:Tm):Option (Nat × Bool)->Option Bool
 | none=>some true
 | some (t,want)=>match T[t]? with
  | some (.bool b)=>some (b == want)
  | some (.tup [])=>some false
  | _=>none
def y6 (cal:oA):Nat->List EP->Tm->Heap->Option (Tm × Heap)
 | _,[],T,H=>some (T,H)
 | id,o :: os,T,H =>
  match bW T o.guard with
  | some true =>
   match Ax cal (Src.ev T) H id o.op with
   | some (v,H')=>y6 cal (id+1) os (putT T o.dst v) H'
   | none=>none
  | some false=>y6 cal (id+1) os (putT T o.dst (.tup [])) H
  | none=>none
def mS (T0:Tm) (Vs:List AV) (u:Nat × Option Nat):AV:=match u.2 with | none=>ad T0 u.1 | some j=>Vs.getD j .undef
def cn (T0:Tm) (Vs:List AV) (us:List (Nat × Option Nat)):Tm:=us.foldl (fun T u=>T.set u.1 (mS T0 Vs u)) (List.replicate T0.length .undef)
def du (base:Nat) (Es:List (Option Ent)) (C:Heap) (adds:List Nat):Heap :=
 adds.foldl (fun C a=>match Es.getD a none with | some e=>C.put (base+a) e | none=>C) C
def AOp.looks:AOp->Bool
 | .load .. | .lookup .. | .lenMap _ | .globIdx .. | .globLoad ..=>true
 | _=>false
def AOp.makes:AOp->Bool
 | .alloc .. | .box .. | .buildSlice .. | .mksl .. | .mkmap=>true
 | _=>false
structure DS where
 Vs:List AV
 Cs:List Heap
 Es:List (Option Ent)
def jV (cal:oA) (base:Nat) (T0:Tm) (i:Nat) (d:jx) (s:DS):Option DS :=
 let T:=cn T0 s.Vs d.uses
 match bW T d.guard with
 | none=>none
 | some false =>
  match d.cls,d.looks with
  | 2,[(k,adds)]=>some ⟨s.Vs++[.tup []],s.Cs++[du base s.Es (s.Cs.getD k default) adds],s.Es++[none]⟩
  | 2,_=>none
  | _,_=>some ⟨s.Vs++[.tup []],s.Cs,s.Es++[none]⟩
 | some true =>
  match d.cls with
  | 0=>match aP (Src.ev T) d.op with
   | some v=>some ⟨s.Vs++[v],s.Cs,s.Es++[none]⟩
   | none=>match d.looks with
    | (k,adds) :: _=>if d.op.looks=true then match bf (Src.ev T) (du base s.Es (s.Cs.getD k default) adds) 0 d.op with
      | some (v,_)=>some ⟨s.Vs++[v],s.Cs,s.Es++[none]⟩
      | none=>none
     else none
    | []=>none
  | 1=>if d.op.makes=true then match bf (Src.ev T) (Heap.nil 0) (base+i) d.op with
    | some (v,H')=>some ⟨s.Vs++[v],s.Cs,s.Es++[H'.get (base+i)]⟩
    | none=>none
   else none
  | _=>match d.looks with
   | [(k,adds)]=>match Ax cal (Src.ev T) (du base s.Es (s.Cs.getD k default) adds) (base+i) d.op with
    | some (v,H')=>some ⟨s.Vs++[v],s.Cs++[H'],s.Es++[none]⟩
    | none=>none
   | _=>none
def uA (cal:oA) (base:Nat) (T0:Tm):Nat->List jx->DS->Option DS
 | _,[],s=>some s
 | i,d :: ds,s=>match jV cal base T0 i d s with
  | some s'=>uA cal base T0 (i+1) ds s'
  | none=>none
def kj (base:Nat) (T0:Tm) (s:DS) (i:Nat) (d:jx):Bool :=
 match d.cls,bW (cn T0 s.Vs d.uses) d.guard,aP (Src.ev (cn T0 s.Vs d.uses)) d.op with
 | 0,some true,none=>d.looks.all fun p=>match bf (Src.ev (cn T0 s.Vs d.uses)) (du base s.Es (s.Cs.getD p.1 default) p.2) 0 d.op with
  | some (v,_)=>AV.beq v (s.Vs.getD i .undef)
  | none=>false
 | _,_,_=>true
def lP (base:Nat) (T0:Tm) (s:DS):Nat->List jx->Bool
 | _,[]=>true
 | i,d :: ds=>kj base T0 s i d && lP base T0 s (i+1) ds
def gn (T:Tm):List jx->List AV->Tm
 | d :: ds,v :: vs=>gn (putT T d.dst v) ds vs
 | _,_=>T
def Gc (cal:oA) (ds:List jx) (late:List Nat) (T:Tm) (H:Heap):Option (Tm × Heap) :=
 match uA cal H.next T 0 ds ⟨[],[{ H with next:=H.next+ds.length }],[]⟩ with
 | none=>none
 | some s=>if lP H.next T s 0 ds=true then some (gn T ds s.Vs,du H.next s.Es (s.Cs.getLastD default) late) else none
def AT (body:Tm->Heap->Option (Ex × Tm × Heap)):Nat->Tm->Heap->Option (Ex × Tm × Heap)
 | 0,_,_=>none
 | n+1,T,H =>
  match body T H with
  | some (.nrm,T',H')=>AT body n T' H'
  | r=>r
def JM (l:Nat) (body:Tm->Heap->Option (Ex × Tm × Heap)):Nat->Tm->Heap->Option (Ex × Tm × Heap)
 | 0,_,_=>none
 | n+1,T,H =>
  match body T H with
  | some (.goto l',T',H')=>if l'=l then JM l body n T' H' else none
  | r=>r
def oL:Tm->List (Nat × AV)->Tm
 | T,[]=>T
 | T,(t,v) :: r=>oL (T.set t v) r
def aK (cal:oA) (m:Nat) (rd:Bool):ACode->Tm->Heap->Option (Ex × Tm × Heap)
 | .skip,T,H=>some (.nrm,T,H)
 | .region ops,T,H =>
  match y6 cal H.next ops T { H with next:=H.next+ops.length } with
  | some (T',H')=>some (.nrm,T',H')
  | none=>none
 | .draw ds late,T,H =>
  match Gc cal ds late T H with
  | some (T',H')=>some (.nrm,T',H')
  | none=>none
 | .seq a b,T,H =>
  match aK cal m rd a T H with
  | some (.nrm,T',H')=>aK cal m rd b T' H'
  | r=>r
 | .cond c a b,T,H =>
  match c.ev T with
  | .bool true=>aK cal m rd a T H
  | .bool false=>aK cal m rd b T H
  | _=>none
 | .block id body,T,H =>
  match aK cal m rd body T H with
  | some (.exit id',T',H')=>if id'=id then some (.nrm,T',H') else some (.exit id',T',H')
  | r=>r
 | .loop body,T,H=>AT (aK cal m rd body) m T H
 | .exit id,T,H=>some (.exit id,T,H)
 | .goto l,T,H=>some (.goto l,T,H)
 | .ret,T,H=>some (.ret,T,H)
 | .scope a,T,H =>
  match aK cal m rd a T H with
  | some (.goto _,_,_)=>none
  | r=>r
 | .scopeL a l rest,T,H =>
  match aK cal m rd a T H with
  | some (.goto l',T',H')=>if l'=l then JM l (aK cal m rd rest) m T' H' else none
  | r=>r
 | .drawF ..,_,_=>none
 | .rangeM ..,_,_=>none
 | .rangeFunc f ps asg body,T,H =>
  if rd=true then none else
  let l:=H.next
  let H1:Heap:={ H with next:=H.next+1 }.put l (.loop T ps asg body .ready none)
  match iA (f.ev T) [.loopv l] with
  | some (.fn fi args)=>match cal (.ent fi args) H1 with
   | some (_,H2)=>match H2.get l with
    | some (.loop _ _ _ _ .ready none)=>some (.nrm,T,H2.kill l)
    | some (.loop _ _ _ _ .done (some c))=>match c with
     | .ret=>some (.ret,T,H2.kill l)
     | .exit id=>some (.exit id,T,H2.kill l)
     | .goto g=>some (.goto g,T,H2.kill l)
     | _=>none
    | _=>none
   | none=>none
  | _=>none
inductive Pj where
 | code (c:ACode)
 | seq (a:ACode) (b:Pj)
 | dfr (ops:List EP) (f:Src) (b:Pj)
 deriving Inhabited
inductive Ext where
 | add64 | sub64
 | countS | indexS
 | insert (size bytes ty:Nat)
 | keys (str:Bool) (gs:List Nat) (ty:Nat)
 | sortF (ty:Nat) (gs:List Nat)
 | dfr (b:Pj)
 | rcv (d:Nat) (c:ACode)
 deriving Inhabited
def Ext.code:Ext->Bool
 | .dfr _ | .rcv _ _ | .keys ..=>true
 | _=>false
structure aA where
 nparams:Nat
 ntmps:Nat
 results:List (Nat × Option (Option Nat))
 body:ACode
 ext:Option Ext:=none
 deriving Inhabited
def TD {α:Type} (le:α->α->Bool) (x:α):List α->List α
 | []=>[x]
 | y :: l=>if le x y=true then x :: y :: l else y :: TD le x l
def Ff {α:Type} (le:α->α->Bool):List α->List α
 | []=>[]
 | x :: l=>TD le x (Ff le l)
def DE {α:Type} (le:α->α->Bool):List α->Bool
 | []=>true
 | [_]=>true
 | a :: b :: l=>!le b a && DE le (b :: l)
def Ul (a b:Int):Bool:=decide (a<=b)
def TY:List UInt8->List UInt8->Bool
 | [],_=>true
 | _ :: _,[]=>false
 | a :: x,b :: y=>if a.toNat<b.toNat then true else if a.toNat=b.toNat then TY x y else false
def intOf?:AV->Option Int
 | .int .i64 n=>if -9223372036854775808<=n/\n<=9223372036854775807 then some n else none
 | _=>none
def strOf?:AV->Option (List UInt8)
 | .str s=>if s.size<=9223372036854775807 then some s.data.toList else none
 | _=>none
def SW {α:Type} (f:AV->Option α):List (AV × AV)->Option (List α)
 | []=>some []
 | (k,_) :: es=>match f k,SW f es with
  | some a,some l=>some (a :: l)
  | _,_=>none
def P8 (str:Bool) (es:List (AV × AV)):Option (List AV) :=
 match str with
 | false=>match SW intOf? es with
  | some ks=>if DE Ul (Ff Ul ks)=true then some ((Ff Ul ks).map (AV.int .i64)) else none
  | none=>none
 | true=>match SW strOf? es with
  | some ks=>if DE TY (Ff TY ks)=true then some ((Ff TY ks).map fun l=>AV.str ⟨l.toArray⟩) else none
  | none=>none
def Sz (H:Heap) (gs:List Nat):List AV->Option (List (AV × AV))
 | [.fn (.func g) [] [.ptr b 0]]=>if gs.contains g then
   match H.get b with
   | some (.cells [.map mb] _ _)=>match H.get mb with
    | some (.map es)=>some es
    | some (.mapR es)=>some es
    | _=>none
   | _=>none
  else none
 | _=>none
def TC (H:Heap) (str:Bool) (gs:List Nat) (ty:Nat) (args:List AV):Option (AV × Heap) :=
 match Sz H gs args with
 | none=>none
 | some es=>if es.length<=1000000 then
   match P8 str es with
   | none=>none
   | some []=>some (.nilSl,{ H with next:=H.next+1 })
   | some cs=>some (.own H.next 0 cs.length cs.length 1 false,{ H with next:=H.next+1 }.put H.next (.cells cs ty true))
  else none
def SL (c:Nat):List UInt8->Nat
 | []=>0
 | b :: l=>bif Nat.beq b.toNat c then Nat.succ (SL c l) else SL c l
def TE (c:Nat):List UInt8->Int
 | []=>-1
 | b :: l=>bif Nat.beq b.toNat c then 0 else match TE c l with
  | .ofNat n=>.ofNat (Nat.succ n)
  | z=>z
def vK (H:Heap):Ext->List AV->Option (AV × Heap)
 | .keys str gs ty,args=>TC H str gs ty args
 | .add64,[.int .u64 (.ofNat x),.int .u64 (.ofNat y),.int .u64 (.ofNat c)]=>if c<=1 then some (.tup [.int .u64 (.ofNat ((x+y+c) % 2^64)),.int .u64 (.ofNat ((x+y+c) / 2^64))],H) else none
 | .sub64,[.int .u64 (.ofNat x),.int .u64 (.ofNat y),.int .u64 (.ofNat c)]=>if c<=1 then some (.tup [.int .u64 (.ofNat ((x+2^64-y-c) % 2^64)),.int .u64 (.ofNat (if x<y+c then 1 else 0))],H) else none
 | .countS,[.str s,.int .u8 (.ofNat c)]=>if c<256 then some (.int .i64 (.ofNat (SL c s.toList)),H) else none
 | .indexS,[.str s,.int .u8 (.ofNat c)]=>if c<256 then some (.int .i64 (TE c s.toList),H) else none
 | .insert size bytes ty,[.nilSl,.int .i64 (.ofNat i),.own b2 off2 m c2 sz2 ex2] =>
  match aN H size m (.own b2 off2 m c2 sz2 ex2) with
  | some news=>if i=0/\0<m/\m*bytes<=2^46/\m<2^62/\news.all AV.one=true then some (.own H.next 0 m m size false,{ H with next:=H.next+1 }.put H.next (.cells news ty true)) else none
  | none=>none
 | .insert size bytes ty,[.own b off n c sz ex,.int .i64 (.ofNat i),.own b2 off2 m c2 sz2 ex2] =>
  match aN H size m (.own b2 off2 m c2 sz2 ex2),H.get b,H.get b2 with
  | some news,some (.cells cs ty' true),some (.cells _ _ true) =>
   if off=0/\sz=size/\b≠b2/\0<m/\i<=n/\cs.length=n*size/\(n+m)*bytes<=2^46/\n+m<2^62/\ty'=ty/\news.all AV.one=true/\cs.all AV.one=true then
    some (.own H.next 0 (n+m) (n+m) size false,({ H with next:=H.next+1 }.kill b).put H.next (.cells (cs.take (i*size)++news++cs.drop (i*size)) ty true))
   else none
  | _,_,_=>none
 | _,_=>none
def oJ (T:Tm) (H:Heap) (r:Nat × Option (Option Nat)):Option AV :=
 match r.2 with
 | none=>some (ad T r.1)
 | some k=>match ad T r.1 with
  | .ptr b o=>match H.get b with
   | some (.cells cs _ _)=>aY cs o k
   | _=>none
  | _=>none
def cg (T:Tm) (H:Heap) (rs:List (Nat × Option (Option Nat))):Option AV:=do
 let vs <- rs.mapM (oJ T H)
 match vs with
 | [v]=>some v
 | vs=>some (.tup vs)
def Ai (cal:oA) (m:Nat) (fn:aA) (args:List AV) (H:Heap):Option (AV × Heap) :=
 if args.length=fn.nparams then
  match aK cal m false fn.body (args++List.replicate (fn.ntmps-args.length) .undef) H with
  | some (.nrm,T,H')=>(cg T H' fn.results).map fun v=>(v,H')
  | some (.ret,T,H')=>(cg T H' fn.results).map fun v=>(v,H')
  | _=>none
 else none
abbrev Mq:=Task->Heap->Option (AV × Heap)
def Ts:oA:=fun _ _=>none
def Mv (M:List (List Int)) (i j:Nat):Bool:=decide ((M.getD i []).getD j 0<0)
def Q5 (M:List (List Int)) (n:Nat):Prop:=(∀ i,i<n->Mv M i i=false)/\(∀ i,i<n->∀ j,j<n->i=j\/Mv M i j = !Mv M j i)/\(∀ i,i<n->∀ j,j<n->∀ k,k<n->Mv M i j=true->Mv M j k=true->Mv M i k=true)
instance (M:List (List Int)) (n:Nat):Decidable (Q5 M n):=by unfold Q5; infer_instance
def rH (cal:oA) (g:Nat) (caps:List AV) (D:Heap) (x:AV):List AV->Option (List Int)
 | []=>some []
 | y :: l=>match cal (.fn g ([x,y]++caps)) D,rH cal g caps D x l with
  | some (.int .i64 c,_),some cs=>some (c :: cs)
  | _,_=>none
def sP (cal:oA) (g:Nat) (caps:List AV) (D:Heap) (all:List AV):List AV->Option (List (List Int))
 | []=>some []
 | x :: l=>match rH cal g caps D x all,sP cal g caps D all l with
  | some r,some rs=>some (r :: rs)
  | _,_=>none
def kH (M:List (List Int)) (n:Nat):List (Fin n):=(List.finRange n).mergeSort fun x y=>!Mv M y.val x.val
def Co (cal:oA) (ty:Nat) (gs:List Nat) (H:Heap):List AV->Option (AV × Heap)
 | [.nilSl,.fn (.func _) _ _]=>some (.tup [],H)
 | [.own b off n _ sz _,.fn (.func g) [] caps]=>if n=0 then some (.tup [],H) else match H.get b with
  | some (.cells cs ty' true) =>
   if ty'=ty/\off=0/\sz=1/\cs.length=n/\0<n/\n<4611686018427387904/\g∈gs/\cs.all AV.one=true then
    match sP cal g caps (H.kill b).ro cs cs with
    | some M=>if Q5 M n then some (.tup [],H.put b (.cells ((kH M n).map fun i=>cs.getD i.val .undef) ty true)) else none
    | none=>none
   else none
  | _=>none
 | _=>none
def jA (tab:Nat->Option aA) (pc:Mq) (cal:oA) (m:Nat):Task->Heap->Option (AV × Heap)
 | .fn f args,H =>
  match tab f with
  | none=>none
  | some fn=>match fn.ext with
   | some (.sortF ty gs)=>Co cal ty gs H args
   | some e=>vK H e args
   | none=>Ai cal m fn args H
 | .ent f args,H =>
  match tab f with
  | none=>none
  | some fn=>match fn.ext with
   | some _=>none
   | none=>Ai cal m fn args H
 | .round b args,H =>
  match H.get b with
  | some (.loop T ps asg body .ready none) =>
   if args.length=ps.length then
    match aK cal m true asg (oL T (ps.zip args)) H with
    | some (.nrm,T1,H1) =>
     match H1.get b with
     | some (.loop T1' ps1 asg1 body1 .ready none) =>
      match aK cal m true body T1 (H1.put b (.loop T1' ps1 asg1 body1 .busy none)) with
      | some (x,_,H2) =>
       match H2.get b with
       | some (.loop T2 ps2 asg2 body2 .busy none) =>
        match x with
        | .nrm=>some (.bool true,H2.put b (.loop T2 ps2 asg2 body2 .ready none))
        | .ret=>some (.bool false,H2.put b (.loop T2 ps2 asg2 body2 .done (some .ret)))
        | .exit id=>some (.bool false,H2.put b (.loop T2 ps2 asg2 body2 .done (some (.exit id))))
        | .goto g=>some (.bool false,H2.put b (.loop T2 ps2 asg2 body2 .done (some (.goto g))))
       | _=>none
      | none=>none
     | _=>none
    | _=>none
   else none
  | _=>none
def lx (tab:Nat->Option aA) (pc:Mq) (m:Nat):Nat->oA
 | 0=>fun _ _=>none
 | n+1=>jA tab pc (lx tab pc m n) m
def Mr:Nat->Option (List AV):=fun _=>none
def Pe:Prop:=True
def Cx:Value->Option AV
 | .bool b=>some (.bool b)
 | .int k n=>some (.int k n)
 | .string s=>some (.str s)
 | .pointer none=>some .nilPtr
 | .slice none 0 0=>some .nilSl
 | .map none=>some .nilMap
 | .nilFunc=>some .nilFn
 | .nilIface=>some .nilIf
 | .func f a b=>if a.size=0/\b.size=0 then some (.fn f [] []) else none
 | _=>none
def J9 (v:Value):Option (List AV):=v.cells.toList.mapM Cx
def sO:Value->Option AV
 | .agg cs=>do some (.agg (<- cs.toList.mapM Cx))
 | .tuple vs=>if vs.size=0 then some (.tup []) else none
 | v=>Cx v
def bT:Operand->Option Src
 | .tmp t=>some (.t t)
 | .const v=>(sO v).map .c
 | .global _=>none
 | .func f=>some (.c (.fn (.func f) [] []))
def Iy:Operand->Option (List AV)
 | .global g=>Mr g
 | _=>none
def vD:Operand->Bool
 | .const _=>true
 | _=>false
def BI:Option Operand->Option (Option Src)
 | none=>some none
 | some x=>(bT x).map some
section
variable (P:Program)
def zeroCells? (t:TypeId):Option (List AV):=do
 let i <- P.info? t
 let z <- i.zero
 J9 z
def sizeOf? (t:TypeId):Option Nat:=(P.info? t).map (·.size)
def bytesOf? (t:TypeId):Option Nat:=(P.info? t).map (·.bytes)
def qm (t:TypeId):Option (Option Nat):=do
 match <- P.underlying t with
 | .struct _=>(sizeOf? P t).map some
 | .array _ _=>(sizeOf? P t).map some
 | _=>some none
def uM (fs:Array Field):Option (List (Nat × Nat)):=fs.toList.mapM fun f=>(sizeOf? P f.type).map fun n=>(f.offset,n)
def uv (t:TypeId):Bool :=
 match P.underlying t with
 | some (.array 2 e)=>(match P.underlying e with | some .bool=>true | _=>false) && (sizeOf? P e == some 1)
 | _=>false
def iB (t:TypeId):Nat :=
 match P.underlying t with
 | some (.struct fs)=>if (fs.toList.zipIdx.all fun p=>p.1.name != "_" && (p.1.offset == p.2 && (match P.underlying p.1.type with | some (.int _)=>true | _=>false))) && !P.stoodInHeld t then fs.size else 0
 | _=>0
def Re (t:TypeId):Bool:=match P.underlying t with
 | some (.interface _)=>true
 | _=>false
def ju (t:TypeId):Option BK :=
 match P.underlying t with
 | some (.int _)=>some .int
 | some .bool=>some .bool
 | some .string=>some .str
 | some (.slice _)=>some .sl
 | _=>none
def CC (t:TypeId):Bool :=
 match P.underlying t with
 | some (.int _) | some .string=>true
 | _=>false
def GG (o:Oper):Option AOp :=
 match o.op with
 | .move x | .assign x=>(bT x).map .mv
 | .pick c a b=>do some (.pick (<- bT c) (<- bT a) (<- bT b))
 | .alloc e=>do some (.alloc e (<- zeroCells? P e))
 | .box e x=>do
  let _ <- sizeOf? P e
  some (.box e (<- bT x))
 | .build t parts=>do
  let z <- zeroCells? P t
  match <- P.underlying t with
  | .struct fs=>do
   let pl <- uM P fs
   let ps <- parts.toList.mapM fun (i,x)=>do some ((<- pl[i]?),(<- bT x))
   some (.build z ps)
  | .array _ e=>do
   let n <- sizeOf? P e
   let ps <- parts.toList.mapM fun (i,x)=>do some ((i*n,n),(<- bT x))
   some (.build z ps)
  | _=>none
 | .buildSlice t len parts=>do
  match <- P.underlying t with
  | .slice e=>do
   let n <- sizeOf? P e
   let z <- zeroCells? P e
   let ps <- parts.toList.mapM fun (i,x)=>do some ((i*n,n),(<- bT x))
   if len*n<=2^24/\z.length=n then some (.buildSlice e n ((List.replicate len z).flatten) len ps) else none
  | _=>none
 | .load t x=>match Iy x with
  | some cs=>do some (.globLoad (<- qm P t) cs)
  | none=>do some (.load (<- qm P t) (<- bT x))
 | .store t x v=>do some (.store (<- sizeOf? P t) (<- bT x) (<- bT v))
 | .nilCheck x=>(bT x).map .nilCheck
 | .binOp op t x y _ =>
  if uv P t then
   match op with
   | .eql=>do some (.eqAgg false 0 (<- bT x) (<- bT y))
   | .neq=>do some (.eqAgg true 0 (<- bT x) (<- bT y))
   | _=>none
  else if iB P t≠0 then
   match op with
   | .eql=>do some (.eqAgg false (iB P t) (<- bT x) (<- bT y))
   | .neq=>do some (.eqAgg true (iB P t) (<- bT x) (<- bT y))
   | _=>none
  else if Re P t then (if vD x || vD y then do some (.bin op .ifc (<- bT x) (<- bT y)) else none)
  else do some (.bin op (<- ju P t) (<- bT x) (<- bT y))
 | .unOp op _ x=>do some (.un op (<- bT x))
 | .convert a b x=>do
  match <- P.underlying a,<- P.underlying b with
  | .int _,.int k=>do some (.conv k (<- bT x))
  | .string,.string=>do some (.strId (<- bT x))
  | .slice e,.string=>do
   match <- P.underlying e with
   | .int .u8=>some (.toStr (<- bT x))
   | _=>none
  | .string,.slice e=>do
   match <- P.underlying e with
   | .int .u8=>do
    let n <- sizeOf? P e
    if n=1 then some (.toBytes e (<- bT x)) else none
   | _=>none
  | _,_=>none
 | .makeInterface t x=>do
  match <- P.underlying t with
  | .interface _=>none
  | _=>some (.iface t (<- bT x))
 | .makeFunc f first cap=>do some (.mkfn f (<- first.toList.mapM bT) (<- cap.toList.mapM bT))
 | .makeMap t r=>do
  match <- P.underlying t with
  | .map _ _=>if r.isNone then some .mkmap else none
  | _=>none
 | .makeSlice t l c=>do
  match <- P.underlying t with
  | .slice e=>do some (.mksl e (<- sizeOf? P e) (<- bytesOf? P e) (<- zeroCells? P e) (<- bT l) (<- bT c))
  | _=>none
 | .slice t x lo hi mx=>do
  match <- P.underlying t with
  | .slice e=>do some (.slice (<- sizeOf? P e) (<- bT x) (<- BI lo) (<- BI hi) (<- BI mx))
  | .string=>if mx.isSome then none else do some (.sliceStr (<- bT x) (<- BI lo) (<- BI hi))
  | _=>none
 | .fieldAddr t x i=>do
  match <- P.underlying t with
  | .struct fs=>do
   let f <- fs[i]?
   let n <- sizeOf? P f.type
   if n=0 then none else some (.fieldAddr f.offset (<- bT x))
  | _=>none
 | .field t x i=>do
  match <- P.underlying t with
  | .struct fs=>do let f <- fs[i]?; some (.field (<- qm P f.type) f.offset (<- bT x))
  | _=>none
 | .indexAddr t x i=>do
  match <- P.underlying t with
  | .slice e=>do some (.indexAddr (<- sizeOf? P e) (<- bT x) (<- bT i))
  | .array n e=>match Iy x with
   | some cs=>do some (.globIdx cs n (<- sizeOf? P e) (<- bT i))
   | none=>do some (.indexArr n (<- sizeOf? P e) (<- bT x) (<- bT i))
  | _=>none
 | .index t x i=>do
  match <- P.underlying t with
  | .array n e=>do some (.indexAgg n (<- sizeOf? P e) (<- qm P e) (<- bT x) (<- bT i))
  | .string=>do some (.indexStr (<- bT x) (<- bT i))
  | _=>none
 | .lookup t x i ok=>do
  match <- P.underlying t with
  | .map k e =>
   if CC P k then do
    let z <- (P.info? e).bind (·.zero)
    some (.lookup (<- ju P k) (<- sO z) (<- bT x) (<- bT i) ok)
   else none
  | _=>none
 | .mapUpdate t m k v | .insert t m k v=>do
  match <- P.underlying t with
  | .map kt _=>if CC P kt then do some (.mapUpd (<- ju P kt) (<- bT m) (<- bT k) (<- bT v)) else none
  | _=>none
 | .extract x i=>do some (.extract i (<- bT x))
 | .call c=>do
  let args <- c.args.toList.mapM bT
  match c.callee with
  | .value f=>do some (.call (<- bT f) args)
  | .invoke _ _=>none
  | .builtin b =>
   match b,args,c.argTypes.toList with
   | .len,[x],[t]=>do
    match <- P.underlying t with
    | .slice _=>some (.len x)
    | .string=>some (.lenStr x)
    | .map _ _=>some (.lenMap x)
    | _=>none
   | .cap,[x],[t]=>do
    match <- P.underlying t with
    | .slice _=>some (.cap x)
    | _=>none
   | .min,xs,_=>some (.min xs)
   | .max,xs,_=>some (.max xs)
   | .append,[x,y],[t,t']=>do
    match <- P.underlying t,<- P.underlying t' with
    | .slice e,.slice _=>do
     let n <- sizeOf? P e; let z <- zeroCells? P e
     if z.length=n then some (.append n (<- bytesOf? P e) e z x y) else none
    | .slice e,.string=>do
     let n <- sizeOf? P e; let z <- zeroCells? P e
     if z.length=n then some (.append n (<- bytesOf? P e) e z x y) else none
    | .slice e,.int .i64=>do
     let n <- sizeOf? P e; let z <- zeroCells? P e
     if z.length=n then some (.appendZ n (<- bytesOf? P e) e z x y) else none
    | _,_=>none
   | .clear,[x],[t]=>do
    match <- P.underlying t with
    | .slice e=>do some (.clear (<- sizeOf? P e) (<- zeroCells? P e) x)
    | _=>none
   | .copy,[x,y],[t,_]=>do
    match <- P.underlying t with
    | .slice e=>do some (.copy (<- sizeOf? P e) x y)
    | _=>none
   | _,_,_=>none
 | .panic x=>(bT x).map .panic
 | .typeAssert x _ t ok=>do
  match <- P.underlying t with
  | .interface _=>none
  | _=>do
   let z <- (P.info? t).bind (·.zero)
   some (.tassert t (<- sO z) ok (<- bT x))
 | .range t x=>do
  match <- P.underlying t with
  | .string=>some (.rangeS (<- bT x))
  | _=>none
 | .next x s=>if s=true then (bT x).map .nextS else none
 | _=>none
def BJ (ops:Array Oper):Option (Nat × Bool)->Option (Option (Nat × Bool))
 | none=>some none
 | some (j,want)=>match ops[j]? with
  | none=>none
  | some o'=>match o'.dst with
   | none=>none
   | some d=>some (some (d,want))
def OX (ops:Array Oper) (o:Oper):Option EP :=
 (BJ ops o.guard).map fun g=>{ dst:=o.dst,op:=(GG P o).getD .bad,guard:=g }
def qA:Src->List Nat
 | .t n=>[n]
 | .c _=>[]
def oT:Option Src->List Nat
 | some s=>qA s
 | none=>[]
def AOp.slots:AOp->List Nat
 | .mv x | .box _ x | .load _ x | .nilCheck x | .un _ x | .conv _ x | .strId x | .iface _ x | .fieldAddr _ x | .field _ _ x | .extract _ x | .len x | .lenStr x | .lenMap x | .cap x | .clear _ _ x | .toStr x | .toBytes _ x | .rangeS x | .nextS x | .tassert _ _ _ x | .globIdx _ _ _ x | .panic x=>qA x
 | .pick a b c=>qA a++qA b++qA c
 | .build _ ps | .buildSlice _ _ _ _ ps=>ps.flatMap fun p=>qA p.2
 | .store _ x y | .bin _ _ x y | .eqAgg _ _ x y | .indexAddr _ x y | .indexArr _ _ x y | .indexAgg _ _ _ x y | .indexStr x y | .lookup _ _ x y _ | .mksl _ _ _ _ x y | .append _ _ _ _ x y | .appendZ _ _ _ _ x y | .copy _ x y=>qA x++qA y
 | .mkfn _ a b=>a.flatMap qA++b.flatMap qA
 | .slice _ x a b c=>qA x++oT a++oT b++oT c
 | .sliceStr x a b=>qA x++oT a++oT b
 | .mapUpd _ a b c=>qA a++qA b++qA c
 | .min xs | .max xs=>xs.flatMap qA
 | .call f xs=>qA f++xs.flatMap qA
 | .alloc .. | .mkmap | .bad | .globLoad ..=>[]
def lH (o:Oper):List Nat:=(o.after.toList.filter (Region.binds .any)).map (·.on)
def Qj (ops:List Oper):List (List Nat) :=
 ops.foldl (fun acc o=>acc++[((lH o).flatMap fun j=>j :: acc.getD j []).eraseDups]) []
def Rk (a:AOp):Nat:=if a.isPure || a.looks then 0 else if a.makes then 1 else 2
structure DI where
 dst:Option Nat
 op:AOp
 guard:Option (Nat × Bool)
 preds:List Nat
 cls:Nat
 deriving Inhabited
def JI (l:List DI) (i:Nat) (p:List Nat) (t:Nat):Option Nat :=
 (List.range i).foldl (fun acc j=>if p.contains j && ((l.getD j default).dst == some t) then some j else acc) none
def aG (l:List DI):List Nat:=(List.range l.length).filter fun i=>(l.getD i default).cls == 2
def dC (l:List DI) (k:Nat):List Nat :=
 match k with
 | 0=>[]
 | k+1=>let w:=(aG l).getD k 0; (List.range l.length).filter fun a=>(l.getD a default).cls == 1 && (l.getD w default).preds.contains a
def JE (l:List DI) (i:Nat):List (Nat × List Nat) :=
 let d:=l.getD i default
 let ws:=aG l
 let lo:=(ws.filter fun w=>d.preds.contains w).length
 let hi:=if d.cls == 2 then lo else ws.length-(ws.filter fun w=>(l.getD w default).preds.contains i).length
 (List.range (hi+1-lo)).map fun x=>(lo+x,(List.range l.length).filter fun a=>(l.getD a default).cls == 1 && d.preds.contains a && !(dC l (lo+x)).contains a)
def xB (l:List DI):List Nat:=(List.range l.length).filter fun a=>(l.getD a default).cls == 1 && !(dC l (aG l).length).contains a
def Jp (ops:List Oper) (l:List DI):Bool :=
 (List.range l.length).all fun i=>((lH (ops.getD i default)).all fun j=>decide (j<i)) &&
  (l.getD i default).preds.all fun p=>(lH (ops.getD i default)).any fun j=>p == j || (l.getD j default).preds.contains p
def Jq (l:List DI):Bool :=
 (List.range l.length).all fun j=>(List.range j).all fun i =>
  ((l.getD i default).dst.isNone || (l.getD i default).dst != (l.getD j default).dst || (l.getD j default).preds.contains i) &&
  (!((l.getD i default).cls == 2 && (l.getD j default).cls == 2) || (l.getD j default).preds.contains i)
def NU (l:List DI) (i:Nat) (u:Nat × Option Nat):Bool :=
 match u.2 with
 | some j=>(l.getD i default).preds.contains j && (l.getD j default).dst == some u.1 && decide (j<i) &&
   (List.range l.length).all fun j'=>(l.getD j' default).dst != some u.1 || decide (j'<=j) || (l.getD j' default).preds.contains i || j' == i
 | none=>(List.range l.length).all fun j'=>(l.getD j' default).dst != some u.1 || j' == i || (l.getD j' default).preds.contains i
def NT (l:List DI) (ds:List jx):Bool:=(List.range l.length).all fun i=>(ds.getD i default).uses.all (NU l i)
def NW (l:List DI) (i:Nat) (p:Nat × List Nat):Bool :=
 p.2.all fun a=>(l.getD i default).preds.contains a && (l.getD a default).cls == 1 && !(dC l p.1).contains a && decide (a<i)
def NV (l:List DI) (i:Nat) (looks:List (Nat × List Nat)):Bool :=
 (List.range ((aG l).length+1)).all fun k =>
  ((List.range (aG l).length).any fun q=>((l.getD i default).preds.contains ((aG l).getD q 0) && decide (k<=q)) || ((l.getD ((aG l).getD q 0) default).preds.contains i && decide (q<k))) ||
  looks.any fun p=>p.1 == k
def Rc (l:List DI) (i:Nat) (looks:List (Nat × List Nat)):Bool :=
 match looks with
 | [p]=>decide (p.1<(aG l).length) && (aG l).getD p.1 0 == i && (List.range l.length).all fun a=>(dC l (p.1+1)).contains a == ((dC l p.1).contains a || p.2.contains a)
 | _=>false
def Jr (l:List DI) (ds:List jx):Bool :=
 (List.range l.length).all fun i=>((ds.getD i default).looks.all (NW l i)) &&
  (if (l.getD i default).cls=0 then NV l i (ds.getD i default).looks else if (l.getD i default).cls=1 then true else Rc l i (ds.getD i default).looks)
def IL (ops:List Oper) (l:List DI) (ds:List jx):Bool:=Jp ops l && Jq l && NT l ds && Jr l ds
def TP (ops:Array Oper) (pr:List (List Nat)) (o:Oper) (i:Nat):Option DI :=
 (BJ ops o.guard).map fun g=>{ dst:=o.dst,op:=(GG P o).getD .bad,guard:=g,preds:=pr.getD i [],cls:=Rk ((GG P o).getD .bad) }
def Ka (ops:Array Oper):Option (List jx × List Nat) :=
 let pr:=Qj ops.toList
 match (ops.toList.zipIdx).mapM fun (o,i)=>TP P ops pr o i with
 | none=>none
 | some l =>
  let ds:=(List.range l.length).map fun i =>
   let d:=l.getD i default
   { dst:=d.dst,op:=d.op,guard:=d.guard,uses:=((d.op.slots++(match d.guard with | some (t,_)=>[t] | none=>[])).eraseDups).map fun t=>(t,JI l i d.preds t),cls:=d.cls,looks:=JE l i:jx }
  if IL ops.toList l ds=true then some (ds,xB l) else none
def Ek:ACode->Option Nat
 | .seq a b=>match Ek a with | some l=>some l | none=>Ek b
 | .scopeL .skip l .skip=>some l
 | _=>none
def bO:ACode->Nat->Option ACode
 | .seq a b,l=>match bO a l with | some r=>some (.seq r b) | none=>bO b l
 | .scopeL .skip l' .skip,l=>if l' == l then some .skip else none
 | _,_=>none
def DH (a:ACode):ACode:=match Ek a with
 | some l=>match bO a l with
  | some r=>.scopeL a l r
  | none=>.scope a
 | none=>.scope a
def Je:ACode:=.rangeFunc (.c .undef) [] .skip .skip
def bw:Code->Option ACode
 | .skip=>some .skip
 | .label l=>some (.scopeL .skip l .skip)
 | .region _ ops draw=>if draw then (match Ka P ops with | some p=>some (.draw p.1 p.2) | none=>some Je) else (ops.toList.mapM (OX P ops)).map .region
 | .seq a b=>do some (.seq (<- bw a) (<- bw b))
 | .cond c a b=>do some (.cond (<- bT c) (<- bw a) (<- bw b))
 | .block id a=>do some (.block id (<- bw a))
 | .loop a=>do some (.loop (<- bw a))
 | .rangeFunc f ps a b=>do some (.rangeFunc (<- bT f) ps.toList (<- bw a) (<- bw b))
 | .exit id=>some (.exit id)
 | .goto l=>some (.goto l)
 | .ret=>some .ret
 | .scope a=>do some (DH (<- bw a))
 | .refuse _=>some Je
def GF:ResultVar->Option (Nat × Option (Option Nat))
 | .tmp t=>some (t,none)
 | .cell a t=>do some (a,some (<- qm P t))
def SM (fn:Func):Option aA:=do
 if fn.name = "math/bits.Add64" then some { nparams:=3,ntmps:=3,results:=[],body:=.skip,ext:=some .add64 } else
 if fn.name = "math/bits.Sub64" then some { nparams:=3,ntmps:=3,results:=[],body:=.skip,ext:=some .sub64 } else
 if fn.origin = "slices.Insert" then do
  match <- P.underlying (<- fn.params[0]?) with
  | .slice e=>some { nparams:=3,ntmps:=3,results:=[],body:=.skip,ext:=some (.insert (<- sizeOf? P e) (<- bytesOf? P e) e) }
  | _=>none
 else do
 let b <- fn.body
 if fn.name = "runtime.NumGoroutine" then none else
 some { nparams:=fn.params.size+fn.nfree,ntmps:=fn.ntmps,results:=(<- fn.results.toList.mapM (GF P)),body:=(<- bw P b) }
end
structure BT where
 blk:Nat
 N:Nat
 sz:Nat
abbrev Mu:=Nat->Option BT
inductive VR (μ:Mu) (F:Nat->Prop) (w:World):AV->Value->Prop where
 | undef (v:Value):VR μ F w .undef v
 | bool (b:Bool):VR μ F w (.bool b) (.bool b)
 | int (k:IntKind) (n:Int):VR μ F w (.int k n) (.int k n)
 | str (s:ByteArray):VR μ F w (.str s) (.string s)
 | nilPtr:VR μ F w .nilPtr (.pointer none)
 | nilSl:VR μ F w .nilSl (.slice none 0 0)
 | nilFn:VR μ F w .nilFn .nilFunc
 | nilIf:VR μ F w .nilIf .nilIface
 | nilMap:VR μ F w .nilMap (.map none)
 | agg (cs:List AV) (vs:Array Value):cs.length=vs.size->(∀ (i:Nat) (c:AV) (v:Value),cs[i]? = some c->vs[i]? = some v->VR μ F w c v)->VR μ F w (.agg cs) (.agg vs)
 | tup (cs:List AV) (vs:Array Value):cs.length=vs.size->(∀ (i:Nat) (c:AV) (v:Value),cs[i]? = some c->vs[i]? = some v->VR μ F w c v)->VR μ F w (.tup cs) (.tuple vs)
 | sl0 (a:Addr) (cap:Nat):VR μ F w (.sl [] 0) (.slice (some a) 0 cap)
 | sl (cells:List AV) (n cap blk off:Nat) (arr:Array Value) (ty:TypeId) (fr:Nat × Nat):F blk->w.heap[blk]? = some (.cells arr ty fr)->n<=cap->off+cells.length<=arr.size ->
   (∀ (i:Nat) (c:AV) (v:Value),cells[i]? = some c->arr[off+i]? = some v->VR μ F w c v)->VR μ F w (.sl cells n) (.slice (some ⟨blk,off,none⟩) n cap)
 | dp (cells:List AV) (o blk off:Nat) (arr:Array Value) (ty:TypeId) (fr:Nat × Nat):F blk->w.heap[blk]? = some (.cells arr ty fr)->off+cells.length<=arr.size ->
   (∀ (i:Nat) (c:AV) (v:Value),cells[i]? = some c->arr[off+i]? = some v->VR μ F w c v)->VR μ F w (.dp cells o) (.pointer (some ⟨blk,off+o,none⟩))
 | own (b off n c sz:Nat) (ex:Bool) (L:BT) (cap:Nat):μ b=some L->L.sz=sz->n<=c->c<=cap->(ex=true->cap=c)->off+cap*sz<=L.N->VR μ F w (.own b off n c sz ex) (.slice (some ⟨L.blk,off,none⟩) n cap)
 | ptr (b off:Nat) (L:BT):μ b=some L->VR μ F w (.ptr b off) (.pointer (some ⟨L.blk,off,none⟩))
 | fn (f:Fn) (as bs:List AV) (us vs:Array Value):as.length=us.size->(∀ (i:Nat) (c:AV) (v:Value),as[i]? = some c->us[i]? = some v->VR μ F w c v) ->
   bs.length=vs.size->(∀ (i:Nat) (c:AV) (v:Value),bs[i]? = some c->vs[i]? = some v->VR μ F w c v)->VR μ F w (.fn f as bs) (.func f us vs)
 | ifc (t:Nat) (x:AV) (v:Value):VR μ F w x v->VR μ F w (.ifc t x) (.iface t v)
 | map (b:Nat) (L:BT):μ b=some L->VR μ F w (.map b) (.map (some L.blk))
 | loopv (b:Nat) (L:BT):μ b=some L->VR μ F w (.loopv b) (.func (.yield L.blk) #[] #[])
def VR.mono {μ μ':Mu} {F F':Nat->Prop} {w w':World} (hμ:∀ b L,μ b=some L->μ' b=some L) (hF:∀ c,F c->F' c)
  (hw:∀ c,F c->w'.heap[c]? = w.heap[c]?) {a:AV} {v:Value} (h:VR μ F w a v):VR μ' F' w' a v:=by
 induction h with
 | undef v=>exact .undef v
 | bool b=>exact .bool b
 | int k n=>exact .int k n
 | str s=>exact .str s
 | nilPtr=>exact .nilPtr
 | nilSl=>exact .nilSl
 | nilFn=>exact .nilFn
 | nilIf=>exact .nilIf
 | nilMap=>exact .nilMap
 | agg cs vs h _ ih=>exact .agg cs vs h ih
 | tup cs vs h _ ih=>exact .tup cs vs h ih
 | sl0 a cap=>exact .sl0 a cap
 | sl cells n cap blk off arr ty fr hf hb hn ho _ ih=>exact .sl cells n cap blk off arr ty fr (hF _ hf) ((hw _ hf).trans hb) hn ho ih
 | dp cells o blk off arr ty fr hf hb ho _ ih=>exact .dp cells o blk off arr ty fr (hF _ hf) ((hw _ hf).trans hb) ho ih
 | own b off n c sz ex L cap h1 h2 h3 h4 h5 h6=>exact .own b off n c sz ex L cap (hμ _ _ h1) h2 h3 h4 h5 h6
 | ptr b off L h=>exact .ptr b off L (hμ _ _ h)
 | fn f as bs us vs h1 _ h3 _ ih1 ih2=>exact .fn f as bs us vs h1 ih1 h3 ih2
 | ifc t x v _ ih=>exact .ifc t x v ih
 | map b L h=>exact .map b L (hμ _ _ h)
 | loopv b L h=>exact .loopv b L (hμ _ _ h)
def LR (μ:Mu) (F:Nat->Prop) (w:World) (as:List AV) (vs:List Value):Prop:=as.length=vs.length/\∀ (i:Nat) (c:AV) (v:Value),as[i]? = some c->vs[i]? = some v->VR μ F w c v
def LR.nil {μ:Mu} {F:Nat->Prop} {w:World}:LR μ F w [] []:=⟨rfl,fun i c v h=>by simp at h⟩
def LR.cons {μ:Mu} {F:Nat->Prop} {w:World} {a:AV} {v:Value} {as:List AV} {vs:List Value} (h:VR μ F w a v) (hs:LR μ F w as vs):LR μ F w (a :: as) (v :: vs):=by
 refine ⟨by simp [hs.1],fun i c u h1 h2=>?_⟩;cases i with
 | zero=>simp at h1 h2; subst h1; subst h2; exact h
 | succ i=>simp at h1 h2; exact hs.2 i c u h1 h2
theorem LR.head {μ:Mu} {F:Nat->Prop} {w:World} {a:AV} {v:Value} {as:List AV} {vs:List Value} (hs:LR μ F w (a :: as) (v :: vs)):VR μ F w a v:=hs.2 0 a v rfl rfl
def LR.tail {μ:Mu} {F:Nat->Prop} {w:World} {a:AV} {v:Value} {as:List AV} {vs:List Value} (hs:LR μ F w (a :: as) (v :: vs)):LR μ F w as vs :=
 ⟨by have:=hs.1; simp at this; exact this,fun i c u h1 h2=>hs.2 (i+1) c u (by simpa using h1) (by simpa using h2)⟩
def LR.mono {μ μ':Mu} {F F':Nat->Prop} {w w':World} (hμ:∀ b L,μ b=some L->μ' b=some L) (hF:∀ c,F c->F' c)
  (hw:∀ c,F c->w'.heap[c]? = w.heap[c]?) {as:List AV} {vs:List Value} (h:LR μ F w as vs):LR μ' F' w' as vs :=
 ⟨h.1,fun i c v h1 h2=>(h.2 i c v h1 h2).mono hμ hF hw⟩
def LR.append {μ:Mu} {F:Nat->Prop} {w:World}:∀ {as:List AV} {vs:List Value} {bs:List AV} {us:List Value},LR μ F w as vs->LR μ F w bs us->LR μ F w (as++bs) (vs++us)
 | [],[],_,_,_,h=>h
 | [],_ :: _,_,_,h,_=>by have:=h.1; simp at this
 | _ :: _,[],_,_,h,_=>by have:=h.1; simp at this
 | a :: as,v :: vs,_,_,h,h'=>LR.cons h.head (LR.append h.tail h')
def LR.of_agg {μ:Mu} {F:Nat->Prop} {w:World} {cs:List AV} {vs:Array Value} (h1:cs.length=vs.size) (h2:∀ (i:Nat) (c:AV) (v:Value),cs[i]? = some c->vs[i]? = some v->VR μ F w c v):LR μ F w cs vs.toList :=
 ⟨by simpa using h1,fun i c v hc hv=>h2 i c v hc (by simpa using hv)⟩
def LR.take {μ:Mu} {F:Nat->Prop} {w:World} {as:List AV} {vs:List Value} (h:LR μ F w as vs) (n:Nat):LR μ F w (as.take n) (vs.take n):=by
 refine ⟨by simp [h.1],fun i c v h1 h2=>?_⟩;rw [Vv] at h1 h2;split at h1
 ·rename_i hlt; rw [if_pos hlt] at h2; exact h.2 i c v h1 h2
 ·cases h1
def LR.drop {μ:Mu} {F:Nat->Prop} {w:World} {as:List AV} {vs:List Value} (h:LR μ F w as vs) (n:Nat):LR μ F w (as.drop n) (vs.drop n):=by
 refine ⟨by simp [h.1],fun i c v h1 h2=>?_⟩;rw [Vw] at h1 h2;exact h.2 _ c v h1 h2
def LR.get {μ:Mu} {F:Nat->Prop} {w:World} {as:List AV} {vs:List Value} (h:LR μ F w as vs) {i:Nat} {c:AV} (hc:as[i]? = some c):∃ v,vs[i]? = some v/\VR μ F w c v:=by
 have hi:i<as.length:=(Vm.1 hc).1;exact ⟨vs[i]'(h.1 ▸ hi),U7 _,h.2 i c _ hc (U7 _)⟩
def LR.set {μ:Mu} {F:Nat->Prop} {w:World} {as:List AV} {vs:List Value} (h:LR μ F w as vs) (i:Nat) {a:AV} {v:Value} (hv:VR μ F w a v):LR μ F w (as.set i a) (vs.set i v):=by
 refine ⟨by simp [h.1],fun j c u h1 h2=>?_⟩;by_cases e:i=j
 ·subst e;rw [XA] at h1 h2;cases hc:as[i]? with
  | none=>rw [hc] at h1; cases h1
  | some x =>
   obtain ⟨y,hy,_⟩:=h.get hc;rw [hc] at h1; rw [hy] at h2;cases h1; cases h2; exact hv
 ·rw [XJ e] at h1 h2;exact h.2 j c u h1 h2
def LR.map {μ:Mu} {F:Nat->Prop} {w:World} {α:Type} (f:α->AV) (g:α->Value):∀ (l:List α),(∀ x,x∈l->VR μ F w (f x) (g x))->LR μ F w (l.map f) (l.map g)
 | [],_=>LR.nil
 | x :: l,h=>LR.cons (h x (Vh ..)) (LR.map f g l fun y hy=>h y (Vd _ hy))
def VR.oneCell {μ:Mu} {F:Nat->Prop} {w:World} {a:AV} {v:Value} (h:VR μ F w a v) (h1:a.one=true):v.oneCell'=true:=by
 cases h <;> first | rfl | (simp [AV.one] at h1)
def I6 (es:List MapEntry) (clock:Nat):Prop:=(∀ e∈es,e.born<clock)/\(es.map (·.born)).Nodup
def ER (P:Program) (μ:Mu) (F:Nat->Prop) (w:World) (L:BT):Ent->Prop
 | .cells cs ty rw=>∃ arr fr,w.heap[L.blk]? = some (.cells arr ty fr)/\arr.size=L.N/\(P.info? ty).map (·.size)=some L.sz/\cs.length<=arr.size /\
   (∀ (i:Nat) (c:AV) (v:Value),cs[i]? = some c->arr[i]? = some v->VR μ F w c v)/\(rw=true->¬ F L.blk/\fr=(0,0))/\(rw=false->True)
 | .map es=>¬ F L.blk/\∃ entries clock,w.heap[L.blk]? = some (.map entries clock)/\LR μ F w (es.map (·.1)) (entries.toList.map (·.key))/\LR μ F w (es.map (·.2)) (entries.toList.map (·.val))/\I6 entries.toList clock
 | .mapR es=>∃ entries clock,w.heap[L.blk]? = some (.map entries clock)/\LR μ F w (es.map (·.1)) (entries.toList.map (·.key))/\LR μ F w (es.map (·.2)) (entries.toList.map (·.val))/\I6 entries.toList clock
 | .loop T ps asg body st pe=>¬ F L.blk/\∃ (r:Loop),w.heap[L.blk]? = some (.loop r)/\r.state=st/\LR μ F w T r.tmps.toList/\r.params.toList=ps/\bw P r.assign=some asg/\bw P r.body=some body /\
   (match pe,r.pending with | none,none=>True | some c,some c'=>bw P c'=some c | _,_=>False)
 | .siter s pos=>¬ F L.blk/\w.heap[L.blk]? = some (.stringIter s pos)
def Ent.rw:Ent->Bool
 | .cells _ _ rw=>rw
 | .mapR _=>false
 | _=>true
structure HR (P:Program) (μ:Mu) (F:Nat->Prop) (H:Heap) (w:World):Prop where
 dom:∀ b L,μ b=some L->b<H.next/\L.blk<w.heap.size
 fb:∀ c,F c->c<w.heap.size
 ent:∀ b e,H.get b=some e->∃ L,μ b=some L/\ER P μ F w L e
 inj:∀ b b' e e' L L',H.get b=some e->H.get b'=some e'->μ b=some L->μ b'=some L'->L.blk=L'.blk->b=b'
 gl:∀ g cs,Mr g=some cs->VR μ F w (.dp cs 0) (.pointer (some ⟨g,0,none⟩))
def Heap.rwAt (H:Heap) (b:Nat):Prop:=∃ e,H.get b=some e/\e.rw=true
def Tp (w w':World):Prop:=w'.tape=w.tape/\(Pe->w.drawn<=w'.drawn)
def Tp.same {w w':World} (h:w'.tape=w.tape) (h':w'.drawn=w.drawn):Tp w w':=⟨h,fun _=>XK h'.symm⟩
def Tp.draw {w:World}:Tp w { w with drawn:=w.drawn+1 }:=⟨rfl,fun _=>Nat.le_succ _⟩
def Tp.trans {w w' w'':World} (h:Tp w w') (h':Tp w' w''):Tp w w'':=⟨h'.1.trans h.1,fun k=>Vn (h.2 k) (h'.2 k)⟩
structure Stp (I:Nat->Prop) (P:Program) (μ:Mu) (F:Nat->Prop) (H:Heap) (w:World) (μ':Mu) (F':Nat->Prop) (H':Heap) (w':World):Prop where
 mu:∀ b L,μ b=some L->μ' b=some L
 fr:∀ c,F c->F' c
 size:w.heap.size<=w'.heap.size
 keep:∀ c,c<w.heap.size->(∀ b L,H.rwAt b->μ b=some L->L.blk≠c)->w'.heap[c]? = w.heap[c]?
 rw:∀ b L,H'.rwAt b->μ' b=some L->w.heap.size<=L.blk\/∃ b0 L0,H.rwAt b0/\μ b0=some L0/\L0.blk=L.blk
 next:H.next<=H'.next
 new:∀ b,b<H.next->¬ I b->μ b=none->μ' b=none
 rng:∀ b L,μ' b=some L->(∃ b0 L0,μ b0=some L0/\L0.blk=L.blk)\/w.heap.size<=L.blk
 old:∀ b e,H'.get b=some e->b<H.next->¬ I b->∃ e0,H.get b=some e0
 alv:∀ b e L,H'.get b=some e->μ' b=some L->w.heap.size<=L.blk\/∃ b0 e0 L0,H.get b0=some e0/\μ b0=some L0/\L0.blk=L.blk
 tape:Tp w w'
 os:w'.os=w.os
 out:w'.output=w.output
def ER.notF {P:Program} {μ:Mu} {F:Nat->Prop} {w:World} {L:BT} {e:Ent} (h:ER P μ F w L e) (hr:e.rw=true):¬ F L.blk:=by
 cases e with
 | cells cs ty rw=>obtain ⟨_,_,_,_,_,_,_,h6,_⟩:=h; exact (h6 hr).1
 | map es=>exact h.1
 | loop T ps asg body st pe=>exact h.1
 | siter s pos=>exact h.1
 | mapR es=>cases hr
def HR.rw_notF {P:Program} {μ:Mu} {F:Nat->Prop} {H:Heap} {w:World} (h:HR P μ F H w) {b:Nat} {L:BT} (hb:H.rwAt b) (hL:μ b=some L):¬ F L.blk:=by
 obtain ⟨e,he,hr⟩:=hb;obtain ⟨L',hL',hE⟩:=h.ent b e he;rw [hL] at hL'; cases hL';exact hE.notF hr
section
variable {I:Nat->Prop} {P:Program} {μ:Mu} {F:Nat->Prop} {H:Heap} {w:World} {μ':Mu} {F':Nat->Prop} {H':Heap} {w':World}
def Stp.keepF (h:Stp I P μ F H w μ' F' H' w') (hH:HR P μ F H w):∀ c,F c->w'.heap[c]? = w.heap[c]? :=
 fun c hc=>h.keep c (hH.fb c hc) fun _ _ hb hL e=>hH.rw_notF hb hL (e ▸ hc)
def Stp.vr (h:Stp I P μ F H w μ' F' H' w') (hH:HR P μ F H w) {a:AV} {v:Value} (hv:VR μ F w a v):VR μ' F' w' a v:=hv.mono h.mu h.fr (h.keepF hH)
def Stp.lr (h:Stp I P μ F H w μ' F' H' w') (hH:HR P μ F H w) {as:List AV} {vs:List Value} (hv:LR μ F w as vs):LR μ' F' w' as vs:=hv.mono h.mu h.fr (h.keepF hH)
def Stp.refl (I:Nat->Prop) (P:Program) (μ:Mu) (F:Nat->Prop) (H:Heap) (w:World):Stp I P μ F H w μ F H w :=
 ⟨fun _ _ h=>h,fun _ h=>h,Vb _,fun _ _ _=>rfl,fun b L hb hL=>.inr ⟨b,L,hb,hL,rfl⟩,Vb _,fun _ _ _ h=>h,fun b L h=>.inl ⟨b,L,h,rfl⟩,fun b e h _ _=>⟨e,h⟩,fun b e L h hL=>.inr ⟨b,e,L,h,hL,rfl⟩,Tp.same rfl rfl,rfl,rfl⟩
def Stp.mono {I':Nat->Prop} (hI:∀ b,I b->I' b) (h:Stp I P μ F H w μ' F' H' w'):Stp I' P μ F H w μ' F' H' w' :=
 ⟨h.mu,h.fr,h.size,h.keep,h.rw,h.next,fun b hb hn=>h.new b hb (fun hi=>hn (hI b hi)),h.rng,fun b e hb hl hn=>h.old b e hb hl (fun hi=>hn (hI b hi)),h.alv,h.tape,h.os,h.out⟩
def Stp.trans {μ₂:Mu} {F₂:Nat->Prop} {H₂:Heap} {w₂:World} (h:Stp I P μ F H w μ' F' H' w') (h':Stp I P μ' F' H' w' μ₂ F₂ H₂ w₂) :
  Stp I P μ F H w μ₂ F₂ H₂ w₂ where
 mu b L hb:=h'.mu _ _ (h.mu _ _ hb)
 fr c hc:=h'.fr _ (h.fr _ hc)
 size:=Vn h.size h'.size
 keep c hc hn:=by
  rw [h'.keep c (Vq hc h.size) ?_,h.keep c hc hn];intro b L hb hL e;rcases h.rw b L hb hL with hge | ⟨b0,L0,h0,hL0,e0⟩
  ·omega
  ·exact hn b0 L0 h0 hL0 (e0.trans e)
 rw b L hb hL:=by
  rcases h'.rw b L hb hL with hge | ⟨b1,L1,h1,hL1,e1⟩
  ·exact .inl (Vn h.size hge)
  ·rcases h.rw b1 L1 h1 hL1 with hge | ⟨b0,L0,h0,hL0,e0⟩
   ·exact .inl (e1 ▸ hge)
   ·exact .inr ⟨b0,L0,h0,hL0,e0.trans e1⟩
 next:=Vn h.next h'.next
 new b hb hi hn:=h'.new b (Vq hb h.next) hi (h.new b hb hi hn)
 rng b L hb:=by
  rcases h'.rng b L hb with ⟨b1,L1,h1,e1⟩ | hge
  ·rcases h.rng b1 L1 h1 with ⟨b0,L0,h0,e0⟩ | hge
   ·exact .inl ⟨b0,L0,h0,e0.trans e1⟩
   ·exact .inr (e1 ▸ hge)
  ·exact .inr (Vn h.size hge)
 old b e hb hl hn:=by
  obtain ⟨e1,h1⟩:=h'.old b e hb (Vq hl h.next) hn;exact h.old b e1 h1 hl hn
 alv b e L hb hL:=by
  rcases h'.alv b e L hb hL with hge | ⟨b1,e1,L1,h1,hL1,q1⟩
  ·exact .inl (Vn h.size hge)
  ·rcases h.alv b1 e1 L1 h1 hL1 with hge | ⟨b0,e0,L0,h0,hL0,q0⟩
   ·exact .inl (q1 ▸ hge)
   ·exact .inr ⟨b0,e0,L0,h0,hL0,q0.trans q1⟩
 tape:=h.tape.trans h'.tape
 os:=h'.os.trans h.os
 out:=h'.out.trans h.out
end
def D8.of_eq {x y:Nat} (h:D8.of x=D8.of y):x % 8=y % 8:=by
 have key:∀ (a b c a' b' c':Bool),(Bool.casesOn (motive:=fun _=>D8) a (Bool.casesOn (motive:=fun _=>D8) b (Bool.casesOn (motive:=fun _=>D8) c .d0 .d1) (Bool.casesOn (motive:=fun _=>D8) c .d2 .d3)) (Bool.casesOn (motive:=fun _=>D8) b (Bool.casesOn (motive:=fun _=>D8) c .d4 .d5) (Bool.casesOn (motive:=fun _=>D8) c .d6 .d7))) =
   (Bool.casesOn (motive:=fun _=>D8) a' (Bool.casesOn (motive:=fun _=>D8) b' (Bool.casesOn (motive:=fun _=>D8) c' .d0 .d1) (Bool.casesOn (motive:=fun _=>D8) c' .d2 .d3)) (Bool.casesOn (motive:=fun _=>D8) b' (Bool.casesOn (motive:=fun _=>D8) c' .d4 .d5) (Bool.casesOn (motive:=fun _=>D8) c' .d6 .d7)))->a=a'/\b=b'/\c=c':=by decide
 obtain ⟨h1,h2,h3⟩:=key _ _ _ _ _ _ h;have bit:∀ u v:Nat,Nat.beq (Nat.mod u 2) 1=Nat.beq (Nat.mod v 2) 1->u % 2=v % 2:=by
  intro u v hb;have hu:Nat.mod u 2=u % 2:=rfl;have hv:Nat.mod v 2=v % 2:=rfl;rw [hu,hv] at hb;rcases Y7 u with e | e <;> rcases Y7 v with e' | e' <;> rw [e,e'] at hb ⊢ <;> first | rfl | cases hb
 have b1:=bit _ _ h1;have b2:=bit _ _ h2;have b3:=bit _ _ h3;have e1:∀ u v:Nat,Nat.div u v=u / v:=fun _ _=>rfl;rw [e1,e1] at b1 b2;omega
def Q.at_up {α:Type} (d d':D8) (u:α->α) (q:Q α):Q.at d (Q.up d' u q)=if d=d' then u (Q.at d q) else Q.at d q:=by
 cases q;cases d <;> cases d' <;> rfl
def Tr.get_set (t:Tr) (n:Nat) (e:Option Ent) (m:Nat):(t.set n e).get m=if m=n then e else t.get m:=by
 have dv:∀ u v:Nat,Nat.div u v=u / v:=fun _ _=>rfl;unfold Tr.set Tr.get;cases hn:Nat.ble n 16777215 with
 | false =>
  cases hm:Nat.ble m 16777215 with
  | false=>simp only [IV]
  | true =>
   have hne:m≠n:=fun h=>by rw [h,hn] at hm; cases hm
   simp only [if_neg hne]
 | true =>
  cases hm:Nat.ble m 16777215 with
  | false =>
   have hne:m≠n:=fun h=>by rw [h,hn] at hm; cases hm
   simp only [if_neg hne]
  | true =>
   have hn':n<=16777215:=YG hn;have hm':m<=16777215:=YG hm;simp only [dv];by_cases hmn:m=n
   ·subst hmn;simp only [Q.at_up,if_true]
   ·rw [if_neg hmn];by_cases h7:D8.of (m / 2097152)=D8.of (n / 2097152)
    ·rw [Q.at_up,if_pos h7];by_cases h6:D8.of (m / 262144)=D8.of (n / 262144)
     ·rw [Q.at_up,if_pos h6];by_cases h5:D8.of (m / 32768)=D8.of (n / 32768)
      ·rw [Q.at_up,if_pos h5];by_cases h4:D8.of (m / 4096)=D8.of (n / 4096)
       ·rw [Q.at_up,if_pos h4];by_cases h3:D8.of (m / 512)=D8.of (n / 512)
        ·rw [Q.at_up,if_pos h3];by_cases h2:D8.of (m / 64)=D8.of (n / 64)
         ·rw [Q.at_up,if_pos h2];by_cases h1:D8.of (m / 8)=D8.of (n / 8)
          ·rw [Q.at_up,if_pos h1];have h0:D8.of m≠D8.of n:=fun h0=>hmn (by
            have:=D8.of_eq h0; have:=D8.of_eq h1; have:=D8.of_eq h2; have:=D8.of_eq h3
            have:=D8.of_eq h4; have:=D8.of_eq h5; have:=D8.of_eq h6; have:=D8.of_eq h7
            omega)
           rw [Q.at_up,if_neg h0]
          ·rw [Q.at_up,if_neg h1]
         ·rw [Q.at_up,if_neg h2]
        ·rw [Q.at_up,if_neg h3]
       ·rw [Q.at_up,if_neg h4]
      ·rw [Q.at_up,if_neg h5]
     ·rw [Q.at_up,if_neg h6]
    ·rw [Q.at_up,if_neg h7]
def SS (a b:Nat):Nat.ble (Nat.succ a) b=decide (a<b):=by
 cases h:Nat.ble (Nat.succ a) b with
 | true=>exact (decide_eq_true (YG h)).symm
 | false =>
  refine (decide_eq_false fun hlt=>?_).symm;rw [Nat.ble_eq_true_of_le (show Nat.succ a<=b from hlt)] at h;cases h
def Heap.get_setO (H:Heap) (b:Nat) (o:Option Ent) (m:Nat):(H.setO b o).get m=if m=b then o else H.get m:=by
 unfold Heap.setO;cases hb:Nat.ble (Nat.succ b) H.lim with
 | false =>
  simp only [Heap.get,hb];by_cases h:m=b
  ·subst h;rw [hb,Tr.get_set,if_pos rfl]
  ·rw [if_neg h,Tr.get_set,if_neg h]
 | true =>
  simp only [Heap.get,hb];by_cases h:m=b
  ·subst h;rw [if_pos rfl,hb];show ml _ m ((m,o) :: H.ovr)=o;unfold ml;rw [if_pos rfl]
  ·rw [if_neg h];simp only [ml,if_neg h]
def NE (o:Option Ent):Mt (Mt o)=Mt o:=by
 cases o with
 | none=>rfl
 | some e=>cases e <;> rfl
def wU (lim:Nat) (d:Option Ent) (b:Nat) (hb:b<lim):∀ l:List (Nat × Option Ent),ml (Mt d) b ((l.filter fun p=>decide (p.1<lim)).map fun p=>(p.1,Mt p.2))=Mt (ml (Mt d) b l)
 | []=>(NE d).symm
 | (k,e) :: l=>by
  by_cases hk:k<lim
  ·rw [Yt (by simpa using hk),Ve];simp only [ml];split
   ·rfl
   ·exact wU lim d b hb l
  ·rw [Yu (by simpa using hk)];have hne:¬ b=k:=fun e=>hk (e ▸ hb);simp only [ml,if_neg hne];exact wU lim d b hb l
def tX (lim:Nat) (d:Option Ent) (b:Nat) (hb:¬ b<lim):∀ l:List (Nat × Option Ent),ml d b ((l.filter fun p=>decide (p.1<lim)).map fun p=>(p.1,Mt p.2))=d
 | []=>rfl
 | (k,e) :: l=>by
  by_cases hk:k<lim
  ·rw [Yt (by simpa using hk),Ve];have hne:¬ b=k:=fun e=>hb (e ▸ hk);simp only [ml,if_neg hne];exact tX lim d b hb l
  ·rw [Yu (by simpa using hk)];exact tX lim d b hb l
def Heap.get_ro (H:Heap) (b:Nat):H.ro.get b=if b<max H.next H.lim then Mt (H.get b) else H.get b:=by
 unfold Heap.ro Heap.get;simp only [SS];have e:Nat.max H.next H.lim=max H.next H.lim:=rfl
 rw [e];by_cases h1:b<max H.next H.lim
 ·rw [if_pos h1,decide_eq_true h1];by_cases h2:b<H.lim
  ·rw [decide_eq_true h2];exact wU H.lim _ b h2 _
  ·rw [decide_eq_false h2];exact tX H.lim _ b h2 _
 ·have h2:¬ b<H.lim:=by omega
  rw [if_neg h1,decide_eq_false h1,decide_eq_false h2]
def Heap.get_put (H:Heap) (b:Nat) (e:Ent) (m:Nat):(H.put b e).get m=if m=b then some e else H.get m:=Heap.get_setO _ _ _ _
def Heap.get_kill (H:Heap) (b:Nat) (m:Nat):(H.kill b).get m=if m=b then none else H.get m:=Heap.get_setO _ _ _ _
@[simp] theorem Heap.next_put (H:Heap) (b:Nat) (e:Ent):(H.put b e).next=H.next:=rfl
@[simp] theorem Heap.next_kill (H:Heap) (b:Nat):(H.kill b).next=H.next:=rfl
section
variable {P:Program} {μ:Mu} {F:Nat->Prop} {w:World} {T:Tm} {a:Act}
def FC {v:Value} {x:AV} (h:Cx v=some x):VR μ F w x v:=by
 unfold Cx at h;split at h <;> first | (cases h; done) | skip
 ·cases h; exact .bool _
 ·cases h; exact .int _ _
 ·cases h; exact .str _
 ·cases h; exact .nilPtr
 ·cases h; exact .nilSl
 ·cases h; exact .nilMap
 ·cases h; exact .nilFn
 ·cases h; exact .nilIf
 ·split at h
  ·rename_i hz;cases h;exact .fn _ _ _ _ _ hz.1.symm (fun i c v h=>by simp at h) hz.2.symm (fun i c v h=>by simp at h)
  ·cases h
def vu:∀ {l:List Value} {cs:List AV},l.mapM Cx=some cs->LR μ F w cs l
 | [],cs,h=>by simp at h; subst h; exact LR.nil
 | v :: l,cs,h=>by
  simp only [WK,Xp,U8,U3] at h;obtain ⟨x,hx,xs,hxs,h⟩:=h;cases h;exact LR.cons (FC hx) (vu hxs)
def pW {v:Value} {x:AV} (h:sO v=some x):VR μ F w x v:=by
 unfold sO at h;split at h
 ·simp only [U8,U3] at h;obtain ⟨cs,hcs,h⟩:=h;cases h;have hl:=vu (μ:=μ) (F:=F) (w:=w) hcs;exact .agg _ _ (by simpa using hl.1) fun i c v h1 h2=>hl.2 i c v h1 (by simpa using h2)
 ·split at h
  ·rename_i hz;cases h;exact .tup _ _ hz.symm fun i c v h=>by simp at h
  ·cases h
 ·exact FC h
def JR (hT:LR μ F w T a.tmps.toList) (t:Nat):VR μ F w (ad T t) (a.tmps.getD t undef):=by
 unfold ad;cases hc:T[t]? with
 | none=>rw [U5,hc]; exact .undef _
 | some c =>
  obtain ⟨v,hv,hr⟩:=hT.get hc
  have:a.tmps[t]? = some v:=by simpa using hv
  rw [U5,hc];simp [this];exact hr
def aO {x:Operand} {s:Src} (hT:LR μ F w T a.tmps.toList) (h:bT x=some s):VR μ F w (s.ev T) (a.eval x):=by
 cases x with
 | tmp t=>cases h; exact JR hT t
 | const v =>
  simp only [bT,Vf] at h;obtain ⟨y,hy,h⟩:=h;cases h;exact pW hy
 | global g=>cases h
 | func f=>cases h; exact .fn _ _ _ _ _ rfl (fun i c v h=>by simp at h) rfl (fun i c v h=>by simp at h)
def pq (hT:LR μ F w T a.tmps.toList):∀ {l:List Operand} {ss:List Src},l.mapM bT=some ss->LR μ F w (ss.map (Src.ev T)) (l.map a.eval)
 | [],ss,h=>by simp at h; subst h; exact LR.nil
 | x :: l,ss,h=>by
  simp only [WK,Xp,U8,U3] at h;obtain ⟨s,hs,ss',hss,h⟩:=h;cases h;exact LR.cons (aO hT hs) (pq hT hss)
def Bn {x:AV} {v:Value} (h:VR μ F w x v) (hone:x.cells.all AV.one=true):LR μ F w x.cells v.cells.toList:=by
 cases h with
 | agg cs vs hl hv=>exact LR.of_agg hl hv
 | undef v=>simp [AV.cells,AV.one] at hone
 | tup cs vs hl hv=>simp [AV.cells,AV.one] at hone
 | bool b=>exact LR.cons (.bool b) LR.nil
 | int k n=>exact LR.cons (.int k n) LR.nil
 | str s=>exact LR.cons (.str s) LR.nil
 | nilPtr=>exact LR.cons .nilPtr LR.nil
 | nilSl=>exact LR.cons .nilSl LR.nil
 | nilFn=>exact LR.cons .nilFn LR.nil
 | nilIf=>exact LR.cons .nilIf LR.nil
 | nilMap=>exact LR.cons .nilMap LR.nil
 | sl0 a cap=>exact LR.cons (.sl0 a cap) LR.nil
 | sl cells n cap blk off arr ty fr h1 h2 h3 h4 h5=>exact LR.cons (.sl cells n cap blk off arr ty fr h1 h2 h3 h4 h5) LR.nil
 | dp cells o blk off arr ty fr h1 h2 h4 h5=>exact LR.cons (.dp cells o blk off arr ty fr h1 h2 h4 h5) LR.nil
 | own b off n c sz ex L cap h1 h2 h3 h4 h5 h6=>exact LR.cons (.own b off n c sz ex L cap h1 h2 h3 h4 h5 h6) LR.nil
 | ptr b off L h=>exact LR.cons (.ptr b off L h) LR.nil
 | fn f as bs us vs h1 h2 h3 h4=>exact LR.cons (.fn f as bs us vs h1 h2 h3 h4) LR.nil
 | ifc t x v h=>exact LR.cons (.ifc t x v h) LR.nil
 | map b L h=>exact LR.cons (.map b L h) LR.nil
 | loopv b L h=>exact LR.cons (.loopv b L h) LR.nil
def LR.one {as:List AV} {vs:List Value} (h:LR μ F w as vs) (h1:as.all AV.one=true):∀ v∈vs,v.oneCell'=true:=by
 intro v hv;obtain ⟨i,hi,rfl⟩:=ZM.1 hv;have hi':i<as.length:=h.1 ▸ hi
 have:=h.2 i as[i] vs[i] (U7 _) (U7 _)
 exact this.oneCell (by rw [Vy] at h1; exact h1 _ (U9 _))
def fZ {x:AV} {v:Value} {n:Nat} (h:qa x=some n) (hv:VR μ F w x v):∃ k,v=.int k (n:Int):=by
 unfold qa at h;split at h
 ·cases h;cases hv with
  | int k n=>exact ⟨_,rfl⟩
 ·cases h
def IC:∀ (l:List Value) (off:Nat) (cs:Array Value),off+l.length<=cs.size ->
  ((l.zipIdx).foldl (fun (cs:Array Value) (p:Value × Nat)=>cs.setIfInBounds (off+p.2) p.1) cs).toList=cs.toList.take off++l++cs.toList.drop (off+l.length):=by
 intro l off cs h;have key:∀ (l:List Value) (k:Nat) (cs:Array Value),off+k+l.length<=cs.size ->
   ((l.zipIdx k).foldl (fun (cs:Array Value) (p:Value × Nat)=>cs.setIfInBounds (off+p.2) p.1) cs).toList=cs.toList.take (off+k)++l++cs.toList.drop (off+k+l.length):=by
  intro l
  induction l with
  | nil=>intro k cs h; simp
  | cons v l ih =>
   intro k cs h;simp only [VT] at h;simp only [List.zipIdx_cons,WQ];rw [ih (k+1) _ (by simp; omega)];simp only [Yh,VT];have hlt:off+k<cs.toList.length:=by rw [XU]; omega
   have h1:(cs.toList.set (off+k) v).take (off+(k+1))=cs.toList.take (off+k)++[v]:=by
    rw [<- Wb,List.take_add_one,List.take_set_of_le (Vb _),List.getElem?_set_self hlt]; rfl
   have h2:(cs.toList.set (off+k) v).drop (off+(k+1)+l.length)=cs.toList.drop (off+k+(l.length+1)):=by
    rw [List.drop_set_of_lt (by omega)]; congr 1; omega
   rw [h1,h2]; simp
 simpa using key l 0 cs (by simpa using h)
def Eu (hT:LR μ F w T a.tmps.toList) (place:Nat->Option (Nat × Nat)):∀ (parts:List (Nat × Operand)) (ps:List ((Nat × Nat) × Src)) (z:List AV) (zc:Array Value) (cs:List AV),
  (parts.mapM fun (p:Nat × Operand)=>(do some ((<- place p.1),(<- bT p.2)):Option ((Nat × Nat) × Src)))=some ps->LR μ F w z zc.toList->cG z (ps.map fun p=>(p.1,p.2.ev T))=some cs ->
  ∃ vs,Instr.fill place zc (parts.map fun p=>(p.1,a.eval p.2))=some vs/\LR μ F w cs vs.toList:=by
 intro parts
 induction parts with
 | nil =>
  intro ps z zc cs h hz hf;simp at h; subst h;simp [cG] at hf; subst hf;exact ⟨zc,rfl,hz⟩
 | cons p parts ih =>
  intro ps z zc cs h hz hf;simp only [WK,Xp,U8,U3] at h;obtain ⟨q,⟨pl,hpl,s,hs,hq⟩,qs,hqs,h⟩:=h;cases h; cases hq;simp only [Ve,cG] at hf;split at hf
  ·rename_i hc;obtain ⟨h1,h2,h3⟩:=hc;have hv:=aO hT hs;have hl:=Bn hv h3;have hsz:(a.eval p.2).cells.size=pl.2:=by have:=hl.1; simp at this; omega
   have hzl:=hz.1;simp only [XU] at hzl;obtain ⟨vs,hvs,hr⟩:=ih qs _ (((a.eval p.2).cells.zipIdx.foldl (fun cs (c,j)=>cs.setIfInBounds (pl.1+j) c) zc)) cs hqs (by
    have e:=IC (a.eval p.2).cells.toList pl.1 zc (by simp; omega);rw [<- Array.toList_zipIdx,Z6] at e;rw [e];refine LR.append (LR.append (hz.take _) hl) ?_
    have:pl.1+(a.eval p.2).cells.toList.length=pl.1+pl.2:=by simp [hsz]
    rw [this];exact hz.drop _) hf
   refine ⟨vs,?_,hr⟩;simp only [Ve,Instr.fill,hpl];rw [if_neg (by simp; omega)];exact hvs
  ·cases hf
def cF {s:Sem Value} {v:Value} {w':World} (h:s.run P w=.ok v w'):((do pure (Next.value (<- s))):Sem Next).run P w=.ok (.value v) w':=by
 simp [h]
def iT {t:TypeId} {i:TypeInfo} (h:P.info? t=some i) (w:World):(typeInfo t).run P w=.ok i w:=by
 simp [typeInfo,h]
def cd {t:TypeId} {n:Nat} (h:sizeOf? P t=some n) (w:World):(Go.sizeOf t).run P w=.ok n w:=by
 simp only [sizeOf?,Vf] at h;obtain ⟨i,hi,rfl⟩:=h;simp [Go.sizeOf,iT hi]
def KY {t:TypeId} {n:Nat} (h:bytesOf? P t=some n) (w:World):∃ i,(typeInfo t).run P w=.ok i w/\i.bytes=n:=by
 simp only [bytesOf?,Vf] at h;obtain ⟨i,hi,rfl⟩:=h;exact ⟨i,iT hi w,rfl⟩
def qK {t:TypeId} {z:List AV} (h:zeroCells? P t=some z) (w:World):∃ v,(zeroValue t).run P w=.ok v w/\∀ μ F W,LR μ F W z v.cells.toList:=by
 simp only [zeroCells?,U8,U3] at h;obtain ⟨i,hi,zv,hz,h⟩:=h;exact ⟨zv,by simp [zeroValue,iT hi,hz],fun μ F W=>vu h⟩
def AN {t:TypeId} (h:qm P t=some none) (w:World):(isAgg t).run P w=.ok false w:=by
 simp only [qm,U8,U3] at h;obtain ⟨d,hd,h⟩:=h;split at h
 ·simp at h
 ·simp at h
 ·rename_i h1 h2;simp only [isAgg,Sem.run_bind,run_underlying hd,Result.andThen_ok];cases d <;> first | rfl | (exact absurd rfl (h1 _)) | (exact absurd rfl (h2 _ _))
def AM {t:TypeId} {n:Nat} (h:qm P t=some (some n)) (w:World):(isAgg t).run P w=.ok true w/\(Go.sizeOf t).run P w=.ok n w:=by
 simp only [qm,U8,U3] at h;obtain ⟨d,hd,h⟩:=h;split at h
 ·simp only [Vf] at h;obtain ⟨m,hm,h⟩:=h;cases h;exact ⟨by simp [isAgg,run_underlying hd],cd hm w⟩
 ·simp only [Vf] at h;obtain ⟨m,hm,h⟩:=h;cases h;exact ⟨by simp [isAgg,run_underlying hd],cd hm w⟩
 ·cases h
def yc {cs:List AV} {vs:Array Value} {off:Nat} {k:Option Nat} {t:TypeId} {v:AV} (hk:qm P t=some k) (hl:LR μ F w cs vs.toList) (h:aY cs off k=some v) :
  ∃ u,(part t vs off).run P w=.ok u w/\VR μ F w v u:=by
 cases k with
 | none =>
  obtain ⟨u,hu,hr⟩:=hl.get h;have hu':vs[off]? = some u:=by simpa using hu
  exact ⟨u,by simp [part,AN hk,hu'],hr⟩
 | some n =>
  simp only [aY] at h;split at h
  ·rename_i hle;cases h;obtain ⟨h1,h2⟩:=AM hk w;refine ⟨.agg (vs.extract off (off+n)),by simp [part,h1,h2],?_⟩;have hlen:=hl.1;simp at hlen;refine .agg _ _ (by simp; omega) fun i c v hc hv=>?_;rw [Vv] at hc;split at hc
   ·rename_i hi;rw [Vw] at hc;refine hl.2 _ c v hc ?_;rw [ZC] at hv;split at hv
    ·simpa using hv
    ·cases hv
   ·cases hc
  ·cases h
def rC (op:BinOp) (ty:TypeId) (X Y:Operand) (j k:IntKind) (m n:Int):(eqGuard op ty X Y (.int j m) (.int k n)).run P w=.ok () w:=by
 unfold eqGuard; cases op <;> rfl
def vM (op:BinOp) (ty:TypeId) (X Y:Operand) (b c:Bool):(eqGuard op ty X Y (.bool b) (.bool c)).run P w=.ok () w:=by
 unfold eqGuard; cases op <;> rfl
def rB (op:BinOp) (ty:TypeId) (X Y:Operand) (b c:ByteArray):(eqGuard op ty X Y (.string b) (.string c)).run P w=.ok () w:=by
 unfold eqGuard; cases op <;> rfl
def gC (op:BinOp) (ty:TypeId) (X Y:Operand) (x:Value) (b:Option Addr) (m n:Nat):(eqGuard op ty X Y x (.slice b m n)).run P w=.ok () w:=by
 unfold eqGuard; cases op <;> cases x <;> rfl
def uN {op:BinOp} {k yk:IntKind} {x y:Int} {v:AV} (h:kO op k x y=some v):∃ u,(Op.shift op k x yk y).run P w=.ok u w/\VR μ F w v u:=by
 unfold kO at h;split at h
 ·cases h
 ·rename_i hy;unfold Op.shift;cases op <;> simp at h <;> subst h <;> simp [hy] <;> exact .int _ _
def EJ {op:BinOp} {ty:TypeId} {k:IntKind} {x y:Int} {v:AV} (h:kV op k x y=some v):∃ u,(binOp op ty (.int k x) (.int k y)).run P w=.ok u w/\VR μ F w v u:=by
 unfold kV at h;cases op
 case quo=>simp at h; obtain ⟨h0,h⟩:=h; subst h; exact ⟨_,by simp [binOp,Op.intDiv,h0],.int _ _⟩
 case rem=>simp at h; obtain ⟨h0,h⟩:=h; subst h; exact ⟨_,by simp [binOp,Op.intDiv,h0],.int _ _⟩
 case shl=>cases h
 case shr=>cases h
 all_goals (injection h with h; subst h; cases k <;> first | exact ⟨_,rfl,.int _ _⟩ | exact ⟨_,rfl,.bool _⟩)
def IU {op:BinOp} {kd:BK} {ty:TypeId} {x y:AV} {vx vy:Value} {v:AV} (hkd:ju P ty=some kd)
  (hx:VR μ F w x vx) (hy:VR μ F w y vy) (h:bV op kd x y=some v) (X Y:Operand) :
  ∃ u,((do eqGuard op ty X Y vx vy; binOp op ty vx vy):Sem Value).run P w=.ok u w/\VR μ F w v u:=by
 unfold bV at h;split at h
 ·cases hx; cases hy;rename_i k1 a1 k2 b1;split at h
  ·obtain ⟨u,hu,hr⟩:=uN (P:=P) (μ:=μ) (F:=F) (w:=w) (yk:=k2) h;exact ⟨u,by simp [rC,binOp,hu],hr⟩
  ·obtain ⟨u,hu,hr⟩:=uN (P:=P) (μ:=μ) (F:=F) (w:=w) (yk:=k2) h;exact ⟨u,by simp [rC,binOp,hu],hr⟩
  ·split at h
   ·rename_i hk;subst hk;obtain ⟨u,hu,hr⟩:=EJ (P:=P) (μ:=μ) (F:=F) (w:=w) (ty:=ty) h;exact ⟨u,by simp [rC,hu],hr⟩
   ·cases h
 ·cases hx; cases hy;rename_i b c _ _;have hb:P.underlying ty=some .bool:=by
   unfold ju at hkd; split at hkd <;> first | assumption | (cases hkd)
  split at h <;> first | (cases h; done) | skip
  ·cases h; exact ⟨_,by simp only [Sem.run_bind,vM,Result.andThen_ok]; exact run_eql_bool w ty _ _ hb,.bool _⟩
  ·cases h; exact ⟨_,by simp only [Sem.run_bind,vM,Result.andThen_ok]; exact run_neq_bool w ty _ _ hb,.bool _⟩
 ·cases hx; cases hy;split at h <;> first | (cases h; done) | skip
  ·cases h; exact ⟨_,by simp [rB,binOp,Op.stringOp],.bool _⟩
  ·cases h; exact ⟨_,by simp [rB,binOp,Op.stringOp],.bool _⟩
  ·split at h
   ·cases h
   ·rename_i hle;cases h; exact ⟨_,by simp only [Sem.run_bind,rB,Result.andThen_ok,binOp,Op.stringOp]; rw [if_neg hle]; rfl,.str _⟩
 ·cases hy;have hb:∃ e,P.underlying ty=some (.slice e):=by
   unfold ju at hkd; split at hkd <;> first | (cases hkd; done) | exact ⟨_,by assumption⟩
  obtain ⟨e,hb⟩:=hb;split at h <;> first | (cases h; done) | skip
  ·simp only [Vf] at h;obtain ⟨b,hb1,rfl⟩:=h;unfold zk at hb1;split at hb1 <;> first | (cases hb1; done) | skip
   ·cases hb1; cases hx;exact ⟨_,by simp only [Sem.run_bind,gC,Result.andThen_ok,binOp,run_equal_slice_nil w ty e _ _ _ hb,Sem.run_pure]; rfl,.bool _⟩
   ·cases hb1; cases hx;exact ⟨_,by simp only [Sem.run_bind,gC,Result.andThen_ok,binOp,run_equal_slice_nil w ty e _ _ _ hb,Sem.run_pure]; rfl,.bool _⟩
   ·cases hb1; cases hx
    ·exact ⟨_,by simp only [Sem.run_bind,gC,Result.andThen_ok,binOp,run_equal_slice_nil w ty e _ _ _ hb,Sem.run_pure]; rfl,.bool _⟩
    ·exact ⟨_,by simp only [Sem.run_bind,gC,Result.andThen_ok,binOp,run_equal_slice_nil w ty e _ _ _ hb,Sem.run_pure]; rfl,.bool _⟩
  ·simp only [Vf] at h;obtain ⟨b,hb1,rfl⟩:=h;unfold zk at hb1;split at hb1 <;> first | (cases hb1; done) | skip
   ·cases hb1; cases hx;exact ⟨_,by simp only [Sem.run_bind,gC,Result.andThen_ok,binOp,run_equal_slice_nil w ty e _ _ _ hb,Sem.run_pure]; rfl,.bool _⟩
   ·cases hb1; cases hx;exact ⟨_,by simp only [Sem.run_bind,gC,Result.andThen_ok,binOp,run_equal_slice_nil w ty e _ _ _ hb,Sem.run_pure]; rfl,.bool _⟩
   ·cases hb1; cases hx
    ·exact ⟨_,by simp only [Sem.run_bind,gC,Result.andThen_ok,binOp,run_equal_slice_nil w ty e _ _ _ hb,Sem.run_pure]; rfl,.bool _⟩
    ·exact ⟨_,by simp only [Sem.run_bind,gC,Result.andThen_ok,binOp,run_equal_slice_nil w ty e _ _ _ hb,Sem.run_pure]; rfl,.bool _⟩
 ·exfalso
  unfold ju at hkd;split at hkd <;> cases hkd
 ·cases h
def LC {op:BinOp} {ty:TypeId} {ms:Array (String × TypeId)} {x y:AV} {vx vy:Value} {v:AV} (ht:P.underlying ty=some (.interface ms))
  (hx:VR μ F w x vx) (hy:VR μ F w y vy) (h:bV op .ifc x y=some v) {X Y:Operand} (hc:(vD X || vD Y)=true) :
  ∃ u,((do eqGuard op ty X Y vx vy; binOp op ty vx vy):Sem Value).run P w=.ok u w/\VR μ F w v u:=by
 have hu:=run_underlying (P:=P) ht;have g1:∀ op,(eqGuard op ty X Y .nilIface .nilIface).run P w=.ok () w:=by
  intro op;unfold eqGuard;cases op <;> cases X <;> cases Y <;> first | rfl | (simp [vD] at hc; done)
 have g2:∀ op t z,(eqGuard op ty X Y .nilIface (.iface t z)).run P w=.ok () w:=fun op t z=>by unfold eqGuard; cases op <;> rfl
 have g3:∀ op t z,(eqGuard op ty X Y (.iface t z) .nilIface).run P w=.ok () w:=fun op t z=>by unfold eqGuard; cases op <;> rfl
 have k1:∀ d,(Op.equalIn (d+1) ty .nilIface .nilIface).run P w=.ok true w:=fun d=>by simp [Op.equalIn,hu]
 have k2:∀ d t z,(Op.equalIn (d+1) ty .nilIface (.iface t z)).run P w=.ok false w:=fun d t z=>by simp [Op.equalIn,hu]
 have k3:∀ d t z,(Op.equalIn (d+1) ty (.iface t z) .nilIface).run P w=.ok false w:=fun d t z=>by simp [Op.equalIn,hu]
 have q1:(Op.equal ty .nilIface .nilIface).run P w=.ok true w:=k1 9999;have q2:∀ t z,(Op.equal ty .nilIface (.iface t z)).run P w=.ok false w:=k2 9999;have q3:∀ t z,(Op.equal ty (.iface t z) .nilIface).run P w=.ok false w:=k3 9999;simp only [bV] at h;split at h <;> first | (cases h; done) | skip
 all_goals
  simp only [Vf] at h;obtain ⟨b,hb,rfl⟩:=h;unfold Ib at hb;split at hb <;> first | (cases hb; done) | skip
  all_goals
   cases hb;cases hx;cases hy;refine ⟨_,?_,.bool _⟩
   first
    | (simp only [Sem.run_bind,g1,q1,binOp,Result.andThen_ok,Sem.run_pure]; done)
    | (simp only [Sem.run_bind,g2,q2,binOp,Result.andThen_ok,Sem.run_pure]; done)
    | (simp only [Sem.run_bind,g3,q3,binOp,Result.andThen_ok,Sem.run_pure]; done)
    | (simp only [Sem.run_bind,g1,q1,binOp,Result.andThen_ok,Sem.run_pure]; rfl)
    | (simp only [Sem.run_bind,g2,q2,binOp,Result.andThen_ok,Sem.run_pure]; rfl)
    | (simp only [Sem.run_bind,g3,q3,binOp,Result.andThen_ok,Sem.run_pure]; rfl)
def LT {as bs:List AV} {r:Bool} (h:F8 as bs=some r):∃ a b c d,as=[.bool a,.bool b]/\bs=[.bool c,.bool d]/\r=(a == c && b == d):=by
 unfold F8 at h;split at h
 ·cases h; exact ⟨_,_,_,_,rfl,rfl,rfl⟩
 ·cases h
def Od {b c:Bool} {us:Array Value} (h:LR μ F w [.bool b,.bool c] us.toList):us = #[.bool b,.bool c]:=by
 obtain ⟨l⟩:=us;obtain ⟨hl,hv⟩:=h
 match l,hl with
 | [x,y],_ =>
  have h0:=hv 0 _ x rfl rfl;have h1:=hv 1 _ y rfl rfl;cases h0; cases h1;rfl
def LS (d:Nat) {t e:TypeId} (ht:P.underlying t=some (.array 2 e)) (he:P.underlying e=some .bool) (hs:sizeOf? P e=some 1) (a b c f:Bool) :
  (Op.equalIn (d+2) t (.agg #[.bool a,.bool b]) (.agg #[.bool c,.bool f])).run P w=.ok (a == c && b == f) w:=by
 have hag:(isAgg e).run P w=.ok false w:=by simp [isAgg,run_underlying he]
 have hp:∀ (x y:Bool) (i:Nat) (z:Bool),#[Value.bool x,Value.bool y][i]? = some (.bool z)->(part e #[.bool x,.bool y] i).run P w=.ok (.bool z) w:=by
  intro x y i z h;simp [part,hag,h]
 have hq:=fun (x y:Bool)=>run_equalIn_bool (P:=P) w d e x y he;unfold Op.equalIn;simp only [Sem.run_bind,run_underlying ht,Result.andThen_ok,cd hs];simp only [Std.Legacy.Range.forIn_eq_forIn_range',Std.Legacy.Range.size];simp [List.range',hp,hq];cases a <;> cases b <;> cases c <;> cases f <;> simp
def F7 {ty:TypeId} {as bs:List AV} {us vs:Array Value} {r:Bool} (hty:uv P ty=true) (ha:LR μ F w as us.toList) (hb:LR μ F w bs vs.toList) (h:F8 as bs=some r) (X Y:Operand) :
  ((do eqGuard .eql ty X Y (.agg us) (.agg vs); binOp .eql ty (.agg us) (.agg vs)):Sem Value).run P w=.ok (.bool r) w /\
  ((do eqGuard .neq ty X Y (.agg us) (.agg vs); binOp .neq ty (.agg us) (.agg vs)):Sem Value).run P w=.ok (.bool !r) w:=by
 obtain ⟨a,b,c,d,rfl,rfl,rfl⟩:=LT h;obtain rfl:=Od ha;obtain rfl:=Od hb;unfold uv at hty;split at hty
 ·rename_i e he;simp only [VG,beq_iff_eq] at hty;obtain ⟨h1,hs⟩:=hty;split at h1
  ·rename_i hbool;have hg:P.eqGuardType P.depth ty=false:=by
    have:P.depth=(2*(P.types.size+Made.depth))+2:=rfl
    rw [this];simp [Program.eqGuardType,he,hbool]
   have hk:∀ op,(eqGuard op ty X Y (.agg #[.bool a,.bool b]) (.agg #[.bool c,.bool d])).run P w=.ok () w:=by
    intro op;unfold eqGuard;cases op <;> simp [hg]
   have he2:=LS (w:=w) 9998 he hbool hs a b c d;refine ⟨?_,?_⟩
   ·simp only [Sem.run_bind,hk,Result.andThen_ok,binOp,Op.equal,Op.maxDepth,he2,Sem.run_pure]
   ·simp only [Sem.run_bind,hk,Result.andThen_ok,binOp,Op.equal,Op.maxDepth,he2,Sem.run_pure]
  ·cases h1
 ·cases hty
def vL (d:Nat) (xs ys:Array Value):∀ (fs:List Field) (i:Nat) (as bs:List AV) (r:Bool),(∀ j f,fs[j]? = some f → f.name ≠ "_" ∧ f.offset=i+j ∧ ∃ k,P.underlying f.type=some (.int k)) →
  (∀ j k a,as[j]? = some (.int k a)->xs[i+j]? = some (.int k a))->(∀ j k a,bs[j]? = some (.int k a)->ys[i+j]? = some (.int k a))->rA fs.length as bs=some r ->
  (Op.eqFields (d+1) xs ys fs).run P w=.ok r w
 | [],i,as,bs,r,hf,ha,hb,h=>by
  unfold rA at h;split at h
  ·cases h; simp [Op.eqFields]
  ·rename_i e; cases e
  ·cases h
 | f :: fs,i,as,bs,r,hf,ha,hb,h=>by
  unfold rA at h;split at h
  ·rename_i e; cases e
  ·rename_i n k a as' k' b bs' e
   injection e with e
   split at h
   ·rename_i hk;subst hk;simp only [Vf] at h;obtain ⟨r',hr',rfl⟩:=h;obtain ⟨hn,ho,q,hq⟩:=hf 0 f rfl;have hag:(isAgg f.type).run P w=.ok false w:=by simp [isAgg,run_underlying hq]
    have hp:∀ (zs:Array Value) (z:Value),zs[i]? = some z->(part f.type zs f.offset).run P w=.ok z w:=by
     intro zs z hz;rw [ho];simp [part,hag,hz]
    have hx:=hp xs _ (ha 0 k a rfl);have hy:=hp ys _ (hb 0 k b rfl);have ih:=vL d xs ys fs (i+1) as' bs' r' (fun j g hg=>by have:=hf (j+1) g hg; exact ⟨this.1,by omega,this.2.2⟩) (fun j k a hj=>by have:=ha (j+1) k a hj; rwa [show i+1+j=i+(j+1) by omega]) (fun j k a hj=>by have:=hb (j+1) k a hj; rwa [show i+1+j=i+(j+1) by omega]) (by rw [<- e] at hr'; exact hr');simp only [Op.eqFields,hn,ne_eq,not_false_eq_true,if_true,Sem.run_bind,hx,hy,Result.andThen_ok,run_equalIn_int w d f.type k q a b hq];cases hab:(a == b)
    ·simp
    ·simpa using ih
   ·cases h
  ·cases h
def A6 {ty:TypeId} {as bs:List AV} {us vs:Array Value} {r:Bool} (hty:iB P ty≠0) (ha:LR μ F w as us.toList) (hb:LR μ F w bs vs.toList) (h:rA (iB P ty) as bs=some r) (X Y:Operand) :
  ((do eqGuard .eql ty X Y (.agg us) (.agg vs); binOp .eql ty (.agg us) (.agg vs)):Sem Value).run P w=.ok (.bool r) w /\
  ((do eqGuard .neq ty X Y (.agg us) (.agg vs); binOp .neq ty (.agg us) (.agg vs)):Sem Value).run P w=.ok (.bool !r) w:=by
 unfold iB at hty h;split at hty
 rotate_left
 ·exact absurd rfl hty
 rename_i fs hu;simp only [hu] at h;split at hty
 rotate_left
 ·exact absurd rfl hty
 rename_i hc;simp only [hc,if_true] at h;simp only [VG,V8,Vy,bne_iff_ne,ne_eq,beq_iff_eq] at hc;obtain ⟨hall,hst⟩:=hc;have hfs:P.fieldsOf ty=fs:=by simp [Program.fieldsOf,hu]
 have hf:∀ j f,fs.toList[j]? = some f → f.name ≠ "_" ∧ f.offset=0+j ∧ ∃ k,P.underlying f.type=some (.int k):=by
  intro j f hj;have hm:(f,j)∈fs.toList.zipIdx:=by
   rw [List.mem_zipIdx_iff_getElem?]; exact hj
  have:=hall _ hm
  refine ⟨this.1,by simpa using this.2.1,?_⟩;have h3:=this.2.2;split at h3
  ·exact ⟨_,by assumption⟩
  ·cases h3
 have hag:∀ {ls:List AV} {zs:Array Value},LR μ F w ls zs.toList->∀ j k a,ls[j]? = some (.int k a)->zs[0+j]? = some (.int k a):=by
  intro ls zs hl j k a hj;obtain ⟨hlen,hv⟩:=hl;have hlt:j<ls.length:=(Vm.1 hj).1;have hz:zs.toList[j]? = some (zs.toList[j]'(by omega)):=U7 _;have hvr:=hv j _ _ hj hz
  generalize hzz:zs.toList[j]'(by omega)=z at hvr hz
  cases hvr;rw [VQ,<- YH];exact hz
 have hg:P.eqGuardType P.depth ty=false:=by
  have:P.depth=(2*(P.types.size+Made.depth))+2:=rfl
  rw [this];simp only [Program.eqGuardType,hu];rw [<- Array.any_toList,Wt];intro f hfm;obtain ⟨j,hj⟩:=List.mem_iff_getElem?.1 hfm;obtain ⟨-,-,k,hk⟩:=hf j f hj;simp [hk]
 have he:=vL (w:=w) 9998 us vs fs.toList 0 as bs r hf (hag ha) (hag hb) (by simpa using h);have he2:(Op.equalIn 10000 ty (.agg us) (.agg vs)).run P w=.ok r w:=by
  rw [run_equalIn_struct w 9999 ty us vs (by rw [hfs]; exact hu) hst,hfs];exact he
 refine ⟨?_,?_⟩
 ·simp only [Sem.run_bind,run_eqGuard_agg w _ _ _ _ _ _ hg,Result.andThen_ok,run_eql_struct,he2]
 ·simp only [Sem.run_bind,run_eqGuard_agg w _ _ _ _ _ _ hg,Result.andThen_ok,run_neq_struct,he2]
def KC {op:UnOp} {x:AV} {vx:Value} {v:AV} (hx:VR μ F w x vx) (h:RX op x=some v):∃ u,(Op.unary op vx).run P w=.ok u w/\VR μ F w v u:=by
 unfold RX at h;split at h
 ·cases h; cases hx; exact ⟨_,rfl,.int _ _⟩
 ·cases h; cases hx; exact ⟨_,rfl,.int _ _⟩
 ·cases h; cases hx; exact ⟨_,rfl,.bool _⟩
 ·cases h
def OR (μ:Mu) (F:Nat->Prop) (w:World) (x:Option AV) (v:Option Value):Prop :=
 match x,v with
 | none,none=>True
 | some x,some v=>VR μ F w x v
 | _,_=>False
def jt (k:IntKind) (n y:Nat) (code:BoundsCode) (h:n<=y):(Instr.sliceBound (.int k (n:Int)) y code).run P w=.ok n w:=by
 simp [Instr.sliceBound,asIntOf,h]
def uB {len cap m h l:Nat} {k1 k2:IntKind} {lo:Option Value} (hl:(lo=none/\l=0)\/∃ k,lo=some (.int k (l:Int))) (h1:m<=cap) (h2:h<=m) (h3:l<=h) :
  (Instr.sliceBounds true len cap lo (some (.int k1 (h:Int))) (some (.int k2 (m:Int)))).run P w=.ok (l,h,m) w:=by
 rcases hl with ⟨rfl,rfl⟩ | ⟨k,rfl⟩
 ·simp [Instr.sliceBounds,jt k2 m cap _ h1,jt k1 h m _ h2]
 ·simp [Instr.sliceBounds,jt k2 m cap _ h1,jt k1 h m _ h2,jt k l h _ h3]
def pY {s:Bool} {len cap h l:Nat} {lo hi:Option Value} (hl:(lo=none/\l=0)\/∃ k,lo=some (.int k (l:Int))) (hh:(hi=none/\h=len)\/∃ k,hi=some (.int k (h:Int))) (h2:h<=cap) (h3:l<=h) :
  (Instr.sliceBounds s len cap lo hi none).run P w=.ok (l,h,cap) w:=by
 rcases hl with ⟨rfl,rfl⟩ | ⟨k,rfl⟩ <;> rcases hh with ⟨rfl,rfl⟩ | ⟨k',rfl⟩
 ·simp [Instr.sliceBounds]
 ·simp [Instr.sliceBounds,jt k' h cap _ h2]
 ·simp [Instr.sliceBounds,jt k l h _ h3]
 ·simp [Instr.sliceBounds,jt k' h cap _ h2,jt k l h _ h3]
def mm {x:Option AV} {v:Option Value} {n d:Nat} (h:OR μ F w x v) (hn:(x.map qa).getD (some d)=some n):(v=none/\n=d)\/∃ k,v=some (.int k (n:Int)):=by
 cases x with
 | none =>
  cases v with
  | none=>simp at hn; exact .inl ⟨rfl,hn.symm⟩
  | some v=>exact h.elim
 | some x =>
  cases v with
  | none=>exact h.elim
  | some v =>
   simp at hn;obtain ⟨k,hk⟩:=fZ hn h;exact .inr ⟨k,by rw [hk]⟩
def jv (b o k:Nat):(⟨b,o,none⟩:Addr).add k=⟨b,o+k,none⟩:=by
 unfold Addr.add; split <;> simp_all
def iG {t e:TypeId} {size:Nat} (ht:P.underlying t=some (.slice e)) (hs:sizeOf? P e=some size) {a:Option Addr} {len cap l h m:Nat} {lo hi mx:Option Value}
  (hb:(Instr.sliceBounds true len cap lo hi mx).run P w=.ok (l,h,m) w) :
  (Instr.sliceAt t (.slice a len cap) lo hi mx).run P w=.ok (.slice (if m=l then a else a.map (·.add (l*size))) (h-l) (m-l)) w:=by
 simp [Instr.sliceAt,Instr.slice,run_underlying ht,hb,cd hs]
def DF {size:Nat} {t e:TypeId} {x:AV} {vx:Value} {lo hi mx:Option AV} {vlo vhi vmx:Option Value} {v:AV}
  (ht:P.underlying t=some (.slice e)) (hs:sizeOf? P e=some size)
  (hx:VR μ F w x vx) (hstr:∀ s,x ≠ .str s) (hlo:OR μ F w lo vlo) (hhi:OR μ F w hi vhi) (hmx:OR μ F w mx vmx) (h:bR size x lo hi mx=some v) :
  ∃ u,(Instr.sliceAt t vx vlo vhi vmx).run P w=.ok u w/\VR μ F w v u:=by
 unfold bR at h;split at h
 ·rename_i b off n c sz ex;split at h
  ·cases h
  rename_i hsz;have hsz:sz=size:=by simpa using hsz
  subst hsz;cases hx with
  | own _ _ _ _ _ _ L cap h1 h2 h3 h4 h5 h6 =>
  split at h
  ·rename_i m0 h0 lo;simp only [U8,U3] at h;obtain ⟨m,hm,h',hh,l,hl,h⟩:=h;split at h
   ·rename_i hc;obtain ⟨c1,c2,c3⟩:=hc;obtain ⟨vm,rfl⟩:∃ vm,vmx=some vm:=by cases vmx with | none=>exact hmx.elim | some vm=>exact ⟨_,rfl⟩
    obtain ⟨vh,rfl⟩:∃ vh,vhi=some vh:=by cases vhi with | none=>exact hhi.elim | some vm=>exact ⟨_,rfl⟩
    obtain ⟨k2,rfl⟩:=fZ hm hmx;obtain ⟨k1,rfl⟩:=fZ hh hhi;have hb:=uB (P:=P) (w:=w) (len:=n) (cap:=cap) (k1:=k1) (k2:=k2) (mm hlo hl) (Vn c1 h4) c2 c3;refine ⟨_,iG ht hs hb,?_⟩;split at h
    ·rename_i e';cases h;subst e';simp only [if_true,Y3]
     have:h'-m=0:=by omega
     rw [this];exact .own _ _ _ _ _ _ L 0 h1 h2 (Vb _) (Vb _) (fun _=>rfl) (by omega)
    ·rename_i e';cases h;rw [if_neg e'];simp only [WS,jv];refine .own _ _ _ _ _ _ L _ h1 h2 (by omega) (Vb _) (fun _=>rfl) ?_
     have:l*sz+(m-l)*sz=m*sz:=by rw [<- Wh]; congr 1; omega
     have h7:m*sz<=cap*sz:=Vl _ (by omega);omega
   ·cases h
  ·rename_i hi lo;simp only [U8,U3] at h;obtain ⟨h',hh,l,hl,h⟩:=h;obtain rfl:vmx=none:=by cases vmx with | none=>rfl | some vm=>exact hmx.elim
   split at h
   ·rename_i hc;obtain ⟨c1,c2⟩:=hc;have hb:=pY (P:=P) (w:=w) (s:=true) (len:=n) (cap:=cap) (mm hlo hl) (mm hhi hh) (by omega) c2;refine ⟨_,iG ht hs hb,?_⟩;have h7:(cap-l)*sz+l*sz<=cap*sz:=by rw [<- Wh]; exact Vl _ (by omega)
    split at h
    ·rename_i e';cases h;by_cases e2:cap=l
     ·have hl0:l=0:=by omega
      subst hl0;simp only [e2,if_true,Yw,WL,ZD];subst e2;exact .own _ _ _ _ _ _ L 0 h1 h2 (by omega) (by omega) (fun e=>by have:=h5 e; omega) (by omega)
     ·rw [if_neg e2];simp only [WS,jv];exact .own _ _ _ _ _ _ L _ h1 h2 (by omega) (by omega) (fun e=>by have:=h5 e; omega) (by omega)
    ·rename_i e';have hlc:l=c:=by omega
     subst hlc;split at h
     ·rename_i e3;cases h
      have:=h5 e3
      subst this;rw [if_pos rfl];exact .own _ _ _ _ _ _ L _ h1 h2 (by omega) (by omega) (fun e=>rfl) (by omega)
     ·cases h
      have:h'-l=0:=by omega
      rw [this];split
      ·exact .sl0 _ _
      ·exact .sl0 _ _
   ·cases h
  ·cases h
 ·rename_i cs n;have hsl:∀ l h' m,h'<=n->l<=h'->h'<=m->h'*size<=cs.length->∀ (a0:Addr) (cap:Nat),VR μ F w (.sl cs n) (.slice (some a0) n cap)->m<=cap ->
    VR μ F w (.sl ((cs.drop (l*size)).take ((h'-l)*size)) (h'-l)) (.slice (if m=l then some a0 else (some a0).map (·.add (l*size))) (h'-l) (m-l)):=by
   intro l h' m q1 q2 q3 q5 a0 cap hv q4;by_cases e0:h'=l
   ·subst e0;simp only [Y3,Yw,Y8];split
    ·exact .sl0 _ _
    ·exact .sl0 _ _
   ·rw [if_neg (by omega)];cases hv with
    | sl0=>omega
    | sl _ _ _ blk off arr ty fr g1 g2 g3 g4 g5 =>
     simp only [WS,jv];have hle:l*size<=h'*size:=Vl _ q2;refine .sl _ _ _ blk _ arr ty fr g1 g2 (by omega) ?_ ?_
     ·simp only [VC,Wu]; omega
     ·intro i c v hc hv;rw [Vv] at hc;split at hc
      ·rw [Vw] at hc;exact g5 _ c v hc (by rw [<- Wb]; exact hv)
      ·cases hc
  obtain ⟨a0,cap,rfl,hcap⟩:∃ a0 cap,vx=.slice (some a0) n cap/\n<=cap:=by
   cases hx with
   | sl0 a cap=>exact ⟨_,_,rfl,Vj _⟩
   | sl _ _ _ blk off arr ty fr g1 g2 g3 g4 g5=>exact ⟨_,_,rfl,g3⟩
  split at h
  ·rename_i hi lo;simp only [U8,U3] at h;obtain ⟨h',hh,l,hl,h⟩:=h;obtain rfl:vmx=none:=by cases vmx with | none=>rfl | some vm=>exact hmx.elim
   split at h
   ·rename_i hc;obtain ⟨c1,c2,c3⟩:=hc;cases h;have hb:=pY (P:=P) (w:=w) (s:=true) (len:=n) (cap:=cap) (mm hlo hl) (mm hhi hh) (by omega) c2;exact ⟨_,iG ht hs hb,hsl l h' cap c1 c2 (by omega) c3 a0 cap hx (Vb _)⟩
   ·cases h
  ·rename_i m0 h0 lo;simp only [U8,U3] at h;obtain ⟨m,hm,h',hh,l,hl,h⟩:=h;split at h
   ·rename_i hc;obtain ⟨c1,c2,c3,c4⟩:=hc;cases h;obtain ⟨vm,rfl⟩:∃ vm,vmx=some vm:=by cases vmx with | none=>exact hmx.elim | some vm=>exact ⟨_,rfl⟩
    obtain ⟨vh,rfl⟩:∃ vh,vhi=some vh:=by cases vhi with | none=>exact hhi.elim | some vm=>exact ⟨_,rfl⟩
    obtain ⟨k2,rfl⟩:=fZ hm hmx;obtain ⟨k1,rfl⟩:=fZ hh hhi;have hb:=uB (P:=P) (w:=w) (len:=n) (cap:=cap) (k1:=k1) (k2:=k2) (mm hlo hl) (by omega) c2 c3;exact ⟨_,iG ht hs hb,hsl l h' m (by omega) c3 c2 c4 a0 cap hx (by omega)⟩
   ·cases h
  ·cases h
 ·cases hx;split at h
  ·rename_i m0 h0;split at h
   ·rename_i hc;obtain ⟨hm,hh,hl⟩:=hc;cases h;obtain ⟨vm,rfl⟩:∃ vm,vmx=some vm:=by cases vmx with | none=>exact hmx.elim | some vm=>exact ⟨_,rfl⟩
    obtain ⟨vh,rfl⟩:∃ vh,vhi=some vh:=by cases vhi with | none=>exact hhi.elim | some vm=>exact ⟨_,rfl⟩
    obtain ⟨k2,rfl⟩:=fZ hm hmx;obtain ⟨k1,rfl⟩:=fZ hh hhi;have hb:=uB (P:=P) (w:=w) (len:=0) (cap:=0) (k1:=k1) (k2:=k2) (mm hlo hl) (Vb _) (Vb _) (Vb _);exact ⟨_,iG ht hs hb,.nilSl⟩
   ·cases h
  ·rename_i hi;obtain rfl:vmx=none:=by cases vmx with | none=>rfl | some vm=>exact hmx.elim
   split at h
   ·rename_i hc;obtain ⟨hh,hl⟩:=hc;cases h;have hb:=pY (P:=P) (w:=w) (s:=true) (len:=0) (cap:=0) (mm hlo hl) (mm hhi hh) (Vb _) (Vb _);exact ⟨_,iG ht hs hb,.nilSl⟩
   ·cases h
  ·cases h
 ·exact absurd rfl (hstr _)
 ·cases h
def Aa {size:Nat} {t:TypeId} {s:ByteArray} {lo hi mx:Option AV} {vlo vhi vmx:Option Value} {v:AV}
  (ht:P.underlying t=some .string) (hlo:OR μ F w lo vlo) (hhi:OR μ F w hi vhi) (hmx:OR μ F w mx vmx) (h:bR size (.str s) lo hi mx=some v) :
  ∃ u,(Instr.sliceAt t (.string s) vlo vhi vmx).run P w=.ok u w/\VR μ F w v u:=by
 unfold bR at h;simp only at h;split at h
 ·simp only [U8,U3] at h;obtain ⟨h',hh,l,hl,h⟩:=h;obtain rfl:vmx=none:=by cases vmx with | none=>rfl | some vm=>exact hmx.elim
  split at h
  ·rename_i hc;simp only [VG,decide_eq_true_eq] at hc;cases h;have hb:=pY (P:=P) (w:=w) (s:=false) (len:=s.size) (cap:=s.size) (mm hlo hl) (mm hhi hh) hc.1 hc.2;exact ⟨_,by simp [Instr.sliceAt,Instr.slice,run_underlying ht,hb],.str _⟩
  ·cases h
 ·cases h
def uX (hT:LR μ F w T a.tmps.toList) {x:Option Operand} {s:Option Src} (h:BI x=some s):OR μ F w (s.map (Src.ev T)) (x.map a.eval):=by
 cases x with
 | none=>cases h; trivial
 | some x =>
  simp only [BI,Vf] at h;obtain ⟨y,hy,rfl⟩:=h;exact aO hT hy
def gA {as:List AV} {vs:Array Value} (h:LR μ F w as vs.toList):as.length=vs.size/\∀ (i:Nat) (c:AV) (v:Value),as[i]? = some c->vs[i]? = some v->VR μ F w c v :=
 ⟨by simpa using h.1,fun i c v h1 h2=>h.2 i c v h1 (by simpa using h2)⟩
def HU {o:Oper} {c x y:Operand} (ho:o.op=.pick c x y) {b:Bool} (hc:a.eval c=.bool b):(execOp a.eval o).run P w=.ok (.value (if b then a.eval x else a.eval y)) w:=by
 simp [execOp,ho,hc,asBool]
def FH (k:IntKind):∀ (l:List AV) (vs:List Value) (m:Int) (r:AV),LR μ F w l vs->l.foldlM Jz (AV.int k m)=some r ->
  ∃ u,(vs.foldlM Builtin.min2 (.int k m)).run P w=.ok u w/\VR μ F w r u
 | [],[],m,r,_,h=>by simp at h; subst h; exact ⟨_,rfl,.int _ _⟩
 | [],_ :: _,_,_,hl,_=>by have:=hl.1; simp at this
 | _ :: _,[],_,_,hl,_=>by have:=hl.1; simp at this
 | x :: l,v :: vs,m,r,hl,h=>by
  simp only [YM,U8,U3] at h;obtain ⟨y,hy,h⟩:=h;have hx:=hl.head;cases x <;> simp only [Jz] at hy <;> first | (cases hy; done) | skip
  cases hy;cases hx;obtain ⟨u,hu,hr⟩:=FH k l vs _ r hl.tail h;exact ⟨u,by simp only [YM,Sem.run_bind,Builtin.min2,Sem.run_pure,Result.andThen_ok]; exact hu,hr⟩
def FI (k:IntKind):∀ (l:List AV) (vs:List Value) (m:Int) (r:AV),LR μ F w l vs->l.foldlM JB (AV.int k m)=some r ->
  ∃ u,(vs.foldlM Builtin.max2 (.int k m)).run P w=.ok u w/\VR μ F w r u
 | [],[],m,r,_,h=>by simp at h; subst h; exact ⟨_,rfl,.int _ _⟩
 | [],_ :: _,_,_,hl,_=>by have:=hl.1; simp at this
 | _ :: _,[],_,_,hl,_=>by have:=hl.1; simp at this
 | x :: l,v :: vs,m,r,hl,h=>by
  simp only [YM,U8,U3] at h;obtain ⟨y,hy,h⟩:=h;have hx:=hl.head;cases x <;> simp only [JB] at hy <;> first | (cases hy; done) | skip
  cases hy;cases hx;obtain ⟨u,hu,hr⟩:=FI k l vs _ r hl.tail h;exact ⟨u,by simp only [YM,Sem.run_bind,Builtin.max2,Sem.run_pure,Result.andThen_ok]; exact hu,hr⟩
def mX (w:World):∀ (l:List Field) (pl:List (Nat × Nat)),(l.mapM fun f=>(sizeOf? P f.type).map fun n=>(f.offset,n))=some pl ->
  (l.mapM fun f=>(do pure (f.offset,<- Go.sizeOf f.type):Sem (Nat × Nat))).run P w=.ok pl w
 | [],pl,h=>by simp at h; subst h; simp
 | f :: l,pl,h=>by
  simp only [WK,Xp,U8,U3,Vf] at h;obtain ⟨q,⟨n,hn,rfl⟩,qs,hqs,h⟩:=h;cases h
  have:=mX w l qs hqs
  simp only [WK,Sem.run_bind,cd hn,Result.andThen_ok,this,Sem.run_pure]
def wP {fs:Array Field} {pl:List (Nat × Nat)} (h:uM P fs=some pl) (w:World) :
  (fs.mapM fun f=>(do pure (f.offset,<- Go.sizeOf f.type):Sem (Nat × Nat))).run P w=.ok pl.toArray w:=by
 rw [Zm];simp only [Sem.run_map,mX w fs.toList pl h,Result.andThen_ok]
def qh (parts:Array (Nat × Operand)) (ρ:Operand->Value):(parts.map fun (x:Nat × Operand)=>match x with | (i,x)=>(i,ρ x)).toList=parts.toList.map fun p=>(p.1,ρ p.2):=by
 simp
def Fw {o:Oper} {ao:AOp} {v:AV} (hc:GG P o=some ao) (hp:aP (Src.ev T) ao=some v) (hT:LR μ F w T a.tmps.toList) :
  ∃ u,(execOp a.eval o).run P w=.ok (.value u) w/\VR μ F w v u:=by
 obtain ⟨dst,op,ty,pos,after,guard⟩:=o;cases op <;> simp only [GG] at hc
 case move x =>
  simp only [Vf] at hc; obtain ⟨s,hs,rfl⟩:=hc;cases hp; exact ⟨_,rfl,aO hT hs⟩
 case assign x =>
  simp only [Vf] at hc; obtain ⟨s,hs,rfl⟩:=hc;cases hp; exact ⟨_,rfl,aO hT hs⟩
 case pick c x y =>
  simp only [U8,U3] at hc;obtain ⟨sc,hsc,sx,hsx,sy,hsy,hc⟩:=hc; cases hc;simp only [aP] at hp;split at hp
  ·rename_i t ht;cases hp
   have:=aO hT hsc
   rw [ht] at this
   generalize hcv:a.eval c=cv at this
   cases this;refine ⟨_,HU rfl hcv,?_⟩;cases t
   ·exact aO hT hsy
   ·exact aO hT hsx
  ·cases hp
 case nilCheck x =>
  simp only [Vf] at hc; obtain ⟨s,hs,rfl⟩:=hc;have hx:=aO hT hs;simp only [aP] at hp;split at hp
  ·rename_i e; rw [e] at hx; cases hp; generalize hv:a.eval x=vx at hx; cases hx; rename_i L hL;exact ⟨_,by simp [execOp,hv],.ptr _ _ L hL⟩
  ·rename_i e; rw [e] at hx; cases hp; generalize hv:a.eval x=vx at hx;cases hx with
   | dp _ _ blk off arr ty fr g1 g2 g3 g4=>exact ⟨_,by simp [execOp,hv],.dp _ _ blk off arr ty fr g1 g2 g3 g4⟩
  ·rename_i e; rw [e] at hx; cases hp; generalize hv:a.eval x=vx at hx;cases hx with
   | fn _ _ _ us vs h1 h2 h3 h4=>exact ⟨_,by simp [execOp,hv],.fn _ _ _ us vs h1 h2 h3 h4⟩
  ·rename_i e; rw [e] at hx; cases hp; generalize hv:a.eval x=vx at hx; cases hx; rename_i L hL;exact ⟨_,by simp [execOp,hv],.loopv _ L hL⟩
  ·cases hp
 case unOp op t x =>
  simp only [U8,U3] at hc;obtain ⟨s,hs,hc⟩:=hc; cases hc;obtain ⟨u,hu,hr⟩:=KC (P:=P) (aO hT hs) hp;exact ⟨u,cF hu,hr⟩
 case extract x i =>
  simp only [U8,U3] at hc;obtain ⟨s,hs,hc⟩:=hc; cases hc;have hx:=aO hT hs;simp only [aP] at hp;split at hp
  ·rename_i e; rw [e] at hx; generalize hv:a.eval x=vx at hx;cases hx with
   | tup cs vs h1 h2 =>
    obtain ⟨u,hu,hr⟩:=(LR.of_agg h1 h2).get hp;have hu':vs[i]? = some u:=by simpa using hu
    exact ⟨u,by simp [execOp,hv,Instr.extract,hu'],hr⟩
  ·cases hp
 case makeFunc f first cap =>
  simp only [U8,U3] at hc;obtain ⟨fs,hfs,cs,hcs,hc⟩:=hc; cases hc;cases hp;have h1:=pq hT hfs;have h2:=pq hT hcs;refine ⟨.func f (first.map a.eval) (cap.map a.eval),by simp [execOp,Instr.makeFunc],?_⟩;have e1:LR μ F w (fs.map (Src.ev T)) (first.map a.eval).toList:=by simpa using h1
  have e2:LR μ F w (cs.map (Src.ev T)) (cap.map a.eval).toList:=by simpa using h2
  exact .fn _ _ _ _ _ (gA e1).1 (gA e1).2 (gA e2).1 (gA e2).2
 case build t parts =>
  simp only [U8,U3] at hc;obtain ⟨z,hz,d,hd,hc⟩:=hc;obtain ⟨zv,hzv,hzl⟩:=qK hz w;split at hc
  ·rename_i fs;simp only [U3] at hc;obtain ⟨pl,hpl,ps,hps,hc⟩:=hc;cases hc;simp only [aP,U8,U3] at hp;obtain ⟨cs,hcs,hp⟩:=hp;cases hp;obtain ⟨vs,hvs,hr⟩:=Eu hT (pl[·]?) parts.toList ps z zv.cells cs hps (hzl μ F w) hcs;refine ⟨.agg vs,cF ?_,.agg _ _ (gA hr).1 (gA hr).2⟩;simp only [Instr.build,Sem.run_bind,hzv,Result.andThen_ok,run_underlying hd,wP hpl,qh]
   have:(fun x:Nat=>pl.toArray[x]?)=(fun x:Nat=>pl[x]?):=by funext x; simp
   rw [this,hvs];rfl
  ·rename_i m e;simp only [U3] at hc;obtain ⟨n,hn,ps,hps,hc⟩:=hc;cases hc;simp only [aP,U8,U3] at hp;obtain ⟨cs,hcs,hp⟩:=hp;cases hp;obtain ⟨vs,hvs,hr⟩:=Eu hT (fun i=>some (i*n,n)) parts.toList ps z zv.cells cs hps (hzl μ F w) hcs;refine ⟨.agg vs,cF ?_,.agg _ _ (gA hr).1 (gA hr).2⟩;simp only [Instr.build,Sem.run_bind,hzv,Result.andThen_ok,run_underlying hd,cd hn,qh];rw [hvs];rfl
  ·cases hc
 case binOp op t x y yt =>
  split at hc
  ·rename_i hty;split at hc
   all_goals first | (cases hc; done) | skip
   all_goals
    simp only [U8,U3] at hc;obtain ⟨sx,hsx,sy,hsy,hc⟩:=hc; cases hc;have hx:=aO hT hsx;have hy:=aO hT hsy;simp only [aP] at hp;split at hp
    ·rename_i as bs e1 e2;rw [e1] at hx; rw [e2] at hy;simp only [Vf] at hp;obtain ⟨r,hr,rfl⟩:=hp
     generalize hvx:a.eval x=vx at hx
     generalize hvy:a.eval y=vy at hy
     cases hx with
     | agg _ us h1 h2 =>
     cases hy with
     | agg _ vs h3 h4 =>
     have:=F7 hty (LR.of_agg h1 h2) (LR.of_agg h3 h4) hr x y
     refine ⟨.bool _,cF (by rw [hvx,hvy]; first | exact this.1 | exact this.2),.bool _⟩
    ·cases hp
  ·split at hc
   ·rename_i hty;split at hc
    all_goals first | (cases hc; done) | skip
    all_goals
     simp only [U8,U3] at hc;obtain ⟨sx,hsx,sy,hsy,hc⟩:=hc; cases hc;have hx:=aO hT hsx;have hy:=aO hT hsy;simp only [aP] at hp;split at hp
     ·rename_i as bs e1 e2;rw [e1] at hx; rw [e2] at hy;simp only [Vf] at hp;obtain ⟨r,hr,rfl⟩:=hp
      generalize hvx:a.eval x=vx at hx
      generalize hvy:a.eval y=vy at hy
      have hr':rA (iB P t) as bs=some r:=by
       obtain ⟨n,hn⟩:=Nat.exists_eq_succ_of_ne_zero hty;rw [hn] at hr ⊢;exact hr
      cases hx with
      | agg _ us h1 h2 =>
      cases hy with
      | agg _ vs h3 h4 =>
      have:=A6 hty (LR.of_agg h1 h2) (LR.of_agg h3 h4) hr' x y
      refine ⟨.bool _,cF (by rw [hvx,hvy]; first | exact this.1 | exact this.2),.bool _⟩
     ·cases hp
   split at hc
   ·rename_i hifc;split at hc
    ·rename_i hcst;simp only [U8,U3] at hc;obtain ⟨sx,hsx,sy,hsy,hc⟩:=hc; cases hc;obtain ⟨ms,hms⟩:∃ ms,P.underlying t=some (.interface ms):=by
      unfold Re at hifc;split at hifc
      ·exact ⟨_,by assumption⟩
      ·cases hifc
     obtain ⟨u,hu,hr⟩:=LC hms (aO hT hsx) (aO hT hsy) hp hcst;exact ⟨u,cF hu,hr⟩
    ·cases hc
   simp only [U8,U3] at hc;obtain ⟨kd,hkd,sx,hsx,sy,hsy,hc⟩:=hc; cases hc;obtain ⟨u,hu,hr⟩:=IU hkd (aO hT hsx) (aO hT hsy) hp x y;exact ⟨u,cF hu,hr⟩
 case convert s d x =>
  simp only [U8,U3] at hc;obtain ⟨ds,hds,dd,hdd,hc⟩:=hc;split at hc
  ·simp only [U3] at hc;obtain ⟨sx,hsx,hc⟩:=hc; cases hc;have hx:=aO hT hsx;simp only [aP] at hp;split at hp
   ·rename_i e; rw [e] at hx; cases hp
    generalize hv:a.eval x=vx at hx
    cases hx;exact ⟨_,cF (by rw [hv]; simp [convert,run_underlying hds,run_underlying hdd,Conv.intToInt]),.int _ _⟩
   ·cases hp
  ·simp only [U3] at hc;obtain ⟨sx,hsx,hc⟩:=hc; cases hc;have hx:=aO hT hsx;simp only [aP] at hp;split at hp
   ·rename_i e; rw [e] at hx; cases hp
    generalize hv:a.eval x=vx at hx
    cases hx;exact ⟨_,cF (by rw [hv]; simp [convert,run_underlying hds,run_underlying hdd]),.str _⟩
   ·cases hp
  ·simp only [U3] at hc;obtain ⟨e,he,hc⟩:=hc;split at hc
   ·simp only [U3] at hc;obtain ⟨sx,hsx,hc⟩:=hc; cases hc; cases hp
   ·cases hc
  ·simp only [U3] at hc;obtain ⟨e,he,hc⟩:=hc;split at hc
   ·simp only [U3] at hc;obtain ⟨n,hn,hc⟩:=hc;split at hc
    ·simp only [U3] at hc;obtain ⟨sx,hsx,hc⟩:=hc; cases hc; cases hp
    ·cases hc
   ·cases hc
  ·cases hc
 case makeInterface t x =>
  simp only [U8,U3] at hc;obtain ⟨d,hd,hc⟩:=hc;split at hc
  ·cases hc
  ·rename_i hn;simp only [U3] at hc;obtain ⟨sx,hsx,hc⟩:=hc; cases hc;have hx:=aO hT hsx;simp only [aP] at hp;split at hp
   ·cases hp
   ·cases hp;refine ⟨.iface t (a.eval x),cF ?_,.ifc _ _ _ hx⟩;simp only [Instr.makeInterface,Sem.run_bind,run_underlying hd,Result.andThen_ok];cases d <;> first | rfl | (exact absurd rfl (hn _))
 case slice t x lo hi mx =>
  simp only [U8,U3] at hc;obtain ⟨d,hd,hc⟩:=hc;split at hc
  ·simp only [U3] at hc;obtain ⟨n,hn,sx,hsx,sl,hsl,sh,hsh,sm,hsm,hc⟩:=hc; cases hc;simp only [aP] at hp;split at hp
   ·cases hp
   ·rename_i hstr;obtain ⟨u,hu,hr⟩:=DF hd hn (aO hT hsx) hstr (uX hT hsl) (uX hT hsh) (uX hT hsm) hp;exact ⟨u,cF hu,hr⟩
  ·split at hc
   ·cases hc
   ·rename_i hmx;simp only [U3] at hc;obtain ⟨sx,hsx,sl,hsl,sh,hsh,hc⟩:=hc; cases hc;have hx:=aO hT hsx;simp only [aP] at hp;split at hp
    ·rename_i s e;rw [e] at hx
     generalize hv:a.eval x=vx at hx
     cases hx;have hm:mx=none:=by simpa using hmx
     subst hm;obtain ⟨u,hu,hr⟩:=Aa (mx:=none) (vmx:=none) hd (uX hT hsl) (uX hT hsh) (show OR μ F w none none from trivial) hp;exact ⟨u,cF (by rw [hv]; exact hu),hr⟩
    ·cases hp
  ·cases hc
 case fieldAddr t x i =>
  simp only [U8,U3] at hc;obtain ⟨d,hd,hc⟩:=hc;split at hc
  ·rename_i fs;simp only [U3] at hc;obtain ⟨f,hf,n,hn,hc⟩:=hc;split at hc
   ·cases hc
   ·rename_i hn0;simp only [U3] at hc;obtain ⟨sx,hsx,hc⟩:=hc; cases hc;have hx:=aO hT hsx;have hrun:∀ b o,(Instr.fieldAt t (.pointer (some ⟨b,o,none⟩)) i).run P w=.ok (.pointer (some ⟨b,o+f.offset,none⟩)) w:=by
     intro b o;simp [Instr.fieldAt,run_underlying hd,hf,Instr.sureAddr,fieldPlace,cd hn,hn0,jv]
    simp only [aP] at hp;split at hp
    ·rename_i b o e; rw [e] at hx; cases hp; generalize hv:a.eval x=vx at hx; cases hx; rename_i L hL;exact ⟨_,cF (by rw [hv]; exact hrun _ _),.ptr _ _ L hL⟩
    ·rename_i cs o e; rw [e] at hx; cases hp; generalize hv:a.eval x=vx at hx;cases hx with
     | dp _ _ blk off arr ty fr g1 g2 g3 g4 =>
      refine ⟨_,cF (by rw [hv]; exact hrun _ _),?_⟩;rw [Wb];exact .dp _ _ blk off arr ty fr g1 g2 g3 g4
    ·cases hp
  ·cases hc
 case field t x i =>
  simp only [U8,U3] at hc;obtain ⟨d,hd,hc⟩:=hc;split at hc
  ·rename_i fs;simp only [U3] at hc;obtain ⟨f,hf,k,hk,sx,hsx,hc⟩:=hc; cases hc;have hx:=aO hT hsx;simp only [aP] at hp;split at hp
   ·rename_i cs e; rw [e] at hx; generalize hv:a.eval x=vx at hx;cases hx with
    | agg _ vs h1 h2 =>
     obtain ⟨u,hu,hr⟩:=yc hk (LR.of_agg h1 h2) hp;exact ⟨u,cF (by rw [hv]; simp [Instr.field,run_underlying hd,hf,asAgg,hu]),hr⟩
   ·cases hp
  ·cases hc
 case indexAddr t x i =>
  simp only [U8,U3] at hc;obtain ⟨d,hd,hc⟩:=hc;split at hc
  ·rename_i e;simp only [U3] at hc;obtain ⟨n,hn,sx,hsx,si,hsi,hc⟩:=hc; cases hc;have hx:=aO hT hsx;have hi:=aO hT hsi;simp only [aP,U8,U3] at hp;obtain ⟨ix,hix,hp⟩:=hp;obtain ⟨k,hk⟩:=fZ hix hi;have hrun:∀ b o len cap,ix<len->(Instr.indexAt t (.slice (some ⟨b,o,none⟩) len cap) (.int k (ix:Int))).run P w=.ok (.pointer (some ⟨b,o+ix*n,none⟩)) w:=by
    intro b o len cap hlt;simp [Instr.indexAt,asIntOf,run_underlying hd,cd hn,jv,hlt]
   split at hp
   ·rename_i b off m c sz ex e'; rw [e'] at hx; generalize hv:a.eval x=vx at hx;split at hp
    ·rename_i hlt;cases hp;cases hx with
     | own _ _ _ _ _ _ L cap h1 h2 h3 h4 h5 h6 =>
      exact ⟨_,cF (by rw [hv,hk]; exact hrun _ _ _ _ hlt.1),.ptr _ _ L h1⟩
    ·cases hp
   ·rename_i cs m e'; rw [e'] at hx; generalize hv:a.eval x=vx at hx;split at hp
    ·rename_i hlt;cases hp;cases hx with
     | sl0=>omega
     | sl _ _ _ blk off arr ty fr g1 g2 g3 g4 g5 =>
      exact ⟨_,cF (by rw [hv,hk]; exact hrun _ _ _ _ hlt),.dp _ _ blk off arr ty fr g1 g2 g4 g5⟩
    ·cases hp
   ·cases hp
  ·rename_i len e;split at hc
   ·simp only [U3] at hc;obtain ⟨n,hn,si,hsi,hc⟩:=hc; cases hc; cases hp
   ·simp only [U3] at hc;obtain ⟨n,hn,sx,hsx,si,hsi,hc⟩:=hc; cases hc;have hx:=aO hT hsx;have hi:=aO hT hsi;simp only [aP,U8,U3] at hp;obtain ⟨ix,hix,hp⟩:=hp;obtain ⟨k,hk⟩:=fZ hix hi;have hrun:∀ b o,ix<len->(Instr.indexAt t (.pointer (some ⟨b,o,none⟩)) (.int k (ix:Int))).run P w=.ok (.pointer (some ⟨b,o+ix*n,none⟩)) w:=by
     intro b o hlt;simp [Instr.indexAt,Instr.sureAddr,asIntOf,run_underlying hd,cd hn,jv,hlt]
    split at hp
    ·rename_i b o e'; rw [e'] at hx; generalize hv:a.eval x=vx at hx;split at hp
     ·rename_i hlt;cases hp;cases hx with
      | ptr _ _ L h1=>exact ⟨_,cF (by rw [hv,hk]; exact hrun _ _ hlt),.ptr _ _ L h1⟩
     ·cases hp
    ·rename_i cs o e'; rw [e'] at hx; generalize hv:a.eval x=vx at hx;split at hp
     ·rename_i hlt;cases hp;cases hx with
      | dp _ _ blk off arr ty fr g1 g2 g4 g5 =>
       refine ⟨_,cF (by rw [hv,hk]; exact hrun _ _ hlt),?_⟩;rw [Wb];exact .dp _ _ blk off arr ty fr g1 g2 g4 g5
     ·cases hp
    ·cases hp
  ·cases hc
 case index t x i =>
  simp only [U8,U3] at hc;obtain ⟨d,hd,hc⟩:=hc;split at hc
  ·rename_i len e;simp only [U3] at hc;obtain ⟨n,hn,kk,hkk,sx,hsx,si,hsi,hc⟩:=hc; cases hc;have hx:=aO hT hsx;have hi:=aO hT hsi;simp only [aP,U8,U3] at hp;obtain ⟨ix,hix,hp⟩:=hp;obtain ⟨k,hk⟩:=fZ hix hi;split at hp
   ·rename_i cs e'; rw [e'] at hx; generalize hv:a.eval x=vx at hx;split at hp
    ·rename_i hlt;cases hx with
     | agg _ vs h1 h2 =>
      obtain ⟨u,hu,hr⟩:=yc hkk (LR.of_agg h1 h2) hp;exact ⟨u,cF (by rw [hv,hk]; simp [Instr.index,asIntOf,run_underlying hd,hlt,cd hn,hu]),hr⟩
    ·cases hp
   ·cases hp
  ·simp only [U3] at hc;obtain ⟨sx,hsx,si,hsi,hc⟩:=hc; cases hc;have hx:=aO hT hsx;have hi:=aO hT hsi;simp only [aP,U8,U3] at hp;obtain ⟨ix,hix,hp⟩:=hp;obtain ⟨k,hk⟩:=fZ hix hi;split at hp
   ·rename_i s e'; rw [e'] at hx; generalize hv:a.eval x=vx at hx;simp only [Vf] at hp;obtain ⟨b,hb,rfl⟩:=hp;cases hx;exact ⟨_,cF (by rw [hv,hk]; simp [Instr.index,asIntOf,run_underlying hd,hb]),.int _ _⟩
   ·cases hp
  ·cases hc
 case call c =>
  simp only [U8,U3] at hc;obtain ⟨args,hargs,hc⟩:=hc;have hl:=pq hT hargs;obtain ⟨callee,cargs,argTypes⟩:=c;simp only at hc hl hargs;cases callee with
  | value f =>
   simp only [U3] at hc;obtain ⟨s,hs,hc⟩:=hc; cases hc; cases hp
  | invoke r m=>cases hc
  | builtin b =>
   have hrun:∀ (s:Sem Value) (u:Value),s.run P w=.ok u w->(∀ consts,builtin b argTypes ty consts (cargs.map a.eval)=(do pure (.value (<- s)))) ->
     (execOp a.eval ⟨dst,.call ⟨.builtin b,cargs,argTypes⟩,ty,pos,after,guard⟩).run P w=.ok (.value u) w:=by
    intro s u h1 h2;simp only [execOp,resolve,Sem.run_bind,Sem.run_pure,Result.andThen_ok,invoke];exact (congrArg (fun s=>s.run P w) (h2 _)).trans (cF h1)
   have one:∀ {x:Src},args=[x]->∃ v,cargs.map a.eval = #[v]/\VR μ F w (x.ev T) v:=by
    intro x hx;subst hx;have h1:=hl.1;simp only [Ve,Vk,VT,Xq,Vc,XU] at h1;obtain ⟨l⟩:=cargs
    match l,h1 with
    | [y],_=>exact ⟨a.eval y,by simp,hl.2 0 _ _ rfl rfl⟩
   have aty:∀ {t:TypeId},argTypes.toList=[t]->argTypes = #[t]:=by
    intro t ht;obtain ⟨l⟩:=argTypes; simp at ht; subst ht; rfl
   simp only at hc;split at hc
   ·rename_i x t;obtain ⟨v1,hv1,hr1⟩:=one rfl;simp only [U3] at hc;obtain ⟨d,hd,hc⟩:=hc;split at hc
    ·rename_i e ht;have hat:=aty (by assumption);cases hc;simp only [aP] at hp;split at hp
     ·rename_i b off n c sz ex e'; rw [e'] at hr1; cases hp;cases hr1;exact ⟨_,hrun _ _ (by rw [hv1,hat]; simp [Builtin.len_,run_underlying hd]; rfl) (fun _=>rfl),.int _ _⟩
     ·rename_i b off e'; rw [e'] at hr1; cases hp;cases hr1
      ·exact ⟨_,hrun _ _ (by rw [hv1,hat]; simp [Builtin.len_,run_underlying hd]; rfl) (fun _=>rfl),.int _ _⟩
      ·exact ⟨_,hrun _ _ (by rw [hv1,hat]; simp [Builtin.len_,run_underlying hd]; rfl) (fun _=>rfl),.int _ _⟩
     ·rename_i e'; rw [e'] at hr1; cases hp;cases hr1;exact ⟨_,hrun _ _ (by rw [hv1,hat]; simp [Builtin.len_,run_underlying hd]; rfl) (fun _=>rfl),.int _ _⟩
     ·cases hp
    ·rename_i ht;have hat:=aty (by assumption);cases hc;simp only [aP] at hp;split at hp
     ·rename_i s e'; rw [e'] at hr1; cases hp;cases hr1;exact ⟨_,hrun _ _ (by rw [hv1,hat]; simp [Builtin.len_,run_underlying hd]; rfl) (fun _=>rfl),.int _ _⟩
     ·cases hp
    ·cases hc; cases hp
    ·cases hc
   ·rename_i x t;obtain ⟨v1,hv1,hr1⟩:=one rfl;simp only [U3] at hc;obtain ⟨d,hd,hc⟩:=hc;split at hc
    ·rename_i e ht;have hat:=aty (by assumption);cases hc;simp only [aP] at hp;split at hp
     ·rename_i b off n c sz e'; rw [e'] at hr1; cases hp;cases hr1 with
      | own _ _ _ _ _ _ L cap h1 h2 h3 h4 h5 h6 =>
      have:=h5 rfl
      subst this;exact ⟨_,hrun _ _ (by rw [hv1,hat]; simp [Builtin.cap_,run_underlying hd]; rfl) (fun _=>rfl),.int _ _⟩
     ·rename_i e'; rw [e'] at hr1; cases hp;cases hr1;exact ⟨_,hrun _ _ (by rw [hv1,hat]; simp [Builtin.cap_,run_underlying hd]; rfl) (fun _=>rfl),.int _ _⟩
     ·cases hp
    ·cases hc
   ·cases hc;simp only [aP] at hp;rw [show cargs.toList.map a.eval=(cargs.map a.eval).toList by simp] at hl;split at hp
    ·rename_i k m rest e';rw [e'] at hl;obtain ⟨l,hvs⟩:∃ l,(cargs.map a.eval).toList=l:=⟨_,rfl⟩
     rw [hvs] at hl;cases l with
     | nil=>have:=hl.1; simp at this
     | cons v vs =>
      have h0:=hl.head;cases h0;obtain ⟨u,hu,hr⟩:=FH (P:=P) k rest vs m _ hl.tail hp;exact ⟨u,hrun (Builtin.min_ argTypes ty (cargs.map a.eval)) u (by unfold Builtin.min_; rw [hvs]; exact hu) (fun _=>rfl),hr⟩
    ·cases hp
   ·cases hc;simp only [aP] at hp;rw [show cargs.toList.map a.eval=(cargs.map a.eval).toList by simp] at hl;split at hp
    ·rename_i k m rest e';rw [e'] at hl;obtain ⟨l,hvs⟩:∃ l,(cargs.map a.eval).toList=l:=⟨_,rfl⟩
     rw [hvs] at hl;cases l with
     | nil=>have:=hl.1; simp at this
     | cons v vs =>
      have h0:=hl.head;cases h0;obtain ⟨u,hu,hr⟩:=FI (P:=P) k rest vs m _ hl.tail hp;exact ⟨u,hrun (Builtin.max_ argTypes ty (cargs.map a.eval)) u (by unfold Builtin.max_; rw [hvs]; exact hu) (fun _=>rfl),hr⟩
    ·cases hp
   all_goals (try simp only [U3] at hc)
   all_goals (repeat' (first | (cases hc; done) | (obtain ⟨_,_,hc⟩:=hc) | (simp only [U3] at hc) | (split at hc)))
   all_goals first | (cases hp; done) | (cases hc; cases hp; done)
 case typeAssert x xt t ok =>
  simp only [U8,U3] at hc;obtain ⟨d,hd,hc⟩:=hc;split at hc
  ·cases hc
  ·rename_i hni;simp only [U3] at hc;obtain ⟨zv,hzv,z,hz,sx,hsx,hc⟩:=hc;cases hc;have hx:=aO hT hsx;obtain ⟨i,hi,hzi⟩:=hzv;have hzr:(zeroValue t).run P w=.ok zv w:=by simp [zeroValue,typeInfo,hi,hzi]
   have hu:=run_underlying (P:=P) hd;simp only [aP] at hp;have two:∀ {x:AV} {u:Value} {b:Bool},VR μ F w x u->VR μ F w (.tup [x,.bool b]) (.tuple #[u,.bool b]):=fun {x u b} h=>by
    refine .tup _ _ rfl fun i c v hc hv=>?_
    have:i=0\/i=1\/2<=i:=by omega
    rcases this with rfl | rfl | h2
    ·simp at hc hv; subst hc; subst hv; exact h
    ·simp at hc hv; subst hc; subst hv; exact .bool _
    ·rw [VI (by simpa using h2)] at hc; cases hc
   split at hp
   ·rename_i t' y e; rw [e] at hx; generalize hv:a.eval x=vx at hx;cases hx with
    | ifc _ _ u hy =>
    split at hp
    ·rename_i ht;cases hp;subst ht;cases ok
     ·refine ⟨_,cF (?_:(Instr.typeAssert (a.eval x) xt t' false).run P w=.ok u w),hy⟩;rw [hv]; unfold Instr.typeAssert;cases d <;> first | exact absurd rfl (hni _) | simp [hu]
     ·refine ⟨_,cF (?_:(Instr.typeAssert (a.eval x) xt t' true).run P w=.ok (.tuple #[u,.bool true]) w),two hy⟩;rw [hv]; unfold Instr.typeAssert;cases d <;> first | exact absurd rfl (hni _) | simp [hu]
    ·rename_i ht;split at hp
     ·rename_i hok;cases hp;subst hok;refine ⟨_,cF (?_:(Instr.typeAssert (a.eval x) xt t true).run P w=.ok (.tuple #[zv,.bool false]) w),two (pW hz)⟩;rw [hv]; unfold Instr.typeAssert;cases d <;> first | exact absurd rfl (hni _) | simp [hu,ht,hzr]
     ·cases hp
   ·rename_i e; rw [e] at hx; generalize hv:a.eval x=vx at hx;cases hx;split at hp
    ·rename_i hok;cases hp;subst hok;refine ⟨_,cF (?_:(Instr.typeAssert (a.eval x) xt t true).run P w=.ok (.tuple #[zv,.bool false]) w),two (pW hz)⟩;rw [hv]; unfold Instr.typeAssert;cases d <;> first | exact absurd rfl (hni _) | simp [hu,hzr]
    ·cases hp
   ·cases hp
 case load t x =>
  split at hc
  ·simp only [U8,U3] at hc;obtain ⟨_,_,hc⟩:=hc;cases hc; cases hp
  ·simp only [U8,U3] at hc;obtain ⟨_,_,_,_,hc⟩:=hc;cases hc; cases hp
 case next x sb =>
  split at hc
  ·simp only [Vf] at hc;obtain ⟨_,_,hc⟩:=hc;cases hc; cases hp
  ·cases hc
 all_goals (try simp only [U8,U3,Vf] at hc)
 all_goals (repeat' (first | (cases hc; done) | (obtain ⟨_,_,hc⟩:=hc) | (simp only [U3] at hc) | (split at hc)))
 all_goals first | (cases hp; done) | (cases hc; cases hp; done)
end
end Go.Proofs.YteaefaohjlmjdaaGreat.Ev
