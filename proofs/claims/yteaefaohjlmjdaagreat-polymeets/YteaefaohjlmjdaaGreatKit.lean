/- A part. -/
import Derived.Test.YteaefaohjlmjdaaGreatA0
import Derived.Test.YteaefaohjlmjdaaGreatEvDraw5
import Derived.Test.YteaefaohjlmjdaaGreatProg
set_option linter.all false
namespace Go.Proofs.YteaefaohjlmjdaaGreat.Ev
open Go
def Heap.up (H:Heap) (k:Nat):Heap:={ H with next:=H.next+k }
def Tt (H:Heap) (a b:Nat):(H.up a).up b=H.up (a+b):=by simp [Heap.up,Wj]
theorem Sr (H:Heap) (b k:Nat) (e:Ent):(H.put b e).up k=(H.up k).put b e:=rfl
theorem QJ (H:Heap) (b k:Nat):(H.kill b).up k=(H.up k).kill b:=rfl
theorem dr (H:Heap) (k:Nat):(H.up k).next=H.next+k:=rfl
theorem next_put (H:Heap) (b:Nat) (e:Ent):(H.put b e).next=H.next:=rfl
theorem next_kill (H:Heap) (b:Nat):(H.kill b).next=H.next:=rfl
theorem oI (H:Heap) (k b:Nat):(H.up k).get b=H.get b:=rfl
def ap (H:Heap) (b:Nat) (e:Ent):(H.put b e).get b=some e:=by rw [Gj,if_pos rfl]
def aB {H:Heap} {b c:Nat} {e:Ent} (h:c≠b):(H.put b e).get c=H.get c:=by rw [Gj,if_neg h]
def cP {H:Heap} {b c:Nat} (h:c≠b):(H.kill b).get c=H.get c:=by rw [LN,if_neg h]
structure Kp (H H':Heap):Prop where
 wf0:Wf H
 wf:Wf H'
 le:H.next<=H'.next
 same:∀ b,b<H.next->H'.get b=H.get b
def Kp.sub {H H':Heap} (h:Kp H H'):Sub H H':=⟨h.le,fun b e hb=>(h.same b (h.wf0 b e hb)).trans hb⟩
def Kp.refl {H:Heap} (h:Wf H):Kp H H:=⟨h,h,Vc _,fun _ _=>rfl⟩
def Kp.up {H H':Heap} (h:Kp H H') (k:Nat):Kp H (H'.up k):=⟨h.wf0,h.wf.bump k,Vn h.le (VL _ _),h.same⟩
def Kp.trans {H H' H'':Heap} (h:Kp H H') (h':Kp H' H''):Kp H H'':=⟨h.wf0,h'.wf,Vn h.le h'.le,fun b hb=>(h'.same b (Vu hb h.le)).trans (h.same b hb)⟩
def Kp.get {H H':Heap} (h:Kp H H') {b:Nat} {e:Ent} (hb:H.get b=some e):H'.get b=some e:=h.sub.get b e hb
def Kp.put {H H':Heap} (h:Kp H H') {b:Nat} {e:Ent} (h1:H.next<=b) (h2:b<H'.next):Kp H (H'.put b e):=⟨h.wf0,h.wf.put h2 e,h.le,fun c hc=>by rw [aB zO]; exact h.same c hc⟩
def Kp.kill {H H':Heap} (h:Kp H H') {b:Nat} (h1:H.next<=b):Kp H (H'.kill b):=⟨h.wf0,h.wf.kill b,h.le,fun c hc=>by rw [cP zO]; exact h.same c hc⟩
def Kp.old {H H':Heap} (h:Kp H H') {b:Nat} {e:Ent} (hb:H.get b=some e):b<H.next:=h.wf0 b e hb
def Kp.free {H H':Heap} (h:Kp H H') {b:Nat} (h1:b<H.next) (h2:H.get b=none):H'.get b=none:=(h.same b h1).trans h2
def J3 (os:List E0):List Nat:=os.filterMap (·.dst)
def gt:ACode->List Nat
 | .region os=>J3 os
 | .draw ds _=>ds.filterMap (·.dst)
 | .drawF ds _ l _=>(ds++[l]).filterMap (·.dst)
 | .seq a b=>gt a++gt b
 | .cond _ a b=>gt a++gt b
 | .block _ a=>gt a
 | .loop a=>gt a
 | .scope a=>gt a
 | _=>[]
def wW (res:List (Nat × Option (Option Nat))) (Q:AV->Heap->Prop) (x:Ex) (T:Tm) (H:Heap):Prop:=(x=.nrm\/x=.ret)/\∃ v,cx T H res=some v/\Q v H
def NR {res:List (Nat × Option (Option Nat))} {Q:AV->Heap->Prop} {T:Tm} {H:Heap}:wW res Q .nrm T H=gV (cx T H res) (fun v=>Q v H) ():=by
 unfold wW gV iM;cases cx T H res <;> simp
def NQ {res:List (Nat × Option (Option Nat))} {Q:AV->Heap->Prop} {T:Tm} {H:Heap}:wW res Q .ret T H=gV (cx T H res) (fun v=>Q v H) ():=by
 unfold wW gV iM;cases cx T H res <;> simp
def vz (H:Heap) (v:AV):Option (Option Nat)->Option AV
 | none=>some v
 | some k=>match v with
  | .ptr b o=>bc H k (.ptr b o)
  | _=>none
theorem K9 (H:Heap) (v:AV):vz H v none=some v:=rfl
theorem NT (H:Heap) (b o:Nat) (k:Option Nat):vz H (.ptr b o) (some k)=bc H k (.ptr b o):=rfl
def lc (T:Tm) (H:Heap) (r:Nat × Option (Option Nat)):oV T H r=vz H (ad T r.1) r.2:=by
 obtain ⟨n,k⟩:=r;cases k with
 | none=>rfl
 | some k=>simp only [oV,vz]; cases ad T n <;> rfl
def Sc (a b:Option AV):Option AV:=a.bind fun a=>b.bind fun b=>some (.tup [a,b])
def Sb (a b c:Option AV):Option AV:=a.bind fun a=>b.bind fun b=>c.bind fun c=>some (.tup [a,b,c])
theorem KO (a b:AV):Sc (some a) (some b)=some (.tup [a,b]):=rfl
theorem KN (a b c:AV):Sb (some a) (some b) (some c)=some (.tup [a,b,c]):=rfl
theorem Sn (T:Tm) (H:Heap):cx T H []=some (.tup []):=rfl
def Sl (T:Tm) (H:Heap) (r:Nat) (k:Option (Option Nat)):cx T H [(r,k)]=vz H (ad T r) k:=by
 show (List.mapM (oV T H) [(r,k)]).bind _=_;rw [<- lc T H (r,k)];simp only [WL,Zx];cases oV T H (r,k) <;> rfl
def Sk (T:Tm) (H:Heap) (r s:Nat) (k l:Option (Option Nat)):cx T H [(r,k),(s,l)]=Sc (vz H (ad T r) k) (vz H (ad T s) l):=by
 show (List.mapM (oV T H) [(r,k),(s,l)]).bind _=_;rw [<- lc T H (r,k),<- lc T H (s,l)];simp only [WL,Zx,Sc];cases oV T H (r,k) <;> cases oV T H (s,l) <;> rfl
def NN (T:Tm) (H:Heap) (r s t:Nat) (k l m:Option (Option Nat)):cx T H [(r,k),(s,l),(t,m)]=Sb (vz H (ad T r) k) (vz H (ad T s) l) (vz H (ad T t) m):=by
 show (List.mapM (oV T H) [(r,k),(s,l),(t,m)]).bind _=_;rw [<- lc T H (r,k),<- lc T H (s,l),<- lc T H (t,m)];simp only [WL,Zx,Sb];cases oV T H (r,k) <;> cases oV T H (s,l) <;> cases oV T H (t,m) <;> rfl
section
variable {tab:Nat->Option az} {f n:Nat} {res:List (Nat × Option (Option Nat))} {body:ACode} {H:Heap} {Q:AV->Heap->Prop}
def Ut (a:tab f=some ⟨0,n,res,body,none⟩) (h:∀ T:Tm,T.length=n->WC tab false body T H (wW res Q)):Ans tab (.fn f []) H Q :=
 pn a rfl rfl (Vk _) fun T hl g=>h T hl
def cY {a:AV} (b:tab f=some ⟨1,n,res,body,none⟩) (hn:1<=n) (h:∀ T:Tm,T.length=n->ad T 0=a->WC tab false body T H (wW res Q)):Ans tab (.fn f [a]) H Q :=
 pn b rfl rfl hn fun T hl g=>h T hl (g 0 (by simp))
def bk {a b:AV} (c:tab f=some ⟨2,n,res,body,none⟩) (hn:2<=n) (h:∀ T:Tm,T.length=n->ad T 0=a->ad T 1=b->WC tab false body T H (wW res Q)):Ans tab (.fn f [a,b]) H Q :=
 pn c rfl rfl hn fun T hl g=>h T hl (g 0 (by simp)) (g 1 (by simp))
def ni {a b c:AV} (d:tab f=some ⟨3,n,res,body,none⟩) (hn:3<=n) (h:∀ T:Tm,T.length=n->ad T 0=a->ad T 1=b->ad T 2=c->WC tab false body T H (wW res Q)):Ans tab (.fn f [a,b,c]) H Q :=
 pn d rfl rfl hn fun T hl g=>h T hl (g 0 (by simp)) (g 1 (by simp)) (g 2 (by simp))
def QO {a b c d:AV} (e:tab f=some ⟨4,n,res,body,none⟩) (hn:4<=n) (h:∀ T:Tm,T.length=n->ad T 0=a->ad T 1=b->ad T 2=c->ad T 3=d->WC tab false body T H (wW res Q)):Ans tab (.fn f [a,b,c,d]) H Q :=
 pn e rfl rfl hn fun T hl g=>h T hl (g 0 (by simp)) (g 1 (by simp)) (g 2 (by simp)) (g 3 (by simp))
def TU {a b:AV} (c:tab f=some ⟨2,n,res,body,none⟩) (hn:2<=n) (h:∀ T:Tm,T.length=n->ad T 0=a->ad T 1=b->WC tab false body T H (wW res Q)):Ans tab (.ent f [a,b]) H Q :=
 BW c rfl rfl hn fun T hl g=>h T hl (g 0 (by simp)) (g 1 (by simp))
def Uy {a b c:AV} (d:tab f=some ⟨3,n,res,body,none⟩) (hn:3<=n) (h:∀ T:Tm,T.length=n->ad T 0=a->ad T 1=b->ad T 2=c->WC tab false body T H (wW res Q)):Ans tab (.ent f [a,b,c]) H Q :=
 BW d rfl rfl hn fun T hl g=>h T hl (g 0 (by simp)) (g 1 (by simp)) (g 2 (by simp))
end
theorem Ux (a:AV) (l:List AV):Gq 0 (.tup (a :: l))=some a:=rfl
theorem Uw (a b:AV) (l:List AV):Gq 1 (.tup (a :: b :: l))=some b:=rfl
theorem Uv (a b c:AV) (l:List AV):Gq 2 (.tup (a :: b :: c :: l))=some c:=rfl
theorem SP (off b o:Nat):Bb off (.ptr b o)=some (.ptr b (o+off)):=rfl
theorem L3 (k:Option Nat) (off:Nat) (cs:List AV):EF k off (.agg cs)=bM cs off k:=rfl
theorem Qx (b o:Nat):AG (.ptr b o)=some (.ptr b o):=rfl
theorem Sy (f:Nat) (a c:List AV):AG (.fn (.func f) a c)=some (.fn (.func f) a c):=rfl
def IR (neg:Bool) (n:Nat):AV->AV->Option AV
 | .agg a,.agg b=>(match n with | 0=>Gv a b | n+1=>rH (n+1) a b).map fun r=>.bool (if neg then !r else r)
 | _,_=>none
def MW {tab:Nat->Option az} (ev:Src->AV) (H:Heap) (id:Nat) (Q:AV->Heap->Prop) (neg:Bool) (n:Nat) (x y:Src):mF tab ev H id (.eqAgg neg n x y) Q=gV (IR neg n (ev x) (ev y)) (fun v=>Q v H) ():=by
 rw [ck,eH tab ev H id Q (o:=.eqAgg neg n x y) (v:=IR neg n (ev x) (ev y)) (fun f a e=>by cases e) (by simp only [aS]; cases ev x <;> cases ev y <;> rfl) rfl]; rfl
def TM (len size:Nat) (k:Option Nat) (v i:AV):Option AV:=aS (fun s=>match s with | .t 0=>v | _=>i) (.indexAgg len size k (.t 0) (.t 1))
def E6 {tab:Nat->Option az} (ev:Src->AV) (H:Heap) (id:Nat) (Q:AV->Heap->Prop) (len size:Nat) (k:Option Nat) (x i:Src):mF tab ev H id (.indexAgg len size k x i) Q=gV (TM len size k (ev x) (ev i)) (fun v=>Q v H) ():=by
 rw [ck,eH tab ev H id Q (o:=.indexAgg len size k x i) (v:=TM len size k (ev x) (ev i)) (fun f a e=>by cases e) (by simp only [aS,TM]) rfl]; rfl
theorem Ur (k:IntKind) (a b:AV):TM 2 1 none (.agg [a,b]) (.int k 0)=some a:=rfl
theorem Uq (k:IntKind) (a b:AV):TM 2 1 none (.agg [a,b]) (.int k 1)=some b:=rfl
theorem SR (a b c d:Bool):IR false 0 (.agg [.bool a,.bool b]) (.agg [.bool c,.bool d])=some (.bool (a == c && b == d)):=rfl
theorem R8 (k:IntKind) (n:Int):R9 .neg (.int k n)=some (.int k (k.wrap (0-n))):=rfl
section
variable (a b:Nat)
def Mv (x y:Int):bu .add .int (.int .i64 x) (.int .i64 y)=some (.int .i64 (IntKind.i64.wrap (x+y))):=ET _ _ _
def Mq (x y:Int):bu .sub .int (.int .i64 x) (.int .i64 y)=some (.int .i64 (IntKind.i64.wrap (x-y))):=Kf _ _ _
def Ms (x y:Int):bu .mul .int (.int .i64 x) (.int .i64 y)=some (.int .i64 (IntKind.i64.wrap (x*y))):=Kg _ _ _
def Mt:bu .add .int (.int .u64 (a:Int)) (.int .u64 (b:Int))=some (.int .u64 (((a+b) % 18446744073709551616:Nat):Int)):=by
 rw [ET,lq]; congr 2
def sW:bu .mul .int (.int .u64 (a:Int)) (.int .u64 (b:Int))=some (.int .u64 (((a*b) % 18446744073709551616:Nat):Int)):=by
 rw [Kg,lq]; congr 2
def xM (h:b<=18446744073709551616):bu .sub .int (.int .u64 (a:Int)) (.int .u64 (b:Int))=some (.int .u64 (((a+18446744073709551616-b) % 18446744073709551616:Nat):Int)):=by
 rw [Kf,lq]; congr 2; omega
def I7:bu .and .int (.int .u64 (a:Int)) (.int .u64 4294967295)=some (.int .u64 ((a % 4294967296:Nat):Int)):=by
 have e:(BitVec.ofInt 64 (a:Int) &&& BitVec.ofInt 64 4294967295).toNat=a % 4294967296:=by
  rw [BitVec.toNat_and];have h1:(BitVec.ofInt 64 (a:Int)).toNat=a % 2^64:=by simp
  have h2:(BitVec.ofInt 64 4294967295).toNat=2^32-1:=by decide
  rw [h1,h2,Nat.and_two_pow_sub_one_eq_mod];omega
 show some (AV.int .u64 (IntKind.u64.wrap ((BitVec.ofInt 64 (a:Int) &&& BitVec.ofInt 64 4294967295).toNat:Nat)))=_;rw [e,gQ zO zO]
def sU {k:IntKind} (hb:b<64):bu .shr .int (.int .u64 (a:Int)) (.int k (b:Int))=some (.int .u64 ((a / 2^b:Nat):Int)):=by
 show lU .shr .u64 (a:Int) (b:Int)=_;unfold lU;rw [if_neg zO];have h1:Nat.min (b:Int).toNat IntKind.u64.bits=b:=by
  have:IntKind.u64.bits=64:=rfl
  rw [this,WN]; exact VZ zO
 simp only [h1];congr 2;rw [Ze _ (Xc (Int.pow_pos zO))]
 simp
def Mr:bu .shr .int (.int .u64 (a:Int)) (.int .u64 32)=some (.int .u64 ((a / 4294967296:Nat):Int)):=sU a 32 zO
end
theorem HZ (T:Tm) (t:Nat) (v:AV) (r:List (Nat × AV)):oW T ((t,v) :: r)=oW (T.set t v) r:=rfl
theorem Lg (T:Tm):oW T []=T:=rfl
def nh (v:AV) (w:Bool) (P Q:Prop) (_:Hm P) (_:Hm Q):Prop:=match v with
 | .bool b=>if b=w then P else Q
 | .tup []=>Q
 | _=>False
theorem Gi (b w:Bool) (P Q:Prop):nh (.bool b) w P Q () ()=iteH (b=w) P Q () ():=rfl
theorem IE (w:Bool) (P Q:Prop):nh (.tup []) w P Q () ()=Q:=rfl
section
variable {tab:Nat->Option az} {rd:Bool} {T:Tm} {H:Heap}
def Ku {Q:Tm->Heap->Prop} {id:Nat} (d:Option Nat) (o:AOp) (t:Nat) (w:Bool) (os:List E0):EY tab id (⟨d,o,some (t,w)⟩ :: os) T H Q =
  nh (ad T t) w (mF tab (Src.ev T) H id o fun v H'=>EY tab (id+1) os (putT T d v) H' Q) (EY tab (id+1) os (putT T d (.tup [])) H Q) () ():=by
 rw [zw,ck];have a:co T (some (t,w))=match ad T t with | .bool b=>some (b == w) | .tup []=>some false | _=>none:=by
  unfold ad;rw [U5];cases h:T[t]? with
  | none=>simp only [co,h]; rfl
  | some v =>
   simp only [co,h,WK];cases v with
   | tup vs=>cases vs <;> rfl
   | _=>rfl
 conv=>lhs; unfold xV
 simp only [a,nh];cases ad T t with
 | bool b=>cases b <;> cases w <;> rfl
 | tup vs=>cases vs <;> rfl
 | _=>rfl
def Hq {Q:Ex->Tm->Heap->Prop} (ops:List E0):WC tab rd (.region ops) T H Q=Sp H.next (H.up ops.length) (fun id H'=>EY tab id ops T H' (Q .nrm)) ():=Kv ops
theorem IY (P Q:Prop):J9 (.bool true) P Q () ()=P:=rfl
theorem GH (P Q:Prop):J9 (.bool false) P Q () ()=Q:=rfl
end
def QP (id id1 i n c k:Nat) (body:ACode):ACode :=
 .block id (.loop (.seq (.region [⟨some c,.bin .lss .int (.t i) (.t n),none⟩]) (.seq (.cond (.t c) .skip (.exit id)) (.seq (.block id1 body)
  (.region [⟨some k,.bin .add .int (.t i) (.c (.int .i64 1)),none⟩,⟨some i,.mv (.t k),none⟩])))))
def O5 (id:Nat) (c:ACode):ACode:=.block id (.loop c)
def jk:ACode->Bool
 | .rangeM ..=>false
 | .scopeL ..=>false
 | .seq a b=>jk a && jk b
 | .cond _ a b=>jk a && jk b
 | .block _ a=>jk a
 | .loop a=>jk a
 | .scope a=>jk a
 | _=>true
structure Same (D:List Nat) (T T':Tm):Prop where
 len:T'.length=T.length
 at_:∀ s,s ∉ D->ad T' s=ad T s
def Same.refl (D:List Nat) (T:Tm):Same D T T:=⟨rfl,fun _ _=>rfl⟩
def Same.trans {D a:List Nat} {T T' b:Tm} (h:Same D T T') (h':Same a T' b):Same (D++a) T b :=
 ⟨h'.len.trans h.len,fun s hs=>(h'.at_ s fun h1=>hs (Wp _ h1)).trans (h.at_ s fun h1=>hs (Wg _ h1))⟩
def Same.wide {D a:List Nat} {T T':Tm} (h:Same D T T') (hd:∀ s,s∈D->s∈a):Same a T T':=⟨h.len,fun s hs=>h.at_ s fun h1=>hs (hd s h1)⟩
def mB (T:Tm) (i j:Nat) (v:AV) (h:i≠j):ad (T.set i v) j=ad T j:=by
 unfold ad;rw [U5,U5,Xq];rw [if_neg h]
def LO (T:Tm) (i j:Nat) (v:AV):ad (T.set i v) j=if i=j then (if i<T.length then v else .undef) else ad T j:=by
 by_cases h:i<T.length
 ·rw [vT T i j v h]; simp [h]
 ·unfold ad;rw [List.set_eq_of_length_le zO];by_cases a:i=j
  ·subst a; rw [U5,VM zO]; simp [h]
  ·simp [a]
theorem OX:((0:Nat):Int)=0:=rfl
def Same.put (T:Tm) (d:Option Nat) (v:AV):Same d.toList T (putT T d v):=by
 cases d with
 | none=>exact Same.refl _ _
 | some d=>exact ⟨by simp [putT],fun s hs=>mB T d s v fun e=>hs (by simp [e])⟩
def CG {cal:oL}:∀ (os:List E0) (id:Nat) (T:Tm) (H:Heap) (T':Tm) (H':Heap),y5 cal id os T H=some (T',H')->Same (J3 os) T T'
 | [],id,T,H,T',H',h=>by cases h; exact Same.refl _ _
 | o :: os,id,T,H,T',H',h=>by
  have key:∀ v a,y5 cal (id+1) os (putT T o.dst v) a=some (T',H')->Same (J3 (o :: os)) T T':=fun v a h1=>by
   refine ((Same.put T o.dst v).trans (CG os _ _ _ _ _ h1)).wide fun s hs=>?_;unfold J3 at hs ⊢;cases hd:o.dst with
   | none=>rw [Zy hd]; simpa [hd] using hs
   | some d=>rw [Zz hd]; simpa [hd] using hs
  unfold y5 at h;split at h
  ·split at h
   ·exact key _ _ h
   ·cases h
  ·exact key _ _ h
  ·cases h
def yd:∀ (ds:List kj) (vs:List AV) (T:Tm),Same (ds.filterMap (·.dst)) T (gU T ds vs)
 | [],vs,T=>by cases vs <;> exact Same.refl _ _
 | d :: ds,[],T=>⟨rfl,fun _ _=>rfl⟩
 | d :: ds,v :: vs,T=>by
  refine ((Same.put T d.dst v).trans (yd ds vs _)).wide fun s hs=>?_;cases hd:d.dst with
  | none=>rw [Zy hd]; simpa [hd] using hs
  | some a=>rw [Zz hd]; simpa [hd] using hs
def CP {D:List Nat} {body:Tm->Heap->Option (Ex × Tm × Heap)} (hb:∀ T H x T' H',body T H=some (x,T',H')->Same D T T') :
  ∀ (n:Nat) (T:Tm) (H:Heap) (x:Ex) (T':Tm) (H':Heap),A2 body n T H=some (x,T',H')->Same D T T'
 | 0,_,_,_,_,_,h=>by cases h
 | n+1,T,H,x,T',H',h=>by
  unfold A2 at h;split at h
  ·rename_i T1 a h1;exact ((hb _ _ _ _ _ h1).trans (CP hb n _ _ _ _ _ h)).wide fun s hs=>by simpa using hs
  ·exact hb _ _ _ _ _ h
def eh {cal:oL} {m:Nat} {rd:Bool}:∀ (c:ACode) (T:Tm) (H:Heap) (x:Ex) (T':Tm) (H':Heap),jk c=true->aN cal m rd c T H=some (x,T',H')->Same (gt c) T T'
 | .skip,T,H,x,T',H',_,h=>by cases h; exact Same.refl _ _
 | .exit _,T,H,x,T',H',_,h=>by cases h; exact Same.refl _ _
 | .goto _,T,H,x,T',H',_,h=>by cases h; exact Same.refl _ _
 | .ret,T,H,x,T',H',_,h=>by cases h; exact Same.refl _ _
 | .region os,T,H,x,T',H',_,h=>by
  simp only [aN] at h;split at h
  ·rename_i h1; cases h; exact CG _ _ _ _ _ _ h1
  ·cases h
 | .draw ds late,T,H,x,T',H',_,h=>by
  simp only [aN] at h;split at h
  ·rename_i h1;cases h;unfold Gx at h1;split at h1
   ·cases h1
   ·split at h1
    ·cases h1; exact yd _ _ _
    ·cases h1
  ·cases h
 | .drawF ..,T,H,x,T',H',_,h=>by cases h
 | .seq a b,T,H,x,T',H',hp,h=>by
  simp only [jk,VH] at hp;simp only [aN] at h;split at h
  ·rename_i T1 d h1;exact (eh a _ _ _ _ _ hp.1 h1).trans (eh b _ _ _ _ _ hp.2 h)
  ·exact (eh a _ _ _ _ _ hp.1 h).wide fun s hs=>Wg _ hs
 | .cond c a b,T,H,x,T',H',hp,h=>by
  simp only [jk,VH] at hp;simp only [aN] at h;split at h
  ·exact (eh a _ _ _ _ _ hp.1 h).wide fun s hs=>Wg _ hs
  ·exact (eh b _ _ _ _ _ hp.2 h).wide fun s hs=>Wp _ hs
  ·cases h
 | .block id a,T,H,x,T',H',hp,h=>by
  simp only [aN] at h;split at h
  ·rename_i h1;split at h
   ·cases h; exact eh a _ _ _ _ _ hp h1
   ·cases h; exact eh a _ _ _ _ _ hp h1
  ·exact eh a _ _ _ _ _ hp h
 | .loop a,T,H,x,T',H',hp,h=>by
  simp only [aN] at h;exact CP (fun T H x T' H' h1=>eh a _ _ _ _ _ hp h1) _ _ _ _ _ _ h
 | .scope a,T,H,x,T',H',hp,h=>by
  simp only [aN] at h;split at h
  ·cases h
  ·exact eh a _ _ _ _ _ hp h
 | .rangeFunc f ps e body,T,H,x,T',H',_,h=>by
  have:T'=T:=by
   simp only [aN] at h;split at h
   ·cases h
   ·split at h
    ·split at h
     ·split at h
      ·cases h; rfl
      ·split at h <;> first | (cases h; rfl) | cases h
      ·cases h
     ·cases h
    ·cases h
  subst this; exact Same.refl _ _
 | .rangeM ..,T,H,x,T',H',hp,h=>by cases hp
 | .scopeL ..,T,H,x,T',H',hp,h=>by cases hp
def WB (tab:Nat->Option az) (rd:Bool) (c:ACode) (T:Tm) (H:Heap) (Q:Ex->Tm->Heap->Prop):Prop:=∃ x T' H',Pr tab rd c T H x T' H'/\Q x T' H'
section
variable {tab:Nat->Option az} {rd:Bool}
def WC.wb {c:ACode} {T:Tm} {H:Heap} {Q:Ex->Tm->Heap->Prop} (h:WC tab rd c T H Q):WB tab rd c T H Q:=eY c T H Q h.run
def WB.same {c:ACode} {T:Tm} {H:Heap} {Q:Ex->Tm->Heap->Prop} (h:WB tab rd c T H Q) (hp:jk c=true):WB tab rd c T H fun x T' H'=>Same (gt c) T T'/\Q x T' H':=by
 obtain ⟨x,T',H',⟨N,g⟩,a⟩:=h;exact ⟨x,T',H',⟨N,g⟩,eh c _ _ _ _ _ hp (g N N (Vc _) (Vc _)),a⟩
def WB.mono {c:ACode} {T:Tm} {H:Heap} {Q a:Ex->Tm->Heap->Prop} (h:WB tab rd c T H Q) (b:∀ x T' H',Q x T' H'->a x T' H'):WB tab rd c T H a:=by
 obtain ⟨x,T',H',hb,h⟩:=h;exact ⟨x,T',H',hb,b _ _ _ h⟩
def zI {a b:ACode} {T:Tm} {H:Heap} {Q:Ex->Tm->Heap->Prop} (h:WB tab rd a T H fun x T' H'=>match x with | .nrm=>WB tab rd b T' H' Q | x=>Q x T' H'):WB tab rd (.seq a b) T H Q:=by
 obtain ⟨x,T1,e,⟨c,d⟩,h1⟩:=h;by_cases hx:x=.nrm
 ·subst hx;obtain ⟨y,T2,H2,⟨f,g⟩,h2⟩:=h1;refine ⟨y,T2,H2,⟨c+f,fun m n hm hn=>?_⟩,h2⟩;simp only [aN,d m n zO zO];exact g m n zO zO
 ·refine ⟨x,T1,e,⟨c,fun m n hm hn=>?_⟩,?_⟩
  ·simp only [aN,d m n hm hn]
   all_goals (cases x <;> first | rfl | exact absurd rfl hx)
  ·cases x <;> first | exact h1 | exact absurd rfl hx
def P0 {c:Src} {a b:ACode} {T:Tm} {H:Heap} {Q:Ex->Tm->Heap->Prop} {v:Bool} (hc:c.ev T=.bool v) (h:if v=true then WB tab rd a T H Q else WB tab rd b T H Q):WB tab rd (.cond c a b) T H Q:=by
 cases v with
 | true =>
  obtain ⟨x,T1,d,⟨e,f⟩,h1⟩:=h;exact ⟨x,T1,d,⟨e,fun m n hm hn=>by simp only [aN,hc]; exact f m n hm hn⟩,h1⟩
 | false =>
  obtain ⟨x,T1,d,⟨e,f⟩,h1⟩:=h;exact ⟨x,T1,d,⟨e,fun m n hm hn=>by simp only [aN,hc]; exact f m n hm hn⟩,h1⟩
def Nc {id:Nat} {a:ACode} {T:Tm} {H:Heap} {Q:Ex->Tm->Heap->Prop} (h:WB tab rd a T H (uN id Q)):WB tab rd (.block id a) T H Q:=by
 obtain ⟨x,T1,b,⟨c,d⟩,h1⟩:=h;cases x with
 | exit e =>
  simp only [uN] at h1;by_cases hi:e=id
  ·rw [if_pos hi] at h1;exact ⟨.nrm,T1,b,⟨c,fun m n hm hn=>by simp only [aN,d m n hm hn,if_pos hi]⟩,h1⟩
  ·rw [if_neg hi] at h1;exact ⟨.exit e,T1,b,⟨c,fun m n hm hn=>by simp only [aN,d m n hm hn,if_neg hi]⟩,h1⟩
 | nrm=>exact ⟨_,T1,b,⟨c,fun m n hm hn=>by simp only [aN,d m n hm hn]⟩,h1⟩
 | goto l=>exact ⟨_,T1,b,⟨c,fun m n hm hn=>by simp only [aN,d m n hm hn]⟩,h1⟩
 | ret=>exact ⟨_,T1,b,⟨c,fun m n hm hn=>by simp only [aN,d m n hm hn]⟩,h1⟩
def PY {T:Tm} {H:Heap} {Q:Ex->Tm->Heap->Prop} (h:Q .nrm T H):WB tab rd .skip T H Q:=⟨.nrm,T,H,⟨0,fun _ _ _ _=>rfl⟩,h⟩
def PZ {i:Nat} {T:Tm} {H:Heap} {Q:Ex->Tm->Heap->Prop} (h:Q (.exit i) T H):WB tab rd (.exit i) T H Q:=⟨.exit i,T,H,⟨0,fun _ _ _ _=>rfl⟩,h⟩
def DA {body:ACode} {Q:Ex->Tm->Heap->Prop} (Inv:Nat->Tm->Heap->Prop)
  (hr:∀ k T H,Inv k T H->WB tab rd body T H (Is Inv k Q)):∀ (k:Nat) (T:Tm) (H:Heap),Inv k T H->WB tab rd (.loop body) T H Q:=by
 have key:∀ (k:Nat) (T:Tm) (H:Heap),Inv k T H->∃ x T' H',Q x T' H'/\∃ N,∀ m n j,N<=m->N<=n->N<=j->A2 (aN (mg tab fo m n) m rd body) j T H=some (x,T',H'):=by
  intro k
  induction k using Nat.strongRecOn with
  | _ k o =>
   intro T H a;obtain ⟨x,T1,c,⟨d,e⟩,h1⟩:=hr k T H a;by_cases hx:x=.nrm
   ·subst hx;obtain ⟨p,l,i⟩:=h1;obtain ⟨y,T2,H2,b,f,h⟩:=o p l T1 c i;refine ⟨y,T2,H2,b,d+f+1,fun m n j hm hn hj=>?_⟩;obtain ⟨j',rfl⟩:∃ j',j=j'+1:=⟨j-1,zO⟩
    unfold A2;rw [e m n zO zO];exact h m n j' zO zO zO
   ·refine ⟨x,T1,c,by cases x <;> first | exact h1 | exact absurd rfl hx,d+1,fun m n j hm hn hj=>?_⟩;obtain ⟨j',rfl⟩:∃ j',j=j'+1:=⟨j-1,zO⟩
    unfold A2;rw [e m n zO zO];cases x <;> first | rfl | exact absurd rfl hx
 intro k T H a;obtain ⟨x,T',H',b,N,g⟩:=key k T H a;exact ⟨x,T',H',⟨N,fun m n hm hn=>g m n m hm hn hm⟩,b⟩
def WB.wcLoop {id:Nat} {body:ACode} {T:Tm} {H:Heap} {Q:Ex->Tm->Heap->Prop} (h:WB tab rd (.loop body) T H (uN id Q)):WC tab rd (.block id (.loop body)) T H Q:=by
 rw [E7];exact ⟨h⟩
def LZ (id id1:Nat) (P:Tm->Heap->Prop) (Q:Ex->Tm->Heap->Prop) (x:Ex) (T:Tm) (H:Heap):Prop:=match x with
 | .nrm=>P T H
 | .exit e=>if e=id1 then P T H else if e=id then Q .nrm T H else Q (.exit e) T H
 | x=>Q x T H
section
variable {id id1:Nat} {P:Tm->Heap->Prop} {Q:Ex->Tm->Heap->Prop} {T:Tm} {H:Heap}
theorem Oz:LZ id id1 P Q .nrm T H=P T H:=rfl
theorem Oy:LZ id id1 P Q .ret T H=Q .ret T H:=rfl
theorem LX (l:Nat):LZ id id1 P Q (.goto l) T H=Q (.goto l) T H:=rfl
theorem LY (e:Nat):LZ id id1 P Q (.exit e) T H=iteH (e=id1) (P T H) (iteH (e=id) (Q .nrm T H) (Q (.exit e) T H) () ()) () ():=rfl
end
def Rq (L i n c k:Nat) (D a:List Nat):Bool :=
 decide (i<L) && decide (n<L) && decide (c<L) && decide (k<L) && i != n && i != c && i != k && n != c && n != k && c != k && !D.contains i && !D.contains n && a.all fun s=>s != i && s != c && s != k
def aq {id id1 i n c k:Nat} {body:ACode} {T:Tm} {H:Heap} {Q:Ex->Tm->Heap->Prop} {L a N:Nat} (H0:Heap) (d:List Nat) (P:Nat->List AV->Heap->Prop)
  (hl:T.length=L) (ha:ad T i=.int .i64 (a:Int)) (hn:ad T n=.int .i64 (N:Int)) (R:a<=N) (hN:N<9223372036854775807) (y:Rq L i n c k (gt body) d=true) (hp:jk body=true)
  (F:∀ j vs H m,P j vs H->P j vs (H.up m))
  (V:Kp H0 H) (h0:P a (d.map (ad T)) H)
  (hb:∀ j T1 b,a<=j->j<N->T1.length=L->ad T1 i=.int .i64 (j:Int)->Same (i :: c :: k :: gt body) T T1->Kp H0 b->P j (d.map (ad T1)) b ->
   WC tab rd body T1 b (LZ id id1 (fun T2 H2=>Kp H0 H2/\P (j+1) (d.map (ad T2)) H2) Q))
  (he:∀ T1 b,T1.length=L->Same (i :: c :: k :: gt body) T T1->Kp H0 b->P N (d.map (ad T1)) b->Q .nrm T1 b) :
  WC tab rd (QP id id1 i n c k body) T H Q:=by
 have ai:=y;simp only [Rq,VH,decide_eq_true_eq,bne_iff_ne,ne_eq,Wk,VA] at y;obtain ⟨⟨⟨⟨⟨⟨⟨⟨⟨⟨⟨⟨o1,o2⟩,o3⟩,o4⟩,o5⟩,o6⟩,o7⟩,o8⟩,o9⟩,aj⟩,G⟩,I⟩,af⟩:=y;have J:i ∉ gt body:=fun h=>by rw [W4.2 h] at G; cases G
 have K:n ∉ gt body:=fun h=>by rw [W4.2 h] at I; cases I
 have ab:n ∉ i :: c :: k :: gt body:=by
  simp only [VF,not_or]; exact ⟨fun h=>o5 h.symm,o8,o9,K⟩
 have D:∀ {T1 T2:Tm},(∀ s,s≠i->s≠c->s≠k->ad T2 s=ad T1 s)->d.map (ad T2)=d.map (ad T1):=fun h=>by
  refine W2 fun s hs=>?_;obtain ⟨⟨q1,q2⟩,q3⟩:=af s hs;exact h s q1 q2 q3
 unfold QP;refine WB.wcLoop ?_;refine DA (fun r T1 b=>∃ j,r=N-j/\a<=j/\j<=N/\T1.length=L/\ad T1 i=.int .i64 (j:Int)/\Same (i :: c :: k :: gt body) T T1/\Kp H0 b/\P j (d.map (ad T1)) b) ?_ (N-a) T H ⟨a,rfl,Vc _,R,hl,ha,Same.refl _ _,V,h0⟩;rintro r T1 b ⟨j,rfl,S,ah,Y,B,E,W,M⟩;have aa:ad T1 n=.int .i64 (N:Int):=(E.at_ n ab).trans hn;refine zI (WC.wb ?_);rw [Hq];simp only [DY,zy,Dq,Hr,SQ,B,aa,Kh,xe,jr];have C:Kp H0 (b.up 1):=W.up 1;have u:P j (d.map (ad (T1.set c (.bool (decide ((j:Int)<(N:Int))))))) (b.up 1):=by
  rw [D (T1:=T1) fun s q1 q2 q3=>mB _ _ _ _ (Ne.symm q2)];exact F _ _ _ _ M
 have p:Same (i :: c :: k :: gt body) T (T1.set c (.bool (decide ((j:Int)<(N:Int))))) :=
  (E.trans (Same.put T1 (some c) (.bool (decide ((j:Int)<(N:Int)))))).wide fun s hs=>by
   rcases Vq.1 hs with hs | hs
   ·exact hs
   ·simp only [Zf,Vp] at hs; subst hs; simp
 have o:(T1.set c (.bool (decide ((j:Int)<(N:Int))))).length=L:=by simp [Y]
 have w:ad (T1.set c (.bool (decide ((j:Int)<(N:Int))))) i=.int .i64 (j:Int):=by rw [mB _ _ _ _ (Ne.symm o6)]; exact B
 have A:ad (T1.set c (.bool (decide ((j:Int)<(N:Int))))) c=.bool (decide ((j:Int)<(N:Int))):=by
  rw [vT _ _ _ _ zO,if_pos rfl]
 generalize ag:T1.set c (.bool (decide ((j:Int)<(N:Int))))=T2 at u p o w A ⊢
 refine zI (P0 (v:=decide ((j:Int)<(N:Int))) A ?_);by_cases hj:j<N
 ·have t:decide ((j:Int)<(N:Int))=true:=by simp; omega
  rw [if_pos t];refine PY ?_;refine zI (Nc ?_);refine (((hb j T2 (b.up 1) S hj o w p C u).wb).same hp).mono ?_;rintro x g q ⟨z,f⟩;have fin:Kp H0 q/\P (j+1) (d.map (ad g)) q->WB tab rd (.region [⟨some k,.bin .add .int (.t i) (.c (.int .i64 1)),none⟩,⟨some i,.mv (.t k),none⟩]) g q (Is (fun r T1 b=>∃ j,r=N-j/\a<=j/\j<=N/\T1.length=L/\ad T1 i=.int .i64 (j:Int)/\Same (i :: c :: k :: gt body) T T1/\Kp H0 b/\P j (d.map (ad T1)) b) (N-j) (uN id Q)):=by
   rintro ⟨X,O⟩;have U:ad g i=.int .i64 (j:Int):=(z.at_ i J).trans w;have Z:g.length=L:=z.len.trans o;have ae:IntKind.i64.wrap ((j:Int)+1)=((j+1:Nat):Int):=by rw [wrap_i64 zO zO]; simp
   refine WC.wb ?_;rw [Hq];simp only [DY,zy,Dq,Hr,Rf,Jn,SQ,TT,U,ET,xe,jr,ae];rw [vT _ _ _ _ zO,if_pos rfl,F5];refine ⟨N-(j+1),zO,j+1,rfl,zO,zO,by simp [Z],?_,?_,X.up _,?_⟩
   ·rw [vT _ _ _ _ zS,if_pos rfl]
   ·refine ((p.trans z).trans ((Same.put g (some k) _).trans (Same.put _ (some i) _))).wide fun s hs=>?_;rcases Vq.1 hs with hs | hs
    ·rcases Vq.1 hs with hs | hs
     ·exact hs
     ·exact Vi _ (Vi _ (Vi _ hs))
    ·rcases Vq.1 hs with hs | hs
     ·simp only [Zf,Vp] at hs; subst hs; simp
     ·simp only [Zf,Vp] at hs; subst hs; simp
   ·rw [D (T1:=g) fun s q1 q2 q3=>by rw [mB _ _ _ _ (Ne.symm q1),mB _ _ _ _ (Ne.symm q3)]];exact F _ _ _ _ O
  cases x with
  | nrm=>exact fin f
  | exit e =>
   simp only [LZ] at f;simp only [uN];by_cases h1:e=id1
   ·rw [if_pos h1] at f ⊢; exact fin f
   ·rw [if_neg h1] at f ⊢;simp only [Is,uN]; exact f
  | goto l=>exact f
  | ret=>exact f
 ·have t:decide ((j:Int)<(N:Int))=false:=by simp; omega
  have:j=N:=zO
  subst this;rw [if_neg (by rw [t]; simp)];refine PZ ?_;show uN id Q (.exit id) T2 (b.up 1);simp only [uN,if_pos];exact he T2 (b.up 1) o p C u
def RV (id:Nat) (P:Tm->Heap->Prop) (Q:Ex->Tm->Heap->Prop) (x:Ex) (T:Tm) (H:Heap):Prop:=match x with
 | .nrm=>P T H
 | .exit e=>if e=id then Q .nrm T H else Q (.exit e) T H
 | x=>Q x T H
section
variable {id:Nat} {P:Tm->Heap->Prop} {Q:Ex->Tm->Heap->Prop} {T:Tm} {H:Heap}
theorem PU:RV id P Q .nrm T H=P T H:=rfl
theorem PT:RV id P Q .ret T H=Q .ret T H:=rfl
theorem M8 (l:Nat):RV id P Q (.goto l) T H=Q (.goto l) T H:=rfl
theorem M9 (e:Nat):RV id P Q (.exit e) T H=iteH (e=id) (Q .nrm T H) (Q (.exit e) T H) () ():=rfl
end
def aP {id:Nat} {c:ACode} {T:Tm} {H:Heap} {Q:Ex->Tm->Heap->Prop} {L:Nat} (H0:Heap) (f:List Nat) (P:Nat->List AV->Heap->Prop) (j:Nat)
  (hl:T.length=L) (hp:jk c=true) (p:Kp H0 H) (h0:P j (f.map (ad T)) H)
  (hb:∀ k T1 a,T1.length=L->Same (gt c) T T1->Kp H0 a->P k (f.map (ad T1)) a->WC tab rd c T1 a (RV id (fun T2 H2=>Kp H0 H2/\∃ d,d<k/\P d (f.map (ad T2)) H2) Q)):WC tab rd (O5 id c) T H Q:=by
 unfold O5;refine WB.wcLoop ?_;refine DA (fun k T1 a=>T1.length=L/\Same (gt c) T T1/\Kp H0 a/\P k (f.map (ad T1)) a) ?_ j T H ⟨hl,Same.refl _ _,p,h0⟩;rintro k T1 a ⟨g,h,q,m⟩;refine ((hb k T1 a g h q m).wb.same hp).mono ?_;rintro x T2 H2 ⟨i,b⟩;cases x with
 | nrm =>
  obtain ⟨r,d,o,n⟩:=b;exact ⟨d,o,i.len.trans g,(h.trans i).wide fun s hs=>by simpa using hs,r,n⟩
 | exit e=>exact b
 | goto l=>exact b
 | ret=>exact b
end
def Up (e:Option Ent) (k:Option Nat) (o:Nat):Option AV:=match e with
 | some (.cells cs _ _)=>bM cs o k
 | _=>none
def SH (H:Heap) (k:Option Nat) (b o:Nat):bc H k (.ptr b o)=Up (H.get b) k o:=by
 simp only [bc,Up];cases H.get b with
 | none=>rfl
 | some e=>cases e <;> rfl
theorem LJ (cs:List AV) (ty:Nat) (rw:Bool) (k:Option Nat) (o:Nat):Up (some (.cells cs ty rw)) k o=bM cs o k:=rfl
def Fs (e:Option Ent) (n o:Nat) (v:AV):Option Ent:=match e with
 | some (.cells cs ty true)=>if v.cells.length=n/\o+n<=cs.length/\v.cells.all AV.one=true then some (.cells (cs.take o++v.cells++cs.drop (o+n)) ty true) else none
 | _=>none
def Sf (H:Heap) (n b o:Nat) (v:AV):qL H n (.ptr b o) v=(Fs (H.get b) n o v).map fun e=>H.put b e:=by
 simp only [qL,Fs];split
 ·rename_i cs ty h;simp only [h];split <;> rfl
 ·rename_i h;split
  ·rename_i cs ty hg;exact absurd hg (h cs ty)
  ·rfl
def fits (v:AV) (n:Nat) (cs:List AV):Prop:=v.cells=cs/\cs.length=n/\cs.all AV.one=true
def jF {cs vs:List AV} {ty n o:Nat} {v:AV} (h:fits v n vs) (a:o+n<=cs.length):Fs (some (.cells cs ty true)) n o v=some (.cells (cs.take o++vs++cs.drop (o+n)) ty true):=by
 obtain ⟨rfl,h2,h3⟩:=h;simp only [Fs];rw [if_pos ⟨h2,a,h3⟩]
theorem LA {α β:Type} (f:α->β) (a:α):(some a).map f=some (f a):=rfl
theorem UP (a:AV) (l:List AV):bM (a :: l) 0 none=some a:=rfl
theorem UO (a b:AV) (l:List AV):bM (a :: b :: l) 1 none=some b:=rfl
theorem UN (a b c:AV) (l:List AV):bM (a :: b :: c :: l) 2 none=some c:=rfl
theorem Uh (a b:AV):bM [a,b] 0 (some 2)=some (.agg [a,b]):=rfl
theorem Ug (a b c:AV):bM [a,b,c] 0 (some 3)=some (.agg [a,b,c]):=rfl
def One (v:AV):Prop:=v.cells=[v]/\v.one=true
def One.fits {v:AV} (h:One v):fits v 1 [v]:=⟨h.1,rfl,by simp [h.2]⟩
def aI (b:Bool):One (.bool b):=⟨rfl,rfl⟩
def aZ (k:IntKind) (n:Int):One (.int k n):=⟨rfl,rfl⟩
def cH (f:Fn) (a b:List AV):One (.fn f a b):=⟨rfl,rfl⟩
def bN (b o:Nat):One (.ptr b o):=⟨rfl,rfl⟩
def bD:One .nilSl:=⟨rfl,rfl⟩
def bC (b o n c z:Nat) (x:Bool):One (.own b o n c z x):=⟨rfl,rfl⟩
def cR (cs:List AV) (n:Nat):One (.sl cs n):=⟨rfl,rfl⟩
def bR (b:Nat):One (.map b):=⟨rfl,rfl⟩
def Rd.one {H:Heap} {sz:Nat} {v:AV} {cells:List AV} (h:Rd H sz v cells):One v:=by
 obtain ⟨-,h1,n,hn,-⟩:=h;cases v <;> first | exact ⟨rfl,rfl⟩ | exact absurd rfl (h1 _) | (simp [iC] at hn; done)
def O4 {v:AV} (h:One v):iq v=some [v]:=by
 unfold iq; rw [h.1]; simp [h.2]
def Gn {a b:AV} (ha:One a) (hb:One b):fits (.agg [a,b]) 2 [a,b]:=⟨rfl,rfl,by simp [ha.2,hb.2]⟩
def tZ {a b:AV} (ha:One a) (hb:One b):iq (.agg [a,b])=some [a,b]:=by
 simp [iq,AV.cells,ha.2,hb.2]
def SX {x y a b:AV} (ha:One a) (hb:One b):fm [x,y] [((0,1),a),((1,1),b)]=some (.agg [a,b]):=by
 simp [fm,cZ,ha.1,ha.2,hb.1,hb.2]
def TR {x a:AV} (ha:One a):cZ [x] [((0,1),a)]=some [a]:=by simp [cZ,ha.1,ha.2]
def TQ {x y a b:AV} (ha:One a) (hb:One b):cZ [x,y] [((0,1),a),((1,1),b)]=some [a,b]:=by simp [cZ,ha.1,ha.2,hb.1,hb.2]
def Uj {cs:List AV} {ty o:Nat} {v:AV} (h:One v):Fs (some (.cells cs ty true)) 1 o v=if o<cs.length then some (.cells (cs.set o v) ty true) else none:=by
 simp only [Fs,h.1];by_cases a:o<cs.length
 ·rw [if_pos ⟨rfl,zO,by simp [h.2]⟩,if_pos a];congr 2;rw [XH,if_pos a]
  simp
 ·rw [if_neg (fun h=>a (by have:=h.2.1; omega)),if_neg a]
def Ui {x y a b:AV} {ty:Nat} (ha:One a) (hb:One b):Fs (some (.cells [x,y] ty true)) 2 0 (.agg [a,b])=some (.cells [a,b] ty true):=by
 simp [Fs,AV.cells,ha.2,hb.2]
def TP {x y z a b c:AV} (ha:One a) (hb:One b) (hc:One c):cZ [x,y,z] [((0,1),a),((1,1),b),((2,1),c)]=some [a,b,c]:=by simp [cZ,ha.1,ha.2,hb.1,hb.2,hc.1,hc.2]
def SN {p q r t a b c d:AV} (ha:One a) (hb:One b) (hc:One c) (hd:One d):cZ [p,q,r,t] [((0,2),.agg [a,b]),((2,2),.agg [c,d])]=some [a,b,c,d]:=by
 simp [cZ,AV.cells,ha.2,hb.2,hc.2,hd.2]
def IN {p q a b:AV} (ha:One a) (hb:One b):cZ [p,q] [((0,2),.agg [a,b])]=some [a,b]:=by
 simp [cZ,AV.cells,ha.2,hb.2]
theorem SY (z:List AV):fm z []=some (.agg z):=rfl
def SK {H H':Heap} {b:Nat} {e:Ent} (h1:H.next<=b) (h2:b<H'.next):Kp H (H'.put b e) ↔ Kp H H':=by
 refine ⟨fun h=>⟨h.wf0,fun c e' hc=>?_,h.le,fun c hc=>?_⟩,fun h=>h.put h1 h2⟩
 ·by_cases hb:c=b
  ·rw [hb]; exact h2
  ·exact h.wf c e' (by rw [aB hb]; exact hc)
 ·have:=h.same c hc
  rwa [aB zO] at this
def aV {H:Heap} {b:Nat} {e:Ent} (h:H.get b=none):Sub H (H.put b e):=(Sub.refl H).put h e
def QI {H H':Heap} {b:Nat} (h1:H.next<=b) (h:Kp H H'):Kp H (H'.kill b) ↔ True:=⟨fun _=>trivial,fun _=>h.kill h1⟩
def TI {H H':Heap} {k:Nat} (h:Kp H H'):Kp H (H'.up k) ↔ True:=⟨fun _=>trivial,fun _=>h.up k⟩
def SJ {H:Heap} {k:Nat} (h:Wf H):Kp H (H.up k) ↔ True:=⟨fun _=>trivial,fun _=>(Kp.refl h).up k⟩
def QH {H:Heap} (h:Wf H):Kp H H ↔ True:=⟨fun _=>trivial,fun _=>Kp.refl h⟩
def RW {H:Heap} {b:Nat} {e:Ent} (h2:b<H.next):Wf (H.put b e) ↔ Wf H:=by
 refine ⟨fun h c e' hc=>?_,fun h=>h.put h2 e⟩;by_cases hb:c=b
 ·rw [hb]; exact h2
 ·exact h c e' (by rw [aB hb]; exact hc)
def Tn {H:Heap} {k:Nat} (h:Wf H):Wf (H.up k) ↔ True:=⟨fun _=>trivial,fun _=>h.bump k⟩
def PV {H:Heap} {b:Nat} (h:Wf H):Wf (H.kill b) ↔ True:=⟨fun _=>trivial,fun _=>h.kill b⟩
structure Ldd (H:Heap) (k:Option Nat) (p w:AV):Prop where
 ld:bc H k p=some w
 put:∀ H' b e,H.next<=b->bc (H'.put b e) k p=bc H' k p
 kill:∀ H' b,H.next<=b->bc (H'.kill b) k p=bc H' k p
theorem Ol (H:Heap) (m:Nat) (k:Option Nat) (p:AV):bc (H.up m) k p=bc H k p:=rfl
def b7 {H H':Heap} (h:Sub H H') {k:Option Nat} {p w:AV} (hl:bc H k p=some w):bc H' k p=some w:=by
 unfold bc at hl ⊢;split at hl
 ·split at hl
  ·rename_i hb;rw [h.get _ _ hb]; exact hl
  ·cases hl
 ·exact hl
 ·cases hl
def Ldd.of {H:Heap} (a:Wf H) {k:Option Nat} {p w:AV} (h:bc H k p=some w):Ldd H k p w:=by
 refine ⟨h,fun H' b e hb=>?_,fun H' b hb=>?_⟩
 all_goals
  cases p with
  | ptr c o =>
   have:c<H.next:=by
    simp only [bc] at h;split at h
    ·rename_i hc; exact a c _ hc
    ·cases h
   simp only [bc]
   first | rw [aB zO] | rw [cP zO]
  | _=>rfl
def Ldd.mono {H H':Heap} (h:Kp H H') {k:Option Nat} {p w:AV} (hl:Ldd H k p w):Ldd H' k p w:=Ldd.of h.wf (b7 h.sub hl.ld)
def SubT (tys:List Nat) (H H':Heap):Prop:=∀ b cs t r,t∈tys->H.get b=some (.cells cs t r)->H'.get b=some (.cells cs t r)
def Sub.t {H H':Heap} (h:Sub H H') (tys:List Nat):SubT tys H H':=fun b cs t r _ hb=>h.get b _ hb
def SubT.of {tys a:List Nat} {H H':Heap} (h:SubT tys H H') (hs:∀ t,t∈a->t∈tys):SubT a H H':=fun b cs t r c hb=>h b cs t r (hs t c) hb
def Uz (H:Heap) (ty:Nat) (v:AV):Prop:=∀ b off n c z x,v=.own b off n c z x->∃ cs r,H.get b=some (.cells cs ty r)
structure fF (α:Type) where
 sz:Nat
 tys:List Nat
 R:Heap->List AV->α->Prop
 pos:0<sz
 len:∀ {H cs a},R H cs a->cs.length=sz/\cs.all AV.one=true
 mono:∀ {H H' cs a},SubT tys H H'->R H cs a->R H' cs a
variable {α:Type}
def Cells (E:fF α) (H:Heap) (cells:List AV) (l:List α):Prop:=cells.length=l.length*E.sz/\∀ i a,l[i]? = some a->E.R H ((cells.drop (i*E.sz)).take E.sz) a
def SlV (E:fF α) (ty:Nat) (H:Heap) (v:AV) (l:List α):Prop:=∃ cells,Rd H E.sz v cells/\Uz H ty v/\Cells E H cells l
def Cells.mono {E:fF α} {H H':Heap} (h:SubT E.tys H H') {cells:List AV} {l:List α} (hc:Cells E H cells l):Cells E H' cells l:=⟨hc.1,fun i a hi=>E.mono h (hc.2 i a hi)⟩
def SlV.monoT {E:fF α} {ty:Nat} {H H':Heap} (h:SubT (ty :: E.tys) H H') {v:AV} {l:List α} (hs:SlV E ty H v l):SlV E ty H' v l:=by
 obtain ⟨cells,⟨h0,h1,n,h2,h3⟩,a,hc⟩:=hs;refine ⟨cells,⟨h0,h1,n,h2,?_⟩,fun b off n c z x e=>?_,hc.mono (h.of fun t a=>Vi _ a)⟩
 ·unfold aQ at h3 ⊢;split at h3
  ·rename_i b off n' c sz ex;obtain ⟨cs,r,hb⟩:=a b off _ c sz ex rfl;rw [hb] at h3;rw [h b cs ty r (Vm ..) hb]; exact h3
  ·exact h3
  ·exact h3
  ·exact h3
  ·cases h3
 ·obtain ⟨cs,r,hb⟩:=a b off n c z x e;exact ⟨cs,r,h b cs ty r (Vm ..) hb⟩
def SlV.mono {E:fF α} {ty:Nat} {H H':Heap} (h:Sub H H') {v:AV} {l:List α} (hs:SlV E ty H v l):SlV E ty H' v l:=hs.monoT (h.t _)
def SlV.one {E:fF α} {ty:Nat} {H:Heap} {v:AV} {l:List α} (hs:SlV E ty H v l):One v:=by
 obtain ⟨cells,h1,h2⟩:=hs; exact h1.one
def SlV.nil (E:fF α) (ty:Nat) (H:Heap):SlV E ty H .nilSl []:=⟨[],Rd.nil H E.sz,(fun _ _ _ _ _ _ e=>by cases e),by simp,fun i a h=>by simp at h⟩
def SlV.lenV {E:fF α} {ty:Nat} {H:Heap} {v:AV} {l:List α} (hs:SlV E ty H v l):lenV v=some (.int .i64 (l.length:Int)):=by
 obtain ⟨cells,h1,-,h2⟩:=hs;exact JN h1 h2.1 E.pos
def SlV.idx {E:fF α} {ty:Nat} {H:Heap} {v:AV} {l:List α} (hs:SlV E ty H v l) (k:IntKind) (i:Nat) (hi:i<l.length):cd E.sz v (.int k (i:Int))=some (aA v (i*E.sz)):=by
 obtain ⟨cells,h1,-,h2⟩:=hs
 have:=E.pos
 refine QM h1 ?_ E.pos;rw [h2.1,<- WR];exact Vj _ hi
def L4 {H:Heap} {sz:Nat} {v:AV} {cells:List AV} (h:Rd H sz v cells) (hne:cells≠[]) (off o:Nat):Bb off (aA v o)=some (aA v (o+off)):=by
 obtain ⟨-,h1,n,hn,a⟩:=h;cases v with
 | own b f m c s e=>simp [aA,Bb,Wj]
 | sl cs m=>simp [aA,Bb]
 | nilSl =>
  simp only [aQ] at a;split at a
  ·cases a; exact absurd rfl hne
  ·cases a
 | str s=>exact absurd rfl (h1 _)
 | _=>simp [iC] at hn
def SlV.fa {E:fF α} {ty:Nat} {H:Heap} {v:AV} {l:List α} (hs:SlV E ty H v l) (hne:0<l.length) (off o:Nat):Bb off (aA v o)=some (aA v (o+off)):=by
 obtain ⟨cells,h1,-,h2⟩:=hs;refine L4 h1 (fun h=>?_) off o
 have:=h2.1
 rw [h] at this
 have:=Zs hne E.pos
 simp at *;omega
def SlV.at {E:fF α} {ty:Nat} {H:Heap} {v:AV} {l:List α} (hs:SlV E ty H v l) {i:Nat} {a:α} (hi:l[i]? = some a):∃ cs,E.R H cs a/\cs.length=E.sz/\(∀ j c,cs[j]? = some c->bc H none (aA v (i*E.sz+j))=some c)/\bc H (some E.sz) (aA v (i*E.sz))=some (.agg cs):=by
 obtain ⟨cells,h1,-,h2⟩:=hs;have hlt:i<l.length:=(Vl.1 hi).1;have b:i*E.sz+E.sz<=cells.length:=by rw [h2.1,<- WR]; exact Vj _ hlt
 have:=E.pos
 refine ⟨_,h2.2 i a hi,by simp; omega,fun j c hj=>?_,?_⟩
 ·refine h1.load (by simp) ?_;rw [Vy] at hj;split at hj
  ·rw [Vz] at hj
   simpa [bM] using hj
  ·cases hj
 ·refine h1.load zS ?_;simp only [bM];rw [if_pos b]
structure Pu (α:Type) where
 tys:List Nat
 R:Heap->AV->α->Prop
 one:∀ {H v a},R H v a->One v
 mono:∀ {H H' v a},SubT tys H H'->R H v a->R H' v a
def bz (e:Pu α):fF α where
 sz:=1
 tys:=e.tys
 R H cs a:=∃ v,cs=[v]/\e.R H v a
 pos:=zO
 len:=by rintro H cs a ⟨v,rfl,h⟩; exact ⟨rfl,by simp [(e.one h).2]⟩
 mono:=by rintro H H' cs a hs ⟨v,rfl,h⟩; exact ⟨v,rfl,e.mono hs h⟩
abbrev y8 (e:Pu α) (ty:Nat) (H:Heap) (v:AV) (l:List α):Prop:=SlV (bz e) ty H v l
def SlV.at1 {e:Pu α} {ty:Nat} {H:Heap} {v:AV} {l:List α} (hs:y8 e ty H v l) {i:Nat} {a:α} (hi:l[i]? = some a):∃ c,e.R H c a/\bc H none (aA v i)=some c:=by
 obtain ⟨cs,⟨c,rfl,hr⟩,-,h2,-⟩:=hs.at hi;refine ⟨c,hr,?_⟩
 have:=h2 0 c rfl
 simpa [bz] using this
def SlV.idx1 {e:Pu α} {ty:Nat} {H:Heap} {v:AV} {l:List α} (hs:y8 e ty H v l) (k:IntKind) (i:Nat) (hi:i<l.length):cd 1 v (.int k (i:Int))=some (aA v i):=by
 have:=SlV.idx hs k i hi
 simpa [bz] using this
def Iz (k:IntKind):Pu Int:=⟨[],fun _ v a=>v=.int k a,fun h=>h ▸ aZ _ _,fun _ h=>h⟩
def bp:Pu Nat:=⟨[],fun _ v a=>v=.int .u64 (a:Int),fun h=>h ▸ aZ _ _,fun _ h=>h⟩
def tx (E:fF α) (ty:Nat):Pu (List α):=⟨ty :: E.tys,SlV E ty,fun h=>h.one,fun h hs=>hs.monoT h⟩
def Cells.take {E:fF α} {H:Heap} {cells:List AV} {l:List α} (h:Cells E H cells l) {n:Nat} (hn:n<=l.length):Cells E H (cells.take (n*E.sz)) (l.take n):=by
 have hm:=Vj E.sz hn;refine ⟨by rw [Vx,Vx,h.1,VZ hm,VZ hn],fun i a hi=>?_⟩;rw [Vy] at hi;split at hi
 ·rename_i b
  have:=h.2 i a hi
  have h1:i*E.sz+E.sz<=n*E.sz:=by rw [<- WR]; exact Vj _ b
  rw [List.drop_take,Xi,VZ zO];exact this
 ·cases hi
def Cells.drop {E:fF α} {H:Heap} {cells:List AV} {l:List α} (h:Cells E H cells l) (n:Nat):Cells E H (cells.drop (n*E.sz)) (l.drop n):=by
 refine ⟨by rw [Wq,Wq,h.1,Nat.sub_mul],fun i a hi=>?_⟩;rw [Vz] at hi
 have:=h.2 _ a hi
 rw [List.drop_drop,<- Wa];exact this
def Cells.append {E:fF α} {H:Heap} {b c:List AV} {l1 l2:List α} (h1:Cells E H b l1) (h2:Cells E H c l2):Cells E H (b++c) (l1++l2):=by
 refine ⟨by rw [Vr,Vr,h1.1,h2.1,Wa],fun i a hi=>?_⟩;by_cases hlt:i<l1.length
 ·rw [VK hlt] at hi
  have:=h1.2 i a hi
  have d:i*E.sz+E.sz<=b.length:=by rw [h1.1,<- WR]; exact Vj _ hlt
  rw [List.drop_append_of_le_length zO,XB (by rw [Wq]; omega)];exact this
 ·rw [V5 zO] at hi
  have:=h2.2 _ a hi
  have e:i*E.sz=b.length+(i-l1.length)*E.sz:=by rw [h1.1,<- Wa]; congr 1; omega
  rw [e,List.drop_append,Yc zO,Xt,X0];exact this
def Cells.nil (E:fF α) (H:Heap):Cells E H [] []:=⟨by simp,fun i a h=>by simp at h⟩
def Cells.one {E:fF α} {H:Heap} {cs:List AV} {a:α} (h:E.R H cs a):Cells E H cs [a]:=by
 refine ⟨by simp [(E.len h).1],fun i b hi=>?_⟩;cases i with
 | zero=>simp at hi; subst hi; simp [<- (E.len h).1]; exact h
 | succ i=>simp at hi
def Cells.set {E:fF α} {H:Heap} {cells cs:List AV} {l:List α} (h:Cells E H cells l) {i:Nat} {a:α} (hi:i<l.length) (hr:E.R H cs a):Cells E H (cells.take (i*E.sz)++cs++cells.drop (i*E.sz+E.sz)) (l.set i a):=by
 have e:l.set i a=l.take i++[a]++l.drop (i+1):=by rw [XH,if_pos hi]; simp
 rw [e]
 have:=h.drop (i+1)
 rw [WR] at this;exact ((h.take (Xd hi)).append (Cells.one hr)).append this
def Cells.ones {E:fF α} {H:Heap} {cells:List AV} {l:List α} (h:Cells E H cells l):cells.all AV.one=true:=by
 rw [VA];intro c hc;obtain ⟨j,hj,rfl⟩:=Wm hc;have hp:=E.pos;have hlt:j / E.sz<l.length:=by
  apply ZT
  rw [Vw,<- h.1]; exact hj
 have:=(E.len (h.2 (j / E.sz) _ (U7 hlt))).2
 rw [VA] at this;refine this _ ?_;have hm:j % E.sz<E.sz:=VS _ hp;have e:=Wh j E.sz;refine Vo (i:=j % E.sz) ?_;rw [Vy,if_pos hm,Vz];rw [Vw,e,U7 hj]
def sB {H:Heap} {ty sz:Nat} {v a:AV} {lo hi mx:Option AV} (d:Uz H ty v) (h:bQ sz v lo hi mx=some a):Uz H ty a:=by
 intro b off n c z x e;subst e;cases v with
 | own b' f n' c' i g =>
  have hb:b=b':=by
   simp only [bQ,bS] at h;split at h
   ·cases h
   ·split at h
    ·simp only [U8,U3] at h;obtain ⟨m,-,h',-,l,-,h⟩:=h;split at h
     ·split at h <;> (cases h; rfl)
     ·cases h
    ·simp only [U8,U3] at h;obtain ⟨h',-,l,-,h⟩:=h;split at h
     ·split at h
      ·cases h; rfl
      ·split at h
       ·cases h; rfl
       ·cases h
     ·cases h
    ·cases h
  subst hb;exact d _ _ _ _ _ _ rfl
 | sl cs n' =>
  exfalso
  simp only [bQ,bS] at h;split at h
  ·simp only [U8,U3] at h;obtain ⟨h',-,l,-,h⟩:=h;split at h <;> cases h
  ·simp only [U8,U3] at h;obtain ⟨m,-,h',-,l,-,h⟩:=h;split at h <;> cases h
  ·cases h
 | nilSl =>
  exfalso
  simp only [bQ,bS] at h;split at h
  ·split at h <;> cases h
  ·split at h <;> cases h
  ·cases h
 | str s=>cases h
 | _=>cases h
def SlV.hi {E:fF α} {ty:Nat} {H:Heap} {v:AV} {l:List α} (hs:SlV E ty H v l) (k:IntKind) (n:Nat) (hn:n<=l.length):∃ a,bQ E.sz v none (some (.int k (n:Int))) none=some a/\SlV E ty H a (l.take n):=by
 obtain ⟨cells,h1,b,h2⟩:=hs;obtain ⟨a,e,h⟩:=h1.hi (k:=k) (hi:=n) (by rw [h2.1]; exact Vj _ hn) E.pos;exact ⟨a,e,_,h,sB b e,h2.take hn⟩
def SlV.lo {E:fF α} {ty:Nat} {H:Heap} {v:AV} {l:List α} (hs:SlV E ty H v l) (k:IntKind) (n:Nat) (hn:n<=l.length):∃ a,bQ E.sz v (some (.int k (n:Int))) none none=some a/\SlV E ty H a (l.drop n):=by
 obtain ⟨cells,h1,b,h2⟩:=hs;obtain ⟨a,e,h⟩:=h1.lo (k:=k) (lo:=n) (by rw [h2.1]; exact Vj _ hn) E.pos;exact ⟨a,e,_,h,sB b e,h2.drop n⟩
def SlV.clip {E:fF α} {ty:Nat} {H:Heap} {v:AV} {l:List α} (hs:SlV E ty H v l) (k j:IntKind):∃ a,bQ E.sz v none (some (.int k (l.length:Int))) (some (.int j (l.length:Int)))=some a/\SlV E ty H a l:=by
 obtain ⟨cells,h1,b,h2⟩:=hs;obtain ⟨a,e,h⟩:=h1.clip (k:=k) (j:=j) h2.1 E.pos;exact ⟨a,e,_,h,sB b e,h2⟩
def Own (E:fF α) (ty:Nat) (H0 H:Heap) (b:Nat) (ex:Bool) (v:AV) (l:List α):Prop :=
 ∃ cells,v=.own b 0 l.length l.length E.sz ex/\H.get b=some (.cells cells ty true)/\Cells E H cells l/\H0.next<=b
def Own.sl {E:fF α} {ty:Nat} {H0 H:Heap} {b:Nat} {ex:Bool} {v:AV} {l:List α} (h:Own E ty H0 H b ex v l):SlV E ty H v l:=by
 obtain ⟨cells,rfl,hb,hc,-⟩:=h;exact ⟨cells,Rd.own hb hc.1 (Vc _),fun _ _ _ _ _ _ e=>by cases e; exact ⟨_,_,hb⟩,hc⟩
def Bl (E:fF α) (ty:Nat) (H0 H:Heap) (v:AV) (l:List α):Prop:=(v=.nilSl/\l=[])\/∃ b,Own E ty H0 H b false v l
def Bl.nil {E:fF α} {ty:Nat} {H0 H:Heap}:Bl E ty H0 H .nilSl []:=.inl ⟨rfl,rfl⟩
def Bl.sl {E:fF α} {ty:Nat} {H0 H:Heap} {v:AV} {l:List α} (h:Bl E ty H0 H v l):SlV E ty H v l:=by
 rcases h with ⟨rfl,rfl⟩ | ⟨b,h⟩
 ·exact SlV.nil E ty H
 ·exact h.sl
def Own.monoT {E:fF α} {ty:Nat} {H0 H H':Heap} (hs:SubT (ty :: E.tys) H H') {b:Nat} {ex:Bool} {v:AV} {l:List α} (h:Own E ty H0 H b ex v l):Own E ty H0 H' b ex v l:=by
 obtain ⟨cells,rfl,hb,hc,h0⟩:=h;exact ⟨cells,rfl,hs b _ _ _ (Vm ..) hb,hc.mono (hs.of fun t a=>Vi _ a),h0⟩
def Own.mono {E:fF α} {ty:Nat} {H0 H H':Heap} (hs:Sub H H') {b:Nat} {ex:Bool} {v:AV} {l:List α} (h:Own E ty H0 H b ex v l):Own E ty H0 H' b ex v l:=h.monoT (hs.t _)
def Bl.monoT {E:fF α} {ty:Nat} {H0 H H':Heap} (hs:SubT (ty :: E.tys) H H') {v:AV} {l:List α} (h:Bl E ty H0 H v l):Bl E ty H0 H' v l:=by
 rcases h with h | ⟨b,h⟩
 ·exact .inl h
 ·exact .inr ⟨b,h.monoT hs⟩
def Bl.mono {E:fF α} {ty:Nat} {H0 H H':Heap} (hs:Sub H H') {v:AV} {l:List α} (h:Bl E ty H0 H v l):Bl E ty H0 H' v l:=h.monoT (hs.t _)
def Bl.put {E:fF α} {ty:Nat} {H0 H:Heap} {v:AV} {l:List α} (h:Bl E ty H0 H v l) {b:Nat} {e:Ent} (hne:∀ n,v ≠ .own b 0 n n E.sz false) (hs:SubT E.tys H (H.put b e)):Bl E ty H0 (H.put b e) v l:=by
 rcases h with h | ⟨b',cells,rfl,hb,hc,h0⟩
 ·exact .inl h
 ·exact .inr ⟨b',cells,rfl,by rw [aB (fun a=>hne _ (by rw [a]))]; exact hb,hc.mono hs,h0⟩
def Bl.kill {E:fF α} {ty:Nat} {H0 H:Heap} {v:AV} {l:List α} (h:Bl E ty H0 H v l) {b:Nat} (hne:∀ n,v ≠ .own b 0 n n E.sz false) (hs:SubT E.tys H (H.kill b)):Bl E ty H0 (H.kill b) v l:=by
 rcases h with h | ⟨b',cells,rfl,hb,hc,h0⟩
 ·exact .inl h
 ·exact .inr ⟨b',cells,rfl,by rw [cP (fun a=>hne _ (by rw [a]))]; exact hb,hc.mono hs,h0⟩
def SubT.nil (H H':Heap):SubT [] H H':=fun _ _ _ _ h=>by cases h
def SubT.put {tys:List Nat} {H:Heap} {b:Nat} {e:Ent} (h:∀ cs t r,t∈tys->H.get b≠some (.cells cs t r)):SubT tys H (H.put b e):=fun c cs t r d hc=>by
 rw [aB (fun a=>h cs t r d (by rw [<- a]; exact hc))]; exact hc
def SubT.put_ty {tys:List Nat} {H:Heap} {b ty:Nat} {e:Ent} {cs:List AV} {r:Bool} (hb:H.get b=some (.cells cs ty r)) (c:ty ∉ tys):SubT tys H (H.put b e):=SubT.put fun d t f a h=>by
 rw [hb] at h; cases h; exact c a
def Bl.base {E:fF α} {ty:Nat} {H0 a H:Heap} (hs:H0.next<=a.next) {v:AV} {l:List α} (h:Bl E ty a H v l):Bl E ty H0 H v l:=by
 rcases h with h | ⟨b,cells,h1,h2,h3,c⟩
 ·exact .inl h
 ·exact .inr ⟨b,cells,h1,h2,h3,Vn hs c⟩
def cC (H:Heap) (id size bytes ty:Nat) (x y:AV):Option (AV × Heap):=match iC y with
 | none=>none
 | some m=>match aQ H size m y with
  | none=>none
  | some a=>cQ H id size bytes ty x m a (match y with | .own b _ _ _ _ _=>some b | _=>none)
def RM {tab:Nat->Option az} (ev:Src->AV) (H:Heap) (id:Nat) (Q:AV->Heap->Prop) (size bytes ty:Nat) (z:List AV) (x y:Src) :
  mF tab ev H id (.append size bytes ty z x y) Q=gV (cC H id size bytes ty (ev x) (ev y)) (fun r=>Q r.1 r.2) ():=by rw [Ky]; rfl
def Io (H:Heap) (id ty size bytes:Nat) (z:List AV) (l c:AV):Option (AV × Heap):=match pq l,pq c with
 | some l,some c=>if l<=c/\bytes*c<=2^47/\c<2^63/\z.length=size then some (.own id 0 l c size true,H.put id (.cells ((List.replicate c z).flatten) ty true)) else none
 | _,_=>none
def Ti {tab:Nat->Option az} (ev:Src->AV) (H:Heap) (id:Nat) (Q:AV->Heap->Prop) (ty size bytes:Nat) (z:List AV) (l c:Src) :
  mF tab ev H id (.mksl ty size bytes z l c) Q=gV (Io H id ty size bytes z (ev l) (ev c)) (fun r=>Q r.1 r.2) ():=by rw [PE]; rfl
def jg (H:Heap) (id ty size bytes:Nat) (z:List AV) (k j:IntKind) (n:Nat) (hb:bytes*n<=140737488355328) (hn:n<9223372036854775808) (a:z.length=size) :
  Io H id ty size bytes z (.int k (n:Int)) (.int j (n:Int))=some (.own id 0 n n size true,H.put id (.cells ((List.replicate n z).flatten) ty true)):=by
 simp only [Io,gq];rw [if_pos ⟨Vc _,hb,hn,a⟩]
def sC {E:fF α} {H:Heap} {z:List AV} {a:α} (b:E.R H z a) (n:Nat):Cells E H (List.replicate n z).flatten (List.replicate n a):=by
 induction n with
 | zero=>exact Cells.nil E H
 | succ n c=>rw [Wu,Wu,Yi]; exact (Cells.one b).append c
def Bl.app {E:fF α} {ty ty2 bytes id:Nat} {H0 H:Heap} {v w:AV} {l l2:List α} (h:Bl E ty H0 H v l) (L:ty ∉ E.tys) (i:Kp H0 H) (hy:SlV E ty2 H w l2) (g:H0.next<=id) (u:id<H.next) (G:H.get id=none)
  (hne:∀ b n,v=.own b 0 n n E.sz false->∀ off m c z x,w ≠ .own b off m c z x) (hb:(l.length+l2.length)*bytes<=70368744177664) (hl:l.length+l2.length<4611686018427387904) :
  ∃ o H',cC H id E.sz bytes ty v w=some (o,H')/\Bl E ty H0 H' o (l++l2)/\Kp H0 H'/\H'.next=H.next/\(∀ b e,H.get b=some e->(∀ n,v ≠ .own b 0 n n E.sz false)->H'.get b=some e)/\(0<l2.length->∃ n,o=.own id 0 n n E.sz false):=by
 obtain ⟨d,hr,N,hc⟩:=hy;obtain ⟨m,hm,I⟩:=hr.length;obtain ⟨-,-,m',y,D⟩:=hr;rw [hm] at y; cases y;have J:m=l2.length:=WW E.pos (by rw [<- I,hc.1]);subst J;obtain ⟨fr,s⟩:∃ fr,(match w with | .own b _ _ _ _ _=>some b | _=>none)=fr:=⟨_,rfl⟩
 have B:cC H id E.sz bytes ty v w=cQ H id E.sz bytes ty v l2.length d fr:=by
  unfold cC;rw [hm];simp only;rw [D];simp only;rw [s]
 rw [B];have K:=hc.ones;have j:∀ {b e},H.get b=some e->b≠id:=fun hb a=>by rw [a,G] at hb; cases hb
 rcases h with ⟨rfl,rfl⟩ | ⟨b,cells,rfl,f,hcl,p⟩
 ·by_cases h0:l2.length=0
  ·refine ⟨.nilSl,H,by simp only [cQ]; rw [if_pos h0],.inl ⟨rfl,by simpa using h0⟩,i,rfl,fun b e hb _=>hb,fun h=>by omega⟩
  ·refine ⟨_,_,by simp only [cQ]; rw [if_neg h0,if_pos ⟨by simpa using hb,by simpa using hl⟩],.inr ⟨id,d,by simp,ap _ _ _,?_,g⟩,i.put g u,rfl,fun b e hb _=>?_,fun _=>⟨_,rfl⟩⟩
   ·have:=hc.mono (H':=H.put id (.cells d ty true)) fun c cs t r _ q=>by rw [aB (j q)]; exact q
    simpa using this
   ·rw [aB (j hb)]; exact hb
 ·have M:b≠id:=j f;have F:fr≠some b:=by
   rw [<- s];cases w with
   | own b' off m c z x =>
    simp only [ne_eq,VT];intro a; subst a;exact hne _ _ rfl _ _ _ _ _ rfl
   | _=>simp
  simp only [cQ,f];rw [if_pos ⟨trivial,hb,hl,trivial,by simp; exact XN hcl.1.symm⟩];by_cases h0:l2.length=0
  ·rw [if_pos zO,if_pos h0];refine ⟨_,H,rfl,.inr ⟨b,cells,?_,f,?_,p⟩,i,rfl,fun b e hb _=>hb,fun h=>by omega⟩
   ·simp [h0]
   ·have:l2=[]:=VB h0
    subst this; simpa using hcl
  ·rw [if_neg zO];simp only [Wb,if_false];rw [if_pos ⟨trivial,trivial,F,K⟩];have A:∀ c e,H.get c=some e->c≠b->((H.kill b).put id (.cells (cells.take (l.length*E.sz)++d) ty true)).get c=some e:=fun c e hc C=>by
    rw [aB (j hc),cP C]; exact hc
   refine ⟨_,_,rfl,.inr ⟨id,_,by simp,ap _ _ _,?_,g⟩,(i.kill p).put g u,rfl,fun c e hc he=>A c e hc fun a=>?_,fun _=>⟨_,rfl⟩⟩
   ·have hs:SubT E.tys H ((H.kill b).put id (.cells (cells.take (l.length*E.sz)++d) ty true)):=fun c cs t r k hc=>A c _ hc fun a=>by
     subst a;rw [f] at hc; cases hc;exact L k
    have k:cells.take (l.length*E.sz)=cells:=by rw [<- hcl.1,VC]
    rw [k] at hs ⊢;exact (hcl.mono hs).append (hc.mono hs)
   ·subst a;exact he _ rfl
def Bl.push {E:fF α} {ty ty2 bytes id id2 k:Nat} {H0 H:Heap} {v:AV} {l:List α} {cs:List AV} {a:α} (h:Bl E ty H0 H v l) (C:ty ∉ E.tys) (d:Kp H0 H) (hr:E.R H cs a) (u:H.next<=id) (A:id<H.next+k) (w:H.next<=id2) (y:id2<H.next+k) (hne:id≠id2)
  (hb:(l.length+1)*bytes<=70368744177664) (hl:l.length+1<4611686018427387904) :
  ∃ n H',cC ((H.up k).put id2 (.cells cs ty2 true)) id E.sz bytes ty v (.own id2 0 1 1 E.sz true)=some (.own id 0 n n E.sz false,H')/\Bl E ty H0 H' (.own id 0 n n E.sz false) (l++[a])/\Kp H0 H'/\H'.next=H.next+k/\(∀ b e,H.get b=some e->(∀ n,v ≠ .own b 0 n n E.sz false)->H'.get b=some e):=by
 have F:=d.le;have i:∀ {c},H.next<=c->H.get c=none:=fun hc=>d.wf.fresh hc
 have g:Sub H ((H.up k).put id2 (.cells cs ty2 true)):=(Sub.bump H k).put (i w) _;have B:Kp H0 ((H.up k).put id2 (.cells cs ty2 true)):=(d.up k).put zO y;have hy:SlV E ty2 ((H.up k).put id2 (.cells cs ty2 true)) (.own id2 0 1 1 E.sz true) [a]:=by
  have:Own E ty2 H0 ((H.up k).put id2 (.cells cs ty2 true)) id2 true (.own id2 0 1 1 E.sz true) [a]:=⟨cs,rfl,ap _ _ _,Cells.one (E.mono (g.t _) hr),zO⟩
  exact this.sl
 obtain ⟨G,H',j,o,e3,p,q,r⟩:=(h.mono g).app (id:=id) (bytes:=bytes) C B hy zO A (by rw [aB hne]; exact i u) (fun b n f off m c z x D=>by
  cases D;rcases h with ⟨h,-⟩ | ⟨b',cells,h,s,-⟩
  ·rw [h] at f; cases f
  ·rw [h] at f; cases f
   have:=d.wf _ _ s
   omega) hb hl
 obtain ⟨n,rfl⟩:=r (by simp);exact ⟨n,H',j,o,e3,p,fun b e t he=>q b e (g.get _ _ t) he⟩
def Bl.ne {E:fF α} {ty:Nat} {H0 H:Heap} {v:AV} {l:List α} (h:Bl E ty H0 H v l) {b:Nat} {e:Ent} (hb:H.get b=some e) (he:∀ cs,e ≠ .cells cs ty true) (n:Nat):v ≠ .own b 0 n n E.sz false:=by
 intro a;rcases h with ⟨h,-⟩ | ⟨b',cells,h,c,-⟩
 ·rw [h] at a; cases a
 ·rw [h] at a; cases a;rw [hb] at c; cases c;exact he _ rfl
def SlV.app {E:fF α} {ty ty2 bytes id b off:Nat} {H0 H:Heap} {w:AV} {l l2:List α} (h:SlV E ty H (.own b off l.length l.length E.sz true) l) (k:Kp H0 H) (hy:SlV E ty2 H w l2) (j:H0.next<=id) (v:id<H.next) (u:H.get id=none)
  (hb:(l.length+l2.length)*bytes<=70368744177664) (hl:l.length+l2.length<4611686018427387904) :
  ∃ f H',cC H id E.sz bytes ty (.own b off l.length l.length E.sz true) w=some (f,H')/\SlV E ty H' f (l++l2)/\Kp H0 H'/\H'.next=H.next/\Sub H H'/\(0<l2.length->Own E ty H0 H' id false f (l++l2)):=by
 obtain ⟨cells,B,p,hcl⟩:=h;obtain ⟨cs,F,hg⟩:=p _ _ _ _ _ _ rfl;obtain ⟨-,-,D,o,d⟩:=B;simp only [iC,VT] at o;subst o;simp only [aQ,hg] at d;obtain ⟨a,hr,C,hc⟩:=hy;obtain ⟨m,hm,y⟩:=hr.length;obtain ⟨-,-,m',n,r⟩:=hr;rw [hm] at n; cases n;have z:m=l2.length:=WW E.pos (by rw [<- y,hc.1]);obtain ⟨fr,t⟩:∃ fr,(match w with | .own b _ _ _ _ _=>some b | _=>none)=fr:=⟨_,rfl⟩
 subst z;have A:∀ {b e},H.get b=some e->b≠id:=fun hb q=>by rw [q,u] at hb; cases hb
 split at d
 ·rename_i i;cases d;have g:∀ fr,cQ H id E.sz bytes ty (.own b off l.length l.length E.sz true) l2.length a fr=if l2.length=0 then some (.own b off l.length l.length E.sz true,H) else some (.own id 0 (l.length+l2.length) (l.length+l2.length) E.sz false,H.put id (.cells ((cs.drop off).take (l.length*E.sz)++a) ty true)):=fun fr=>by
   simp only [cQ,hg];rw [if_pos ⟨trivial,hb,hl,trivial,i.2.2⟩];by_cases h0:l2.length=0
   ·rw [if_pos zO,if_pos h0,if_pos h0]
   ·rw [if_neg zO,if_neg h0]
    simp
  have e:∀ x,cC H id E.sz bytes ty x w=cQ H id E.sz bytes ty x l2.length a fr:=fun x=>by
   unfold cC;rw [hm];simp only;rw [r];simp only;rw [t]
  by_cases h0:l2.length=0
  ·refine ⟨_,H,by rw [e,g,if_pos h0],?_,k,rfl,Sub.refl H,fun h=>by omega⟩
   have:l2=[]:=VB h0
   subst this;rw [WH];refine ⟨_,⟨Vc _,(fun s h=>by cases h),l.length,rfl,?_⟩,p,hcl⟩;simp only [aQ,hg];rw [if_pos i]
  ·have hs:Sub H (H.put id (.cells ((cs.drop off).take (l.length*E.sz)++a) ty true)):=⟨Vc _,fun c e hc=>by rw [aB (A hc)]; exact hc⟩
   refine ⟨_,_,by rw [e,g,if_neg h0],?_,k.put j v,rfl,hs,fun _=>⟨_,by rw [Vr],ap _ _ _,(hcl.mono (hs.t _)).append (hc.mono (hs.t _)),j⟩⟩;refine ⟨(cs.drop off).take (l.length*E.sz)++a,Rd.own (ap _ _ _) ?_ (Vc _),fun _ _ _ _ _ _ e=>by cases e; exact ⟨_,_,ap _ _ _⟩,(hcl.mono (hs.t _)).append (hc.mono (hs.t _))⟩;rw [Vr,hcl.1,hc.1,Wa]
 ·cases d
def SlV.nilcase {E:fF α} {ty:Nat} {H:Heap} {v:AV} {l:List α} (h:SlV E ty H v l):(v=.nilSl/\l=[])\/bu .eql .sl v .nilSl=some (.bool false):=by
 obtain ⟨cells,⟨-,h1,n,hn,a⟩,-,hc⟩:=h;cases v with
 | nilSl =>
  simp only [aQ] at a;split at a
  ·cases a;refine .inl ⟨rfl,VB ?_⟩
   have:=hc.1
   have hp:=E.pos;simp only [Xs] at this;rcases Nat.mul_eq_zero.1 this.symm with h | h
   ·exact h
   ·omega
  ·cases a
 | own b off n c z x=>exact .inr rfl
 | sl cs n=>exact .inr rfl
 | str s=>exact absurd rfl (h1 _)
 | _=>simp [iC] at hn
def aM (l:List Nat):List AV:=l.map fun a=>.int .u64 ((a:Nat):Int)
def pd (l:List Nat):(aM l).length=l.length:=by simp [aM]
def LH (l:List Nat) (j a:Nat):(aM l).set j (.int .u64 (a:Int))=aM (l.set j a):=by simp [aM,YB]
def DK {l:List Nat} {j:Nat} (h:j<l.length):bM (aM l) j none=some (.int .u64 ((l.getD j 0:Nat):Int)):=by
 simp [bM,aM,U5,h]
def uF (H:Heap) (l:List Nat):Cells (bz bp) H (aM l) l:=by
 refine ⟨by simp [aM,bz],fun i a hi=>⟨.int .u64 (a:Int),?_,rfl⟩⟩;have hlt:=(Vl.1 hi).1
 apply WO
 intro k;have e:(aM l)[i]? = some (.int .u64 (a:Int)):=by simp [aM,hi]
 simp only [bz,Vy,Vz,WF];cases k with
 | zero=>simpa using e
 | succ k=>simp
def lB (n:Nat):(List.replicate n [AV.int .u64 0]).flatten=aM (List.replicate n 0):=by
 induction n with
 | zero=>rfl
 | succ n a=>rw [Wu,Yi,a]; rfl
def iX {H0 H:Heap} {b ty:Nat} {l:List Nat} {n:Nat} {ex:Bool} (hb:H.get b=some (.cells (aM l) ty true)) (h0:H0.next<=b) (hn:l.length=n):Own (bz bp) ty H0 H b ex (.own b 0 n n 1 ex) l:=⟨_,by rw [hn]; rfl,hb,uF H l,h0⟩
def nK {b off n c sz j:Nat} {x:Bool} {k:IntKind} (h:j<n):cd sz (.own b off n c sz x) (.int k (j:Int))=some (.ptr b (off+j*sz)):=by
 show aS _ (.indexAddr sz (.t 0) (.t 1))=_;simp [aS,gq,h]
theorem JM (b off n c sz:Nat) (x:Bool):lenV (.own b off n c sz x)=some (.int .i64 (n:Int)):=rfl
def SM {α:Type} {a b:Nat} {x y:α} (h:a<b):(if a<b then x else y)=x:=if_pos h
def uW (o:AOp):Bool:=o.looks || o.isPure
section
variable (tab:Nat->Option az)
def Nb (base:Nat) (T:Tm) (i:Nat) (d:kj) (s:DS) (K:DS->Prop):Prop:=match d.cls,d.looks with
 | 0,(k,adds) :: _=>uW d.op=true/\mF tab (Src.ev T) (dQ base s.Es (s.Cs.getD k default) adds) 0 d.op fun v _=>K ⟨s.Vs++[v],s.Cs,s.Es++[none]⟩
 | 1,_=>d.op.makes=true/\mF tab (Src.ev T) (Heap.nil 0) (base+i) d.op fun v H'=>K ⟨s.Vs++[v],s.Cs,s.Es++[H'.get (base+i)]⟩
 | 2,[(k,adds)]=>mF tab (Src.ev T) (dQ base s.Es (s.Cs.getD k default) adds) (base+i) d.op fun v H'=>K ⟨s.Vs++[v],s.Cs++[H'],s.Es++[none]⟩
 | _,_=>False
def Hy (base:Nat) (d:kj) (s:DS) (K:DS->Prop):Prop:=match d.cls,d.looks with
 | 2,[(k,adds)]=>K ⟨s.Vs++[.tup []],s.Cs++[dQ base s.Es (s.Cs.getD k default) adds],s.Es++[none]⟩
 | 2,_=>False
 | _,_=>K ⟨s.Vs++[.tup []],s.Cs,s.Es++[none]⟩
def wd (base:Nat) (T0:Tm):Nat->List kj->DS->(DS->Prop)->Prop
 | _,[],s,Q=>Q s
 | i,d :: ds,s,Q=>match co (cA T0 s.Vs d.uses) d.guard with
  | none=>False
  | some true=>Nb tab base (cA T0 s.Vs d.uses) i d s fun s'=>wd base T0 (i+1) ds s' Q
  | some false=>Hy base d s fun s'=>wd base T0 (i+1) ds s' Q
end
section
variable {tab:Nat->Option az}
def Fb {base i:Nat} {T0:Tm} {d:kj} {s:DS} {K:DS->Prop} (c:co (cA T0 s.Vs d.uses) d.guard=some true) (h:Nb tab base (cA T0 s.Vs d.uses) i d s K) :
  ∃ s',K s'/\∃ N,∀ m n,N<=m->N<=n->kV (mg tab fo m n) base T0 i d s=some s':=by
 obtain ⟨dst,op,guard,uses,cls,looks⟩:=d;simp only at c;unfold Nb at h;simp only at h;split at h
 ·rename_i k adds r;obtain ⟨a,h⟩:=h;have h:=h.run;obtain ⟨v,H',b,N,g⟩:=mH h;refine ⟨_,b,N,fun m n hm hn=>?_⟩;have g:=g m n hm hn;unfold kV;simp only [c];cases hp:aS (Src.ev (cA T0 s.Vs uses)) op with
  | some w =>
   have:AE (mg tab fo m n) (Src.ev (cA T0 s.Vs uses)) (dQ base s.Es (s.Cs.getD k default) adds) 0 op=some (w,dQ base s.Es (s.Cs.getD k default) adds):=by
    cases op <;> first | (simp only [AE,hp]; done) | (simp [aS] at hp; done)
   rw [this] at g;cases g; rfl
  | none =>
   have hh:bi (Src.ev (cA T0 s.Vs uses)) (dQ base s.Es (s.Cs.getD k default) adds) 0 op=some (v,H'):=by
    cases op <;> first | (simp only [AE,hp] at g; exact g) | (simp [uW,AOp.looks,AOp.isPure] at a; done)
   have hl:op.looks=true:=by
    cases op <;> first | rfl | (simp [bi] at hh; done) | (simp [uW,AOp.looks,AOp.isPure] at a; done)
   simp only [hh,hl,if_true]
 ·obtain ⟨a,h⟩:=h;have h:=h.run;obtain ⟨v,H',b,N,g⟩:=mH h;refine ⟨_,b,N,fun m n hm hn=>?_⟩;have g:=g m n hm hn;unfold kV;simp only [c,a,if_true];have hp:aS (Src.ev (cA T0 s.Vs uses)) op=none:=by cases op <;> first | rfl | (simp [AOp.makes] at a; done)
  have hh:bi (Src.ev (cA T0 s.Vs uses)) (Heap.nil 0) (base+i) op=some (v,H'):=by
   cases op <;> first | (simp only [AE,hp] at g; exact g) | (simp [AOp.makes] at a; done)
  simp only [hh]
 ·have h:=h.run;obtain ⟨v,H',b,N,g⟩:=mH h;refine ⟨_,b,N,fun m n hm hn=>?_⟩;have g:=g m n hm hn;unfold kV;simp only [c,g]
 ·exact h.elim
def Dz {cal:oL} {base i:Nat} {T0:Tm} {d:kj} {s:DS} {K:DS->Prop} (a:co (cA T0 s.Vs d.uses) d.guard=some false) (h:Hy base d s K):∃ s',K s'/\∀ cal,kV cal base T0 i d s=some s':=by
 obtain ⟨dst,op,guard,uses,cls,looks⟩:=d;simp only at a;unfold Hy at h;simp only at h;split at h
 ·refine ⟨_,h,fun cal=>?_⟩;unfold kV; simp only [a]
 ·exact h.elim
 ·rename_i h1 h2;refine ⟨_,h,fun cal=>?_⟩;unfold kV;simp only [a]
def zH {base:Nat} {T0:Tm}:∀ (ds:List kj) (i:Nat) (s:DS) (Q:DS->Prop),wd tab base T0 i ds s Q->∃ s',Q s'/\∃ N,∀ m n,N<=m->N<=n->uK (mg tab fo m n) base T0 i ds s=some s'
 | [],i,s,Q,h=>⟨s,h,0,fun _ _ _ _=>rfl⟩
 | d :: ds,i,s,Q,h=>by
  unfold wd at h;split at h
  ·exact h.elim
  ·rename_i f;obtain ⟨s1,h1,g,b⟩:=Fb f h;obtain ⟨s2,e,a,c⟩:=zH ds _ _ _ h1;refine ⟨s2,e,g+a,fun m n hm hn=>?_⟩;unfold uK;rw [b m n zO zO];exact c m n zO zO
  ·rename_i f;obtain ⟨s1,h1,b⟩:=Dz (cal:=Tz) (i:=i) f h;obtain ⟨s2,e,a,c⟩:=zH ds _ _ _ h1;refine ⟨s2,e,a,fun m n hm hn=>?_⟩;unfold uK;rw [b];exact c m n hm hn
structure WD (tab:Nat->Option az) (base:Nat) (T0:Tm) (i:Nat) (ds:List kj) (s:DS) (Q:DS->Prop):Prop where
 run:wd tab base T0 i ds s Q
def Dn:WD=wd:=by funext tab b T0 i ds s Q; exact propext ⟨fun h=>h.run,fun h=>⟨h⟩⟩
def AV.beq_refl':∀ v:AV,AV.beq v v=true:=by
 intro v
 induction v using AV.rec (motive_2:=fun l=>AV.beqs l l=true) with
 | undef=>rfl
 | bool b=>simp [AV.beq]
 | int k n=>simp [AV.beq]
 | str s=>simp [AV.beq]
 | nilPtr=>rfl
 | nilSl=>rfl
 | nilFn=>rfl
 | nilIf=>rfl
 | nilMap=>rfl
 | agg cs d=>simpa [AV.beq] using d
 | tup cs d=>simpa [AV.beq] using d
 | sl cs n d=>simpa [AV.beq] using d
 | dp cs n d=>simpa [AV.beq] using d
 | own b off n c sz ex=>simp [AV.beq]
 | ptr b off=>simp [AV.beq]
 | fn f a b e g=>simp [AV.beq,e,g]
 | ifc t v d=>simp [AV.beq,d]
 | map b=>simp [AV.beq]
 | loopv b=>simp [AV.beq]
 | nil=>rfl
 | cons a l e h=>simp [AV.beqs,e,h]
def mi (tab:Nat->Option az) (base:Nat) (T:Tm) (Cs:List Heap) (Es:List (Option Ent)) (op:AOp) (w:AV):List (Nat × List Nat)->Prop
 | []=>True
 | (k,adds) :: r=>mF tab (Src.ev T) (dQ base Es (Cs.getD k default) adds) 0 op (fun v _=>v=w)/\mi tab base T Cs Es op w r
def It (tab:Nat->Option az) (base:Nat) (T0:Tm) (Vs:List AV) (Cs:List Heap) (Es:List (Option Ent)) (i:Nat) (d:kj):Prop:=match d.cls with
 | 0=>match d.guard with
  | none=>uW d.op=true/\mi tab base (cA T0 Vs d.uses) Cs Es d.op (Vs.getD i .undef) d.looks
  | some p=>nh (ad (cA T0 Vs d.uses) p.1) p.2 (uW d.op=true/\mi tab base (cA T0 Vs d.uses) Cs Es d.op (Vs.getD i .undef) d.looks) True () ()
 | _+1=>True
def kR (tab:Nat->Option az) (base:Nat) (T0:Tm) (Vs:List AV) (Cs:List Heap) (Es:List (Option Ent)):Nat->List kj->Prop
 | _,[]=>True
 | i,d :: ds=>It tab base T0 Vs Cs Es i d/\kR tab base T0 Vs Cs Es (i+1) ds
def Hz (T:Tm) (t:Nat) (w:Bool):co T (some (t,w))=match ad T t with | .bool b=>some (b == w) | .tup []=>some false | _=>none:=by
 unfold ad;rw [U5];cases h:T[t]? with
 | none=>simp only [co,h]; rfl
 | some v =>
  simp only [co,h,WK];cases v with
  | tup vs=>cases vs <;> rfl
  | _=>rfl
def rB {base:Nat} {T:Tm} {Cs:List Heap} {Es:List (Option Ent)} {op:AOp} {w:AV} (a:uW op=true) (hp:aS (Src.ev T) op=none):∀ {looks:List (Nat × List Nat)},mi tab base T Cs Es op w looks->(looks.all fun p=>match bi (Src.ev T) (dQ base Es (Cs.getD p.1 default) p.2) 0 op with | some (v,_)=>AV.beq v w | none=>false)=true
 | [],_=>rfl
 | (k,adds) :: r,h=>by
  obtain ⟨h1,h2⟩:=h;obtain ⟨v,H',rfl,N,g⟩:=mH h1.run;have g:=g N N (Vc _) (Vc _);have hh:bi (Src.ev T) (dQ base Es (Cs.getD k default) adds) 0 op=some (v,H'):=by
   cases op <;> first | (simp only [AE,hp] at g; exact g) | (simp [uW,AOp.looks,AOp.isPure] at a; done)
  rw [List.all_cons,rB a hp h2];simp only [hh,AV.beq_refl',Bool.and_true]
def En {base:Nat} {T0:Tm} {s:DS} {i:Nat} {d:kj} (h:It tab base T0 s.Vs s.Cs s.Es i d):lu base T0 s i d=true:=by
 obtain ⟨dst,op,g,us,c,looks⟩:=d;cases c with
 | succ c=>rfl
 | zero =>
  cases g with
  | none =>
   obtain ⟨a,h1⟩:=h;unfold lu;simp only [show co (cA T0 s.Vs us) none=some true from rfl];cases hp:aS (Src.ev (cA T0 s.Vs us)) op with
   | some v=>rfl
   | none=>exact rB a hp h1
  | some p =>
   obtain ⟨t,w⟩:=p;unfold It nh at h;simp only at h;unfold lu;simp only [Hz];cases hg:ad (cA T0 s.Vs us) t with
   | bool b =>
    rw [hg] at h;simp only at h;by_cases hb:b=w
    ·rw [if_pos hb] at h;subst hb;simp only [beq_self_eq_true];cases hp:aS (Src.ev (cA T0 s.Vs us)) op with
     | some v=>rfl
     | none=>exact rB h.1 hp h.2
    ·have:(b == w)=false:=by simpa using hb
     simp only [this]
   | tup vs=>cases vs <;> rfl
   | _=>rw [hg] at h; exact h.elim
def vK {base:Nat} {T0:Tm} {s:DS}:∀ (ds:List kj) (i:Nat),kR tab base T0 s.Vs s.Cs s.Es i ds->mw base T0 s i ds=true
 | [],i,_=>rfl
 | d :: ds,i,h=>by
  unfold mw;rw [vK ds _ h.2,En h.1]; rfl
def TV (tab:Nat->Option az) (base:Nat) (T0:Tm) (ds:List kj) (late:List Nat) (Q:Tm->Heap->Prop) (s:DS):Prop:=kR tab base T0 s.Vs s.Cs s.Es 0 ds/\Q (gU T0 ds s.Vs) (dQ base s.Es (s.Cs.getLastD default) late)
def aF {rd:Bool} {ds:List kj} {late:List Nat} {T:Tm} {H:Heap} {Q:Ex->Tm->Heap->Prop} (h:WD tab H.next T 0 ds ⟨[],[H.up ds.length],[]⟩ (TV tab H.next T ds late (Q .nrm))):WC tab rd (.draw ds late) T H Q:=by
 obtain ⟨s,⟨hs,a⟩,N,g⟩:=zH _ _ _ _ h.run;have hs:=vK _ _ hs;refine ⟨.nrm,_,_,⟨N,fun m n hm hn=>?_⟩,a⟩;simp only [aN,Gx];rw [show ({ H with next:=H.next+ds.length }:Heap)=H.up ds.length from rfl,g m n hm hn];simp only [hs,if_true]
variable {base i k:Nat} {T0:Tm} {dst:Option Nat} {op:AOp} {us:List (Nat × Option Nat)} {adds:List Nat} {r:List (Nat × List Nat)} {ds:List kj} {Vs:List AV} {Cs:List Heap} {Es:List (Option Ent)} {Q:DS->Prop}
theorem RX:WD tab base T0 i [] ⟨Vs,Cs,Es⟩ Q=Q ⟨Vs,Cs,Es⟩:=by rw [Dn]; rfl
theorem PX:WD tab base T0 i (⟨dst,op,none,us,0,(k,adds) :: r⟩ :: ds) ⟨Vs,Cs,Es⟩ Q=(uW op=true/\mF tab (Src.ev (cA T0 Vs us)) (dQ base Es (Cs.getD k default) adds) 0 op fun v _=>WD tab base T0 (i+1) ds ⟨Vs++[v],Cs,Es++[none]⟩ Q):=by rw [Dn]; rfl
def PW:WD tab base T0 i (⟨dst,op,none,us,1,r⟩ :: ds) ⟨Vs,Cs,Es⟩ Q=(op.makes=true/\mF tab (Src.ev (cA T0 Vs us)) (Heap.nil 0) (base+i) op fun v H'=>WD tab base T0 (i+1) ds ⟨Vs++[v],Cs,Es++[H'.get (base+i)]⟩ Q):=by
 rw [Dn]
 conv=>lhs; unfold wd
 cases r <;> rfl
theorem RY:WD tab base T0 i (⟨dst,op,none,us,2,[(k,adds)]⟩ :: ds) ⟨Vs,Cs,Es⟩ Q=mF tab (Src.ev (cA T0 Vs us)) (dQ base Es (Cs.getD k default) adds) (base+i) op fun v H'=>WD tab base T0 (i+1) ds ⟨Vs++[v],Cs++[H'],Es++[none]⟩ Q:=by rw [Dn]; rfl
def Na {t:Nat} {w:Bool}:WD tab base T0 i (⟨dst,op,some (t,w),us,0,(k,adds) :: r⟩ :: ds) ⟨Vs,Cs,Es⟩ Q =
  nh (ad (cA T0 Vs us) t) w (uW op=true/\mF tab (Src.ev (cA T0 Vs us)) (dQ base Es (Cs.getD k default) adds) 0 op fun v _=>WD tab base T0 (i+1) ds ⟨Vs++[v],Cs,Es++[none]⟩ Q) (WD tab base T0 (i+1) ds ⟨Vs++[.tup []],Cs,Es++[none]⟩ Q) () ():=by
 rw [Dn];have a:co (cA T0 Vs us) (some (t,w))=match ad (cA T0 Vs us) t with | .bool b=>some (b == w) | .tup []=>some false | _=>none:=by
  generalize cA T0 Vs us=T
  unfold ad;rw [U5];cases h:T[t]? with
  | none=>simp only [co,h]; rfl
  | some v =>
   simp only [co,h,WK];cases v with
   | tup vs=>cases vs <;> rfl
   | _=>rfl
 conv=>lhs; unfold wd
 simp only [a,nh];cases ad (cA T0 Vs us) t with
 | bool b=>cases b <;> cases w <;> rfl
 | tup vs=>cases vs <;> rfl
 | _=>rfl
theorem Nl (T0:Tm) (Vs:List AV):cA T0 Vs []=List.replicate T0.length .undef:=rfl
theorem Nk (T0:Tm) (Vs:List AV) (u:Nat × Option Nat):cA T0 Vs [u]=(List.replicate T0.length .undef).set u.1 (nr T0 Vs u):=rfl
theorem Nj (T0:Tm) (Vs:List AV) (u v:Nat × Option Nat):cA T0 Vs [u,v]=((List.replicate T0.length .undef).set u.1 (nr T0 Vs u)).set v.1 (nr T0 Vs v):=rfl
theorem HE (T0:Tm) (Vs:List AV) (u v w:Nat × Option Nat):cA T0 Vs [u,v,w]=(((List.replicate T0.length .undef).set u.1 (nr T0 Vs u)).set v.1 (nr T0 Vs v)).set w.1 (nr T0 Vs w):=rfl
theorem Nh (T0:Tm) (Vs:List AV) (n:Nat):nr T0 Vs (n,none)=ad T0 n:=rfl
theorem Ni (T0:Tm) (Vs:List AV) (n j:Nat):nr T0 Vs (n,some j)=Vs.getD j .undef:=rfl
theorem sY (base:Nat) (Es:List (Option Ent)) (C:Heap):dQ base Es C []=C:=rfl
theorem qj (base:Nat) (Es:List (Option Ent)) (C:Heap) (a:Nat) (l:List Nat):dQ base Es C (a :: l)=dQ base Es (match Es.getD a none with | some e=>C.put (base+a) e | none=>C) l:=rfl
theorem js (T:Tm) (d:kj) (ds:List kj) (v:AV) (vs:List AV):gU T (d :: ds) (v :: vs)=gU (putT T d.dst v) ds vs:=rfl
theorem kN (T:Tm) (vs:List AV):gU T [] vs=T:=by cases vs <;> rfl
theorem QS {base:Nat} {T0:Tm} {ds:List kj} {late:List Nat} {Q:Tm->Heap->Prop}:TV tab base T0 ds late Q ⟨Vs,Cs,Es⟩=(kR tab base T0 Vs Cs Es 0 ds/\Q (gU T0 ds Vs) (dQ base Es (Cs.getLastD default) late)):=rfl
theorem SD {Vs:List AV} {Cs:List Heap} {Es:List (Option Ent)} {i:Nat}:kR tab base T0 Vs Cs Es i []=True:=rfl
def QD {g:Option (Nat × Bool)} {r:List (Nat × List Nat)}:kR tab base T0 Vs Cs Es i (⟨dst,op,g,us,1,r⟩ :: ds)=kR tab base T0 Vs Cs Es (i+1) ds:=by
 show (True/\_)=_
 simp
def QC {g:Option (Nat × Bool)} {r:List (Nat × List Nat)}:kR tab base T0 Vs Cs Es i (⟨dst,op,g,us,2,r⟩ :: ds)=kR tab base T0 Vs Cs Es (i+1) ds:=by
 show (True/\_)=_
 simp
theorem QB {r:List (Nat × List Nat)}:kR tab base T0 Vs Cs Es i (⟨dst,op,none,us,0,r⟩ :: ds)=((uW op=true/\mi tab base (cA T0 Vs us) Cs Es op (Vs.getD i .undef) r)/\kR tab base T0 Vs Cs Es (i+1) ds):=rfl
theorem Oi {t:Nat} {w:Bool} {r:List (Nat × List Nat)}:kR tab base T0 Vs Cs Es i (⟨dst,op,some (t,w),us,0,r⟩ :: ds)=(nh (ad (cA T0 Vs us) t) w (uW op=true/\mi tab base (cA T0 Vs us) Cs Es op (Vs.getD i .undef) r) True () ()/\kR tab base T0 Vs Cs Es (i+1) ds):=rfl
theorem SI {T:Tm} {w:AV}:mi tab base T Cs Es op w []=True:=rfl
theorem QG {T:Tm} {w:AV} {r:List (Nat × List Nat)}:mi tab base T Cs Es op w ((k,adds) :: r)=(mF tab (Src.ev T) (dQ base Es (Cs.getD k default) adds) 0 op (fun v _=>v=w)/\mi tab base T Cs Es op w r):=rfl
theorem RB {x:Src}:uW (.mv x)=true:=rfl
theorem MK {a b c:Src}:uW (.pick a b c)=true:=rfl
theorem Ks {z:List AV} {ps:List ((Nat × Nat) × Src)}:uW (.build z ps)=true:=rfl
theorem Ko {x:Src}:uW (.nilCheck x)=true:=rfl
theorem PA {o:BinOp} {k:BK} {x y:Src}:uW (.bin o k x y)=true:=rfl
theorem RA {o:UnOp} {x:Src}:uW (.un o x)=true:=rfl
theorem MN {k:IntKind} {x:Src}:uW (.conv k x)=true:=rfl
theorem ML {f:Fn} {a b:List Src}:uW (.mkfn f a b)=true:=rfl
theorem Kn {n:Nat} {x:Src} {a b c:Option Src}:uW (.slice n x a b c)=true:=rfl
theorem RC {n:Nat} {x:Src}:uW (.fieldAddr n x)=true:=rfl
theorem Kq {k:Option Nat} {n:Nat} {x:Src}:uW (.field k n x)=true:=rfl
theorem Py {n:Nat} {x y:Src}:uW (.indexAddr n x y)=true:=rfl
theorem Pz {n:Nat} {x:Src}:uW (.extract n x)=true:=rfl
theorem Px {x:Src}:uW (.len x)=true:=rfl
theorem MM {k:Option Nat} {x:Src}:uW (.load k x)=true:=rfl
theorem Pv {xs:List Src}:uW (.min xs)=true:=rfl
theorem Pw {xs:List Src}:uW (.max xs)=true:=rfl
theorem Ly {n:Nat} {z:List AV}:AOp.makes (.alloc n z)=true:=rfl
theorem QA {n:Nat} {x:Src}:AOp.makes (.box n x)=true:=rfl
theorem SB {n m k:Nat} {z:List AV} {ps:List ((Nat × Nat) × Src)}:AOp.makes (.buildSlice n m z k ps)=true:=rfl
theorem Oe {n m k:Nat} {z:List AV} {a b:Src}:AOp.makes (.mksl n m k z a b)=true:=rfl
end
def aw {c d:Prop} (a:c) (b:d):c/\d:=⟨a,b⟩
def aE {d e f:Prop} (a:d) (b:e) (c:f):d/\e/\f:=⟨a,b,c⟩
def aW {e f g h:Prop} (a:e) (b:f) (c:g) (d:h):e/\f/\g/\h:=⟨a,b,c,d⟩
def bO {f g h i j:Prop} (a:f) (b:g) (c:h) (d:i) (e:j):f/\g/\h/\i/\j:=⟨a,b,c,d,e⟩
def dx {g h i j k l:Prop} (a:g) (b:h) (c:i) (d:j) (e:k) (f:l):g/\h/\i/\j/\k/\l:=⟨a,b,c,d,e,f⟩
def fE {h i j k l m G1:Prop} (a:h) (b:i) (c:j) (d:k) (e:l) (f:m) (g:G1):h/\i/\j/\k/\l/\m/\G1:=⟨a,b,c,d,e,f,g⟩
def jC {i j k l m n G1 o:Prop} (a:i) (b:j) (c:k) (d:l) (e:m) (f:n) (g:G1) (h:o):i/\j/\k/\l/\m/\n/\G1/\o:=⟨a,b,c,d,e,f,g,h⟩
def jB {j k l m n o G1 p q:Prop} (a:j) (b:k) (c:l) (d:m) (e:n) (f:o) (g:G1) (h:p) (i:q):j/\k/\l/\m/\n/\o/\G1/\p/\q:=⟨a,b,c,d,e,f,g,h,i⟩
def np {k l m n o p G1 q r s:Prop} (a:k) (b:l) (c:m) (d:n) (e:o) (f:p) (g:G1) (h:q) (i:r) (j:s):k/\l/\m/\n/\o/\p/\G1/\q/\r/\s:=⟨a,b,c,d,e,f,g,h,i,j⟩
def lP {l m n o p q G1 r s t u:Prop} (a:l) (b:m) (c:n) (d:o) (e:p) (f:q) (g:G1) (h:r) (i:s) (j:t) (k:u):l/\m/\n/\o/\p/\q/\G1/\r/\s/\t/\u:=⟨a,b,c,d,e,f,g,h,i,j,k⟩
def zx {m n o p q r G1 s t u v w:Prop} (a:m) (b:n) (c:o) (d:p) (e:q) (f:r) (g:G1) (h:s) (i:t) (j:u) (k:v) (l:w):m/\n/\o/\p/\q/\r/\G1/\s/\t/\u/\v/\w:=⟨a,b,c,d,e,f,g,h,i,j,k,l⟩
def yZ {n o p q r s G1 t u v w x y:Prop} (a:n) (b:o) (c:p) (d:q) (e:r) (f:s) (g:G1) (h:t) (i:u) (j:v) (k:w) (l:x) (m:y):n/\o/\p/\q/\r/\s/\G1/\t/\u/\v/\w/\x/\y:=⟨a,b,c,d,e,f,g,h,i,j,k,l,m⟩
def E5 {o p q r s t G1 u v w x y z A:Prop} (a:o) (b:p) (c:q) (d:r) (e:s) (f:t) (g:G1) (h:u) (i:v) (j:w) (k:x) (l:y) (m:z) (n:A):o/\p/\q/\r/\s/\t/\G1/\u/\v/\w/\x/\y/\z/\A:=⟨a,b,c,d,e,f,g,h,i,j,k,l,m,n⟩
def E4 {p q r s t u G1 v w x y z A B C:Prop} (a:p) (b:q) (c:r) (d:s) (e:t) (f:u) (g:G1) (h:v) (i:w) (j:x) (k:y) (l:z) (m:A) (n:B) (o:C):p/\q/\r/\s/\t/\u/\G1/\v/\w/\x/\y/\z/\A/\B/\C:=⟨a,b,c,d,e,f,g,h,i,j,k,l,m,n,o⟩
def Tg {q r s t u v G1 w x y z A B C D E:Prop} (a:q) (b:r) (c:s) (d:t) (e:u) (f:v) (g:G1) (h:w) (i:x) (j:y) (k:z) (l:A) (m:B) (n:C) (o:D) (p:E):q/\r/\s/\t/\u/\v/\G1/\w/\x/\y/\z/\A/\B/\C/\D/\E:=⟨a,b,c,d,e,f,g,h,i,j,k,l,m,n,o,p⟩
def Hp {r s t u v w G1 x y z A B C D E F G:Prop} (a:r) (b:s) (c:t) (d:u) (e:v) (f:w) (g:G1) (h:x) (i:y) (j:z) (k:A) (l:B) (m:C) (n:D) (o:E) (p:F) (q:G):r/\s/\t/\u/\v/\w/\G1/\x/\y/\z/\A/\B/\C/\D/\E/\F/\G:=⟨a,b,c,d,e,f,g,h,i,j,k,l,m,n,o,p,q⟩
def Ho {s t u v w x G1 y z A B C D E F G H I:Prop} (a:s) (b:t) (c:u) (d:v) (e:w) (f:x) (g:G1) (h:y) (i:z) (j:A) (k:B) (l:C) (m:D) (n:E) (o:F) (p:G) (q:H) (r:I):s/\t/\u/\v/\w/\x/\G1/\y/\z/\A/\B/\C/\D/\E/\F/\G/\H/\I:=⟨a,b,c,d,e,f,g,h,i,j,k,l,m,n,o,p,q,r⟩
def RD {t u v w x y G1 z A B C D E F G H I J K:Prop} (a:t) (b:u) (c:v) (d:w) (e:x) (f:y) (g:G1) (h:z) (i:A) (j:B) (k:C) (l:D) (m:E) (n:F) (o:G) (p:H) (q:I) (r:J) (s:K):t/\u/\v/\w/\x/\y/\G1/\z/\A/\B/\C/\D/\E/\F/\G/\H/\I/\J/\K:=⟨a,b,c,d,e,f,g,h,i,j,k,l,m,n,o,p,q,r,s⟩
def Tf {u v w x y z G1 A B C D E F G H I J K L T1:Prop} (a:u) (b:v) (c:w) (d:x) (e:y) (f:z) (g:G1) (h:A) (i:B) (j:C) (k:D) (l:E) (m:F) (n:G) (o:H) (p:I) (q:J) (r:K) (s:L) (t:T1):u/\v/\w/\x/\y/\z/\G1/\A/\B/\C/\D/\E/\F/\G/\H/\I/\J/\K/\L/\T1:=⟨a,b,c,d,e,f,g,h,i,j,k,l,m,n,o,p,q,r,s,t⟩
def Te {v w x y z A G1 B C D E F G H I J K L M T1 N:Prop} (a:v) (b:w) (c:x) (d:y) (e:z) (f:A) (g:G1) (h:B) (i:C) (j:D) (k:E) (l:F) (m:G) (n:H) (o:I) (p:J) (q:K) (r:L) (s:M) (t:T1) (u:N):v/\w/\x/\y/\z/\A/\G1/\B/\C/\D/\E/\F/\G/\H/\I/\J/\K/\L/\M/\T1/\N:=⟨a,b,c,d,e,f,g,h,i,j,k,l,m,n,o,p,q,r,s,t,u⟩
def PB {w x y z A B G1 C D E F G H I J K L M N T1 O P:Prop} (a:w) (b:x) (c:y) (d:z) (e:A) (f:B) (g:G1) (h:C) (i:D) (j:E) (k:F) (l:G) (m:H) (n:I) (o:J) (p:K) (q:L) (r:M) (s:N) (t:T1) (u:O) (v:P):w/\x/\y/\z/\A/\B/\G1/\C/\D/\E/\F/\G/\H/\I/\J/\K/\L/\M/\N/\T1/\O/\P:=⟨a,b,c,d,e,f,g,h,i,j,k,l,m,n,o,p,q,r,s,t,u,v⟩
def uV:=U6 (U6 (U6 (U6 (U6 (U6 (@NH) (@NG)) (U6 (@K2) (@K0))) (U6 (U6 (@O7) (@O6)) (U6 (@Mo) (@Mp)))) (U6 (U6 (U6 (@NJ) (@NI)) (U6 (@K4) (@F5))) (U6 (U6 (@Ok) (@LE)) (U6 (@LD) (U6 (@PC) (@RE)))))) (U6 (U6 (U6 (U6 (@PL) (@E7)) (U6 (@PJ) (@PI))) (U6 (U6 (@RF) (@MR)) (U6 (@PG) (@MS)))) (U6 (U6 (U6 (@zy) (@Dq)) (U6 (@Rf) (@PF))) (U6 (U6 (@MZ) (@PM)) (U6 (@CQ) (U6 (@A3) (@GM))))))) (U6 (U6 (U6 (U6 (U6 (@Bz) (@PD)) (U6 (@Hr) (@Th))) (U6 (U6 (@PK) (@RI)) (U6 (@RJ) (@Tj)))) (U6 (U6 (U6 (@MV) (@RK)) (U6 (@MY) (@MT))) (U6 (U6 (@MQ) (@PH)) (U6 (@MP) (U6 (@RM) (@Ti)))))) (U6 (U6 (U6 (U6 (@B0) (@RL)) (U6 (@RH) (@RG))) (U6 (U6 (@Hq) (@Ku)) (U6 (@NR) (U6 (@NQ) (@Oz))))) (U6 (U6 (U6 (@Oy) (@LX)) (U6 (@LY) (@PU))) (U6 (U6 (@PT) (@M8)) (U6 (@M9) (U6 (@MW) (@E6)))))))
def uU:=U6 (U6 (U6 (U6 (U6 (U6 (U6 (@xe) (@CQ)) (U6 (@A3) (@GM))) (U6 (U6 (@Bz) (@IZ)) (U6 (@DY) (U6 (@Jn) (@LO))))) (U6 (U6 (U6 (@SQ) (@TT)) (U6 (@jr) (U6 (@my) (@Wj)))) (U6 (U6 (@Q5) (@Q0)) (U6 (@Kh) (U6 (@Q2) (@Q3)))))) (U6 (U6 (U6 (U6 (@Q4) (@OO)) (U6 (@Lr) (U6 (@R7) (@Q7)))) (U6 (U6 (@Q6) (@Ek)) (U6 (@zi) (U6 (@S0) (@QZ))))) (U6 (U6 (U6 (@List.length_set.{0}) (U6 (@if_true.{1}) (@if_true.{0}))) (U6 (U6 (@if_false.{1}) (@if_false.{0})) (U6 (@List.length_cons.{0}) (@List.length_nil.{0})))) (U6 (U6 (@List.map_cons.{0,0}) (@List.map_nil.{0,0})) (U6 (@List.append_nil.{0}) (U6 (@List.nil_append.{0}) (@List.cons_append.{0}))))))) (U6 (U6 (U6 (U6 (U6 (@Option.map_some.{0,0}) (@Option.map_none.{0,0})) (U6 (@Yt) (U6 (@Za) (@YS)))) (U6 (U6 (@decide_eq_true_eq) (@Wk)) (U6 (@decide_eq_false_iff_not) (U6 (@Wb) (@true_or))))) (U6 (U6 (U6 (@or_true) (@true_and)) (U6 (@and_true) (U6 (@false_or) (@or_false)))) (U6 (U6 (@ne_eq.{1}) (@not_false_eq_true)) (U6 (@not_true_eq_false) (U6 (@eq_self.{1}) (@VN)))))) (U6 (U6 (U6 (U6 (@WM) (@Gi)) (U6 (@IE) (U6 (@IY) (@GH)))) (U6 (U6 (@Tt) (@Sr)) (U6 (@QJ) (U6 (@dr) (@next_put))))) (U6 (U6 (U6 (@next_kill) (@Sn)) (U6 (@Sl) (U6 (@Sk) (@NN)))) (U6 (U6 (@K9) (@NT)) (U6 (@KO) (U6 (@KN) (@SH)))))))) (U6 (U6 (U6 (U6 (U6 (U6 (@LJ) (@oI)) (U6 (@ap) (U6 (@aB) (@cP)))) (U6 (U6 (@Sf) (@Ol)) (U6 (@UP) (U6 (@UO) (@UN))))) (U6 (U6 (U6 (@Uh) (@Ug)) (U6 (@TR) (U6 (@TQ) (@SX)))) (U6 (U6 (@O4) (@tZ)) (U6 (@aI) (U6 (@aZ) (@bD)))))) (U6 (U6 (U6 (U6 (@cH) (@bN)) (U6 (@Nat.add_eq) (U6 (@List.take_zero.{0}) (@List.drop_zero.{0})))) (U6 (U6 (@List.take_succ_cons.{0}) (@List.drop_succ_cons.{0})) (U6 (@List.append_eq.{0}) (U6 (@decide_true) (@decide_false))))) (U6 (U6 (U6 (@Bool.and_true) (@Bool.and_false)) (U6 (@Bool.true_and) (U6 (@ZU) (@Int.lt_irrefl)))) (U6 (U6 (@Uj) (@Ui)) (U6 (@LA) (U6 (@List.set_cons_zero.{0}) (@List.set_cons_succ.{0}))))))) (U6 (U6 (U6 (U6 (U6 (@Int.ofNat_lt) (@Int.ofNat_le)) (U6 (@Int.natCast_inj) (U6 (@Int.natCast_pos) (@HZ)))) (U6 (U6 (@Lg) (@List.zip_cons_cons.{0,0})) (U6 (@List.zip_nil_left.{0,0}) (U6 (@List.zip_nil_right.{0,0}) (@Ux))))) (U6 (U6 (U6 (@Uw) (@Uv)) (U6 (@SP) (U6 (@L3) (@Qx)))) (U6 (U6 (@Sy) (@SN)) (U6 (@IN) (U6 (@SY) (@SR)))))) (U6 (U6 (U6 (U6 (@R8) (@Mv)) (U6 (@Mq) (U6 (@Ms) (@Mt)))) (U6 (U6 (@sW) (@xM)) (U6 (@I7) (U6 (@Mr) (@pd))))) (U6 (U6 (U6 (@LH) (@DK)) (U6 (@lB) (U6 (@nK) (@JM)))) (U6 (U6 (@SM) (@WF)) (U6 (@Ur) (U6 (@Uq) (@TP))))))))
def Tq:=U6 (U6 (U6 (@RX) (U6 (@PX) (@Na))) (U6 (@PW) (U6 (@RY) (@QS)))) (U6 (U6 (@SD) (U6 (@QD) (@QC))) (U6 (U6 (@QB) (@Oi)) (U6 (@SI) (@QG))))
def To:=U6 (U6 (U6 (U6 (U6 (@Nl) (@Nk)) (U6 (@Nj) (@HE))) (U6 (U6 (@Nh) (@Ni)) (U6 (@sY) (U6 (@qj) (@js))))) (U6 (U6 (U6 (@kN) (@List.length_replicate.{0})) (U6 (@List.getD_cons_zero.{0}) (@List.getD_cons_succ.{0}))) (U6 (U6 (@List.getLastD_cons.{0}) (@List.getLastD_nil.{0})) (U6 (@RB) (U6 (@MK) (@Ks)))))) (U6 (U6 (U6 (U6 (@Ko) (@PA)) (U6 (@RA) (@MN))) (U6 (U6 (@ML) (@Kn)) (U6 (@RC) (U6 (@Kq) (@Py))))) (U6 (U6 (U6 (@Pz) (@Px)) (U6 (@MM) (@Pv))) (U6 (U6 (@Pw) (@Ly)) (U6 (@QA) (U6 (@SB) (@Oe))))))
def UL:=U6 (U6 (@SK) (@QH)) (U6 (@TI) (U6 (@SJ) (@QI)))
def UM:=U6 (@RW) (U6 (@Tn) (@PV))
def zW {F P Q:Prop} (f:F) (q:Q) (h:F->Q->P:=by intro h q; simp -dsimp (maxSteps:=1000000) (disch:=(first | omega | assumption | exact aI _ | exact aZ _ _ | exact bD | exact cH _ _ _ | exact bN _ _ | exact bC _ _ _ _ _ _ | exact cR _ _ | exact bR _)) only [↓uV,uU,Nat.reduceLT,Nat.reduceEqDiff,Nat.reduceAdd,reduceIte,reduceCtorEq,Nat.reduceBEq,Int.reduceEq,Int.reduceLT,Int.reduceLE,Int.reduceAdd,Int.reduceSub,h]; exact q):P:=h f q
def wO {P Q:Prop} (q:Q) (h:Q->P:=by intro q; simp -dsimp (maxSteps:=1000000) (disch:=(first | omega | assumption | exact aI _ | exact aZ _ _ | exact bD | exact cH _ _ _ | exact bN _ _ | exact bC _ _ _ _ _ _ | exact cR _ _ | exact bR _)) only [↓uV,uU,Nat.reduceLT,Nat.reduceEqDiff,Nat.reduceAdd,reduceIte,reduceCtorEq,Nat.reduceBEq,Int.reduceEq,Int.reduceLT,Int.reduceLE,Int.reduceAdd,Int.reduceSub]; exact q):P:=h q
def zV {F P:Prop} (f:F) (h:F->P:=by intro h; simp -dsimp (maxSteps:=1000000) (disch:=(first | omega | assumption | exact aI _ | exact aZ _ _ | exact bD | exact cH _ _ _ | exact bN _ _ | exact bC _ _ _ _ _ _ | exact cR _ _ | exact bR _)) only [↓uV,uU,Nat.reduceLT,Nat.reduceEqDiff,Nat.reduceAdd,reduceIte,reduceCtorEq,Nat.reduceBEq,Int.reduceEq,Int.reduceLT,Int.reduceLE,Int.reduceAdd,Int.reduceSub,h]):P:=h f
def cy {P:Prop} (h:P:=by simp -dsimp (maxSteps:=1000000) (disch:=(first | omega | assumption | exact aI _ | exact aZ _ _ | exact bD | exact cH _ _ _ | exact bN _ _ | exact bC _ _ _ _ _ _ | exact cR _ _ | exact bR _)) only [↓uV,uU,Nat.reduceLT,Nat.reduceEqDiff,Nat.reduceAdd,reduceIte,reduceCtorEq,Nat.reduceBEq,Int.reduceEq,Int.reduceLT,Int.reduceLE,Int.reduceAdd,Int.reduceSub]):P:=h
def zD {F P Q:Prop} (f:F) (q:Q) (h:F->Q->P:=by intro h q; simp -dsimp (maxSteps:=1000000) (disch:=(first | omega | assumption | exact aI _ | exact aZ _ _ | exact bD | exact cH _ _ _ | exact bN _ _ | exact bC _ _ _ _ _ _ | exact cR _ _ | exact bR _)) only [↓uV,uU,↓Tq,To,Nat.reduceLT,Nat.reduceEqDiff,Nat.reduceAdd,reduceIte,reduceCtorEq,Nat.reduceBEq,Int.reduceEq,Int.reduceLT,Int.reduceLE,Int.reduceAdd,Int.reduceSub,h]; exact q):P:=h f q
def zE {F P:Prop} (f:F) (h:F->P:=by intro h; simp -dsimp (maxSteps:=1000000) (disch:=(first | omega | assumption | exact aI _ | exact aZ _ _ | exact bD | exact cH _ _ _ | exact bN _ _ | exact bC _ _ _ _ _ _ | exact cR _ _ | exact bR _)) only [↓uV,uU,↓Tq,To,Nat.reduceLT,Nat.reduceEqDiff,Nat.reduceAdd,reduceIte,reduceCtorEq,Nat.reduceBEq,Int.reduceEq,Int.reduceLT,Int.reduceLE,Int.reduceAdd,Int.reduceSub,h]):P:=h f
def zK {P:Prop} (h:P:=by first | assumption | simp (disch:=(first | omega | assumption | (simp only [dr,next_put,next_kill]; omega))) only [UL] <;> assumption):P:=h
def zF {P:Prop} (h:P:=by first | assumption | simp (disch:=(first | omega | assumption | (simp only [dr,next_put,next_kill]; omega))) only [UM] <;> assumption):P:=h
def zU {P:Prop} (h:P:=by decide):P:=h
def zG (A:Heap) {G:Heap} (h:Kp A G:=by first | assumption | simp (disch:=(first | omega | assumption | (simp only [dr,next_put,next_kill]; omega))) only [UL] <;> assumption):Sub A G:=h.sub
def zT (A:Heap) {G C:Heap} (h:Kp A G) (h2:Kp G C):Kp A C/\A.next<=C.next/\Wf C:=⟨h.trans h2,(h.trans h2).le,h2.wf⟩
set_option maxRecDepth 100000
abbrev d9:Nat:=3
abbrev fV:Nat:=7
abbrev gL:Nat:=8
abbrev dZ:Nat:=9
abbrev dW:Nat:=10
abbrev nC:Nat:=11
abbrev fN:Nat:=12
abbrev xl:Nat:=13
abbrev dJ:Nat:=14
abbrev gC:Nat:=15
abbrev mZ:Nat:=16
abbrev fj:Nat:=30
abbrev hZ:Nat:=31
abbrev rl:Nat:=32
abbrev rm:Nat:=33
abbrev pK:Nat:=34
abbrev iQ:Nat:=35
abbrev pa:Nat:=36
abbrev fU:Nat:=37
abbrev fP:Nat:=38
abbrev pL:Nat:=39
abbrev cT:Nat:=40
abbrev fO:Nat:=41
abbrev mY:Nat:=42
abbrev pJ:Nat:=43
abbrev iB:Nat:=44
abbrev fh:Nat:=46
abbrev fz:Nat:=45
abbrev gD:Nat:=47
abbrev nE:Nat:=48
abbrev AK:Nat:=26
abbrev cL:Nat:=76
abbrev rx:Nat:=62
abbrev cM:Nat:=77
abbrev uv:Nat:=29
abbrev fX:Nat:=78
abbrev fl:Nat:=79
abbrev lz:Nat:=80
abbrev oG:Nat:=82
abbrev ru:Nat:=81
abbrev ry:Nat:=83
abbrev rk:Nat:=84
abbrev fQ:Nat:=86
abbrev gY:Nat:=85
abbrev eQ:Nat:=87
abbrev eP:Nat:=88
abbrev fW:Nat:=89
abbrev fk:Nat:=90
abbrev m6:Nat:=91
abbrev rv:Nat:=92
abbrev bX:Nat:=113
abbrev bY:Nat:=114
abbrev AM:Nat:=75
abbrev pE:Nat:=74
abbrev eW:Nat:=116
abbrev bV:Nat:=115
abbrev eU:Nat:=117
abbrev rt:Nat:=118
abbrev rA:Nat:=119
abbrev bT:Nat:=120
abbrev kQ:Nat:=121
abbrev pP:Nat:=122
abbrev ia:Nat:=123
abbrev h9:Nat:=125
abbrev aY:Nat:=126
abbrev aX:Nat:=127
abbrev sG:Nat:=68
abbrev pF:Nat:=128
abbrev fS:Nat:=132
abbrev g8:Nat:=129
abbrev eR:Nat:=130
abbrev gJ:Nat:=131
abbrev gE:Nat:=133
abbrev eT:Nat:=135
abbrev bU:Nat:=134
abbrev eS:Nat:=136
abbrev ux:Nat:=124
abbrev pM:Nat:=112
abbrev nB:Nat:=56
abbrev ct:Nat:=149
abbrev nd:Nat:=150
abbrev rz:Nat:=151
abbrev uE:Nat:=152
abbrev dg:Nat:=153
abbrev mX:Nat:=154
abbrev oC:Nat:=155
abbrev dF:Nat:=156
abbrev jN:Nat:=157
abbrev cp:Nat:=159
abbrev oj:Nat:=94
abbrev oi:Nat:=98
abbrev xf:Nat:=97
abbrev lh:Nat:=64
abbrev pD:Nat:=139
abbrev fC:Nat:=167
abbrev fR:Nat:=168
abbrev fT:Nat:=161
abbrev gZ:Nat:=162
abbrev iO:Nat:=163
abbrev gH:Nat:=164
abbrev iP:Nat:=165
abbrev gK:Nat:=166
abbrev gF:Nat:=169
abbrev cq:Nat:=170
abbrev bj:Nat:=160
abbrev jH:Nat:=104
abbrev cG:Nat:=148
abbrev cu:Nat:=99
abbrev mU:Nat:=100
abbrev mh:Nat:=181
abbrev gN:Nat:=182
abbrev jm:Nat:=185
abbrev iR:Nat:=186
abbrev oA:Nat:=187
abbrev jl:Nat:=188
abbrev uw:Nat:=70
abbrev xh:Nat:=158
abbrev rf:Nat:=69
abbrev rh:Nat:=71
abbrev nD:Nat:=105
abbrev gI:Nat:=193
abbrev du:Nat:=140
abbrev cJ:Nat:=137
abbrev pS:Nat:=184
abbrev lA:Nat:=183
abbrev ft:Nat:=197
abbrev nF:Nat:=198
abbrev pQ:Nat:=200
abbrev pR:Nat:=199
abbrev nA:Nat:=201
abbrev cS:Nat:=203
abbrev cK:Nat:=202
abbrev gO:Nat:=204
abbrev ri:Nat:=205
abbrev pI:Nat:=207
abbrev mV:Nat:=206
abbrev mQ:Nat:=95
abbrev ol:Nat:=108
abbrev bf:Nat:=191
abbrev pH:Nat:=192
abbrev lV:Nat:=106
abbrev xp:Nat:=107
abbrev qZ:Nat:=110
abbrev rj:Nat:=219
abbrev uD:Nat:=220
abbrev re:Nat:=221
abbrev xg:Nat:=55
abbrev mR:Nat:=222
abbrev oB:Nat:=223
abbrev cI:Nat:=224
abbrev oo:Nat:=225
abbrev mS:Nat:=226
abbrev ot:Nat:=228
abbrev cE:Nat:=109
abbrev rg:Nat:=102
abbrev iN:Nat:=142
abbrev oE:Nat:=141
abbrev xn:Nat:=143
abbrev xm:Nat:=144
abbrev pG:Nat:=96
abbrev xq:Nat:=236
abbrev oh:Nat:=227
abbrev fy:Nat:=238
abbrev rc:Nat:=138
abbrev pO:Nat:=171
abbrev rr:Nat:=172
abbrev xo:Nat:=174
abbrev uA:Nat:=173
abbrev AN:Nat:=175
abbrev oD:Nat:=176
abbrev pN:Nat:=177
abbrev jM:Nat:=178
abbrev jI:Nat:=179
abbrev oF:Nat:=241
abbrev xu:Nat:=242
abbrev kP:Nat:=237
abbrev jJ:Nat:=194
abbrev uz:Nat:=195
abbrev rp:Nat:=196
abbrev oH:Nat:=244
abbrev uC:Nat:=245
abbrev dV:Nat:=246
abbrev AL:Nat:=247
abbrev gM:Nat:=248
abbrev ib:Nat:=249
abbrev ic:Nat:=250
abbrev uB:Nat:=252
abbrev uy:Nat:=251
abbrev gW:Nat:=218
abbrev cV:Nat:=253
abbrev jL:Nat:=254
abbrev jK:Nat:=217
abbrev rq:Nat:=255
abbrev bg:Nat:=256
abbrev dj:Nat:=3
abbrev af:Nat:=24
abbrev t_api_Con:Nat:=26
abbrev ai:Nat:=28
abbrev DN:Nat:=30
abbrev aj:Nat:=32
abbrev e9:Nat:=50
abbrev aK:Nat:=51
abbrev aa:Nat:=53
abbrev ae:Nat:=115
abbrev fM:Nat:=119
abbrev tj:Nat:=120
abbrev fL:Nat:=128
abbrev tf:Nat:=129
abbrev DL:Nat:=153
abbrev aU:Nat:=182
abbrev aJ:Nat:=208
abbrev eZ:Nat:=215
abbrev mJ:Nat:=238
abbrev gy:Nat:=288
theorem Um (n:Nat):Int.ofNat n=(OfNat.ofNat n:Int):=rfl
theorem TF:Int.negSucc 0 = -1:=rfl
theorem TE:Int.negSucc 1 = -2:=rfl
theorem TN (id id1 i n c k:Nat) (body:ACode):ACode.block id (.loop (.seq (.region [⟨some c,.bin .lss .int (.t i) (.t n),none⟩]) (.seq (.cond (.t c) .skip (.exit id)) (.seq (.block id1 body) (.region [⟨some k,.bin .add .int (.t i) (.c (.int .i64 1)),none⟩,⟨some i,.mv (.t k),none⟩])))))=QP id id1 i n c k body:=rfl
theorem TO (id:Nat) (c:ACode):ACode.block id (.loop c)=O5 id c:=rfl
set_option maxHeartbeats 8000000
def ak (f:Func) (a:az) (_:SV Tryz.prog f=some a:=by conv=>lhs; reduce; dsimp only [↓Um,↓TF,↓TE]; (try dsimp only [TN]); (try dsimp only [TO])):az:=a
def c_facetroomlaw22_PolyMeets:az:=ak Tryz.f3 _
def jZ:az:=ak Tryz.f7 _
def kF:az:=ak Tryz.f8 _
def ip:az:=ak Tryz.f9 _
def io:az:=ak Tryz.f10 _
def yI:az:=ak Tryz.f11 _
def jT:az:=ak Tryz.f12 _
def C8:az:=ak Tryz.f13 _
def jS:az:=ak Tryz.f14 _
def kr:az:=ak Tryz.f15 _
def BE:az:=ak Tryz.f16 _
def i9:az:=ak Tryz.f30 _
def lJ:az:=ak Tryz.f31 _
def yJ:az:=ak Tryz.f32 _
def yK:az:=ak Tryz.f33 _
def wC:az:=ak Tryz.f34 _
def mc:az:=ak Tryz.f35 _
def De:az:=ak Tryz.f36 _
def jY:az:=ak Tryz.f37 _
def jV:az:=ak Tryz.f38 _
def wD:az:=ak Tryz.f39 _
def eM:az:=ak Tryz.f40 _
def jU:az:=ak Tryz.f41 _
def rW:az:=ak Tryz.f42 _
def wB:az:=ak Tryz.f43 _
def wA:az:=ak Tryz.f44 _
def i8:az:=ak Tryz.f46 _
def jx:az:=ak Tryz.f45 _
def kv:az:=ak Tryz.f47 _
def yU:az:=ak Tryz.f48 _
def GN:az:=ak Tryz.f26 _
def eD:az:=ak Tryz.f76 _
def yS:az:=ak Tryz.f62 _
def eE:az:=ak Tryz.f77 _
def BA:az:=ak Tryz.f29 _
def j9:az:=ak Tryz.f78 _
def tX:az:=ak Tryz.f79 _
def yQ:az:=ak Tryz.f80 _
def c_dual_points:az:=ak Tryz.f82 _
def yR:az:=ak Tryz.f81 _
def yT:az:=ak Tryz.f83 _
def yH:az:=ak Tryz.f84 _
def jW:az:=ak Tryz.f86 _
def lD:az:=ak Tryz.f85 _
def iH:az:=ak Tryz.f87 _
def iG:az:=ak Tryz.f88 _
def j8:az:=ak Tryz.f89 _
def tW:az:=ak Tryz.f90 _
def BJ:az:=ak Tryz.f91 _
def c_dual_cons:az:=ak Tryz.f92 _
def fc:az:=ak Tryz.f113 _
def fd:az:=ak Tryz.f114 _
def GP:az:=ak Tryz.f75 _
def wn:az:=ak Tryz.f74 _
def iL:az:=ak Tryz.f116 _
def de:az:=ak Tryz.f115 _
def iK:az:=ak Tryz.f117 _
def yP:az:=ak Tryz.f118 _
def c_cone_Gens:az:=ak Tryz.f119 _
def da:az:=ak Tryz.f120 _
def pm:az:=ak Tryz.f121 _
def wH:az:=ak Tryz.f122 _
def rZ:az:=ak Tryz.f123 _
def rY:az:=ak Tryz.f125 _
def bL:az:=ak Tryz.f126 _
def bJ:az:=ak Tryz.f127 _
def C6:az:=ak Tryz.f68 _
def wq:az:=ak Tryz.f128 _
def c_facetroomref02_Times:az:=ak Tryz.f132 _
def c_facetroomref01_Sum:az:=ak Tryz.f129 _
def c_facetroomref01_Compared:az:=ak Tryz.f130 _
def c_facetroomref01_Rest:az:=ak Tryz.f131 _
def kw:az:=ak Tryz.f133 _
def iJ:az:=ak Tryz.f135 _
def db:az:=ak Tryz.f134 _
def iI:az:=ak Tryz.f136 _
def BD:az:=ak Tryz.f124 _
def BF:az:=ak Tryz.f112 _
def yG:az:=ak Tryz.f56 _
def dC:az:=ak Tryz.f149 _
def c_cone_checked:az:=ak Tryz.f150 _
def yX:az:=ak Tryz.f151 _
def BR:az:=ak Tryz.f152 _
def c_P_cone_under_add:az:=ak Tryz.f153 _
def rV:az:=ak Tryz.f154 _
def tQ:az:=ak Tryz.f155 _
def dH:az:=⟨2,2,[],.skip,(some (.sortF af [jN]))⟩
def r8:az:=ak Tryz.f157 _
def dz:az:=ak Tryz.f159 _
def tJ:az:=ak Tryz.f94 _
def tH:az:=ak Tryz.f98 _
def C4:az:=ak Tryz.f97 _
def tG:az:=ak Tryz.f64 _
def wm:az:=ak Tryz.f139 _
def jy:az:=ak Tryz.f167 _
def c_facetroomref02_whole:az:=ak Tryz.f168 _
def jX:az:=ak Tryz.f161 _
def lH:az:=ak Tryz.f162 _
def l8:az:=ak Tryz.f163 _
def kz:az:=ak Tryz.f164 _
def l9:az:=ak Tryz.f165 _
def c_facetroomref01_From:az:=ak Tryz.f166 _
def ky:az:=ak Tryz.f169 _
def dB:az:=ak Tryz.f170 _
def cj:az:=ak Tryz.f160 _
def wt:az:=ak Tryz.f104 _
def gu:az:=ak Tryz.f148 _
def dE:az:=ak Tryz.f99 _
def rT:az:=ak Tryz.f100 _
def wz:az:=ak Tryz.f181 _
def kJ:az:=ak Tryz.f182 _
def c_P_cone_under_cut:az:=ak Tryz.f185 _
def c_P_cone_under_fold:az:=ak Tryz.f186 _
def tO:az:=ak Tryz.f187 _
def nk:az:=ak Tryz.f188 _
def BC:az:=ak Tryz.f70 _
def C7:az:=ak Tryz.f158 _
def yB:az:=ak Tryz.f69 _
def yD:az:=ak Tryz.f71 _
def yN:az:=ak Tryz.f105 _
def kC:az:=ak Tryz.f193 _
def fH:az:=ak Tryz.f140 _
def eB:az:=ak Tryz.f137 _
def BQ:az:=ak Tryz.f184 _
def yV:az:=ak Tryz.f183 _
def mf:az:=ak Tryz.f197 _
def yW:az:=ak Tryz.f198 _
def BN:az:=ak Tryz.f200 _
def BO:az:=ak Tryz.f199 _
def yE:az:=ak Tryz.f201 _
def eJ:az:=ak Tryz.f203 _
def eC:az:=ak Tryz.f202 _
def c_P_rows_form_put:az:=ak Tryz.f204 _
def yF:az:=ak Tryz.f205 _
def wy:az:=ak Tryz.f207 _
def rU:az:=ak Tryz.f206 _
def BB:az:=ak Tryz.f95 _
def tK:az:=ak Tryz.f108 _
def bZ:az:=ak Tryz.f191 _
def wx:az:=ak Tryz.f192 _
def qB:az:=ak Tryz.f106 _
def Dc:az:=ak Tryz.f107 _
def yy:az:=ak Tryz.f110 _
def c_sat_Signs:az:=ak Tryz.f219 _
def BP:az:=ak Tryz.f220 _
def yA:az:=ak Tryz.f221 _
def C5:az:=ak Tryz.f55 _
def rR:az:=ak Tryz.f222 _
def tP:az:=ak Tryz.f223 _
def eA:az:=⟨3,3,[],
 .skip,
 (some (.insert 1 24 af))⟩
def tM:az:=ak Tryz.f225 _
def rS:az:=ak Tryz.f226 _
def tN:az:=ak Tryz.f228 _
def fI:az:=ak Tryz.f109 _
def yC:az:=ak Tryz.f102 _
def l7:az:=ak Tryz.f142 _
def tU:az:=ak Tryz.f141 _
def Da:az:=ak Tryz.f143 _
def C9:az:=ak Tryz.f144 _
def ww:az:=ak Tryz.f96 _
def Dd:az:=ak Tryz.f236 _
def tF:az:=ak Tryz.f227 _
def pk:az:=ak Tryz.f238 _
def yz:az:=ak Tryz.f138 _
def wF:az:=ak Tryz.f171 _
def yO:az:=ak Tryz.f172 _
def Db:az:=ak Tryz.f174 _
def BI:az:=ak Tryz.f173 _
def GR:az:=ak Tryz.f175 _
def tT:az:=ak Tryz.f176 _
def wE:az:=ak Tryz.f177 _
def nU:az:=⟨3,3,[],
 .skip,
 (some .add64)⟩
def nQ:az:=⟨3,3,[],
 .skip,
 (some .sub64)⟩
def tV:az:=ak Tryz.f241 _
def Df:az:=ak Tryz.f242 _
def pj:az:=ak Tryz.f237 _
def nR:az:=ak Tryz.f194 _
def BH:az:=ak Tryz.f195 _
def yL:az:=ak Tryz.f196 _
def tY:az:=ak Tryz.f244 _
def BM:az:=ak Tryz.f245 _
def im:az:=ak Tryz.f246 _
def GO:az:=ak Tryz.f247 _
def kI:az:=ak Tryz.f248 _
def lM:az:=ak Tryz.f249 _
def lO:az:=ak Tryz.f250 _
def BL:az:=ak Tryz.f252 _
def BG:az:=ak Tryz.f251 _
def rX:az:=ak Tryz.f218 _
def fe:az:=ak Tryz.f253 _
def nT:az:=ak Tryz.f254 _
def nS:az:=⟨1,25,[(2,none)],
 .seq (.region [
 ⟨(some 2),.mv (.c (.int .i64 0)),none⟩]) <|
 .seq (.seq (.region [
 ⟨(some 3),.mv (.t 0),none⟩,
 ⟨(some 4),.bin .geq .int (.t 3) (.c (.int .u64 4294967296)),none⟩]) <|
 .cond (.t 4)
 (.seq (.region [
  ⟨(some 5),.mv (.t 0),none⟩,
  ⟨(some 6),.bin .shr .int (.t 5) (.c (.int .u64 32)),none⟩,
  ⟨(some 0),.mv (.t 6),none⟩]) <|
 .region [
  ⟨(some 2),.mv (.c (.int .i64 32)),none⟩])
 (.skip)) <|
 .seq (.seq (.region [
 ⟨(some 7),.mv (.t 0),none⟩,
 ⟨(some 8),.bin .geq .int (.t 7) (.c (.int .u64 65536)),none⟩]) <|
 .cond (.t 8)
 (.seq (.region [
  ⟨(some 9),.mv (.t 0),none⟩,
  ⟨(some 10),.bin .shr .int (.t 9) (.c (.int .u64 16)),none⟩,
  ⟨(some 0),.mv (.t 10),none⟩]) <|
 .region [
  ⟨(some 11),.mv (.t 2),none⟩,
  ⟨(some 12),.bin .add .int (.t 11) (.c (.int .i64 16)),none⟩,
  ⟨(some 2),.mv (.t 12),none⟩])
 (.skip)) <|
 .seq (.seq (.region [
 ⟨(some 13),.mv (.t 0),none⟩,
 ⟨(some 14),.bin .geq .int (.t 13) (.c (.int .u64 256)),none⟩]) <|
 .cond (.t 14)
 (.seq (.region [
  ⟨(some 15),.mv (.t 0),none⟩,
  ⟨(some 16),.bin .shr .int (.t 15) (.c (.int .u64 8)),none⟩,
  ⟨(some 0),.mv (.t 16),none⟩]) <|
 .region [
  ⟨(some 17),.mv (.t 2),none⟩,
  ⟨(some 18),.bin .add .int (.t 17) (.c (.int .i64 8)),none⟩,
  ⟨(some 2),.mv (.t 18),none⟩])
 (.skip)) <|
 .seq (.region [
 ⟨(some 19),.mv (.t 2),none⟩,
 ⟨(some 20),.mv (.t 0),none⟩,
 ⟨(some 21),.conv .u8 (.t 20),none⟩,
 ⟨(some 22),.indexStr (.c (.str ⟨#[0,1,2,2,3,3,3,3,4,4,4,4,4,4,4,4,5,5,5,5,5,5,5,5,5,5,5,5,5,5,5,5,6,6,6,6,6,6,6,6,6,6,6,6,6,6,6,6,6,6,6,6,6,6,6,6,6,6,6,6,6,6,6,6,7,7,7,7,7,7,7,7,7,7,7,7,7,7,7,7,7,7,7,7,7,7,7,7,7,7,7,7,7,7,7,7,7,7,7,7,7,7,7,7,7,7,7,7,7,7,7,7,7,7,7,7,7,7,7,7,7,7,7,7,7,7,7,7,8,8,8,8,8,8,8,8,8,8,8,8,8,8,8,8,8,8,8,8,8,8,8,8,8,8,8,8,8,8,8,8,8,8,8,8,8,8,8,8,8,8,8,8,8,8,8,8,8,8,8,8,8,8,8,8,8,8,8,8,8,8,8,8,8,8,8,8,8,8,8,8,8,8,8,8,8,8,8,8,8,8,8,8,8,8,8,8,8,8,8,8,8,8,8,8,8,8,8,8,8,8,8,8,8,8,8,8,8,8,8,8,8,8,8,8,8,8,8,8,8,8,8,8,8,8,8,8]⟩)) (.t 21),none⟩,
 ⟨(some 23),.conv .i64 (.t 22),none⟩,
 ⟨(some 24),.bin .add .int (.t 19) (.t 23),none⟩,
 ⟨(some 2),.mv (.t 24),none⟩]) <|
 .ret,
 none⟩
def yM:az:=ak Tryz.f255 _
def dL:az:=ak Tryz.f256 _
structure Code (tab:Nat->Option az):Prop where
 q0:tab d9=some c_facetroomlaw22_PolyMeets
 q1:tab fV=some jZ
 q2:tab gL=some kF
 q3:tab dZ=some ip
 q4:tab dW=some io
 q5:tab nC=some yI
 q6:tab fN=some jT
 q7:tab xl=some C8
 q8:tab dJ=some jS
 q9:tab gC=some kr
 q10:tab mZ=some BE
 q11:tab fj=some i9
 q12:tab hZ=some lJ
 q13:tab rl=some yJ
 q14:tab rm=some yK
 q15:tab pK=some wC
 q16:tab iQ=some mc
 q17:tab pa=some De
 q18:tab fU=some jY
 q19:tab fP=some jV
 q20:tab pL=some wD
 q21:tab cT=some eM
 q22:tab fO=some jU
 q23:tab mY=some rW
 q24:tab pJ=some wB
 q25:tab iB=some wA
 q26:tab fh=some i8
 q27:tab fz=some jx
 q28:tab gD=some kv
 q29:tab nE=some yU
 q30:tab AK=some GN
 q31:tab cL=some eD
 q32:tab rx=some yS
 q33:tab cM=some eE
 q34:tab uv=some BA
 q35:tab fX=some j9
 q36:tab fl=some tX
 q37:tab lz=some yQ
 q38:tab oG=some c_dual_points
 q39:tab ru=some yR
 q40:tab ry=some yT
 q41:tab rk=some yH
 q42:tab fQ=some jW
 q43:tab gY=some lD
 q44:tab eQ=some iH
 q45:tab eP=some iG
 q46:tab fW=some j8
 q47:tab fk=some tW
 q48:tab m6=some BJ
 q49:tab rv=some c_dual_cons
 q50:tab bX=some fc
 q51:tab bY=some fd
 q52:tab AM=some GP
 q53:tab pE=some wn
 q54:tab eW=some iL
 q55:tab bV=some de
 q56:tab eU=some iK
 q57:tab rt=some yP
 q58:tab rA=some c_cone_Gens
 q59:tab bT=some da
 q60:tab kQ=some pm
 q61:tab pP=some wH
 q62:tab ia=some rZ
 q63:tab h9=some rY
 q64:tab aY=some bL
 q65:tab aX=some bJ
 q66:tab sG=some C6
 q67:tab pF=some wq
 q68:tab fS=some c_facetroomref02_Times
 q69:tab g8=some c_facetroomref01_Sum
 q70:tab eR=some c_facetroomref01_Compared
 q71:tab gJ=some c_facetroomref01_Rest
 q72:tab gE=some kw
 q73:tab eT=some iJ
 q74:tab bU=some db
 q75:tab eS=some iI
 q76:tab ux=some BD
 q77:tab pM=some BF
 q78:tab nB=some yG
 q79:tab ct=some dC
 q80:tab nd=some c_cone_checked
 q81:tab rz=some yX
 q82:tab uE=some BR
 q83:tab dg=some c_P_cone_under_add
 q84:tab mX=some rV
 q85:tab oC=some tQ
 q86:tab dF=some dH
 q87:tab jN=some r8
 q88:tab cp=some dz
 q89:tab oj=some tJ
 q90:tab oi=some tH
 q91:tab xf=some C4
 q92:tab lh=some tG
 q93:tab pD=some wm
 q94:tab fC=some jy
 q95:tab fR=some c_facetroomref02_whole
 q96:tab fT=some jX
 q97:tab gZ=some lH
 q98:tab iO=some l8
 q99:tab gH=some kz
 q100:tab iP=some l9
 q101:tab gK=some c_facetroomref01_From
 q102:tab gF=some ky
 q103:tab cq=some dB
 q104:tab bj=some cj
 q105:tab jH=some wt
 q106:tab cG=some gu
 q107:tab cu=some dE
 q108:tab mU=some rT
 q109:tab mh=some wz
 q110:tab gN=some kJ
 q111:tab jm=some c_P_cone_under_cut
 q112:tab iR=some c_P_cone_under_fold
 q113:tab oA=some tO
 q114:tab jl=some nk
 q115:tab uw=some BC
 q116:tab xh=some C7
 q117:tab rf=some yB
 q118:tab rh=some yD
 q119:tab nD=some yN
 q120:tab gI=some kC
 q121:tab du=some fH
 q122:tab cJ=some eB
 q123:tab pS=some BQ
 q124:tab lA=some yV
 q125:tab ft=some mf
 q126:tab nF=some yW
 q127:tab pQ=some BN
 q128:tab pR=some BO
 q129:tab nA=some yE
 q130:tab cS=some eJ
 q131:tab cK=some eC
 q132:tab gO=some c_P_rows_form_put
 q133:tab ri=some yF
 q134:tab pI=some wy
 q135:tab mV=some rU
 q136:tab mQ=some BB
 q137:tab ol=some tK
 q138:tab bf=some bZ
 q139:tab pH=some wx
 q140:tab lV=some qB
 q141:tab xp=some Dc
 q142:tab qZ=some yy
 q143:tab rj=some c_sat_Signs
 q144:tab uD=some BP
 q145:tab re=some yA
 q146:tab xg=some C5
 q147:tab mR=some rR
 q148:tab oB=some tP
 q149:tab cI=some eA
 q150:tab oo=some tM
 q151:tab mS=some rS
 q152:tab ot=some tN
 q153:tab cE=some fI
 q154:tab rg=some yC
 q155:tab iN=some l7
 q156:tab oE=some tU
 q157:tab xn=some Da
 q158:tab xm=some C9
 q159:tab pG=some ww
 q160:tab xq=some Dd
 q161:tab oh=some tF
 q162:tab fy=some pk
 q163:tab rc=some yz
 q164:tab pO=some wF
 q165:tab rr=some yO
 q166:tab xo=some Db
 q167:tab uA=some BI
 q168:tab AN=some GR
 q169:tab oD=some tT
 q170:tab pN=some wE
 q171:tab jM=some nU
 q172:tab jI=some nQ
 q173:tab oF=some tV
 q174:tab xu=some Df
 q175:tab kP=some pj
 q176:tab jJ=some nR
 q177:tab uz=some BH
 q178:tab rp=some yL
 q179:tab oH=some tY
 q180:tab uC=some BM
 q181:tab dV=some im
 q182:tab AL=some GO
 q183:tab gM=some kI
 q184:tab ib=some lM
 q185:tab ic=some lO
 q186:tab uB=some BL
 q187:tab uy=some BG
 q188:tab gW=some rX
 q189:tab cV=some fe
 q190:tab jL=some nT
 q191:tab jK=some nS
 q192:tab rq=some yM
 q193:tab bg=some dL
end Go.Proofs.YteaefaohjlmjdaaGreat.Ev
namespace Go.Proofs.YteaefaohjlmjdaaGreat.Nn
abbrev B:Nat:=18446744073709551616
def val:List Nat->Nat
 | []=>0
 | a :: l=>a+B*val l
def Lim (l:List Nat):Prop:=∀ a∈l,a<B
def E3 (l:List Nat):Prop:=l.getLast? ≠ some 0
def Lim.nil:Lim []:=fun a h=>by cases h
def Lim.cons {a:Nat} {l:List Nat} (h:a<B) (hl:Lim l):Lim (a :: l):=fun b hb=>by
 rcases VF.1 hb with rfl | hb
 ·exact h
 ·exact hl b hb
def Lim.head {a:Nat} {l:List Nat} (h:Lim (a :: l)):a<B:=h a (Vm ..)
def Lim.tail {a:Nat} {l:List Nat} (h:Lim (a :: l)):Lim l:=fun b hb=>h b (Vi _ hb)
def Lim.append {l m:List Nat} (h:Lim l) (h':Lim m):Lim (l++m):=fun b hb=>by
 rcases Vq.1 hb with hb | hb
 ·exact h b hb
 ·exact h' b hb
def Lim.take {l:List Nat} (h:Lim l) (n:Nat):Lim (l.take n):=fun b hb=>h b (WP hb)
def Lim.drop {l:List Nat} (h:Lim l) (n:Nat):Lim (l.drop n):=fun b hb=>h b (XP hb)
def Lim.replicate (n:Nat):Lim (List.replicate n 0):=fun b hb=>by
 rw [XU hb]; decide
def Lim.at {l:List Nat} (h:Lim l) (i:Nat):l.getD i 0<B:=by
 rw [U5];cases hi:l[i]? with
 | none=>show 0<B; decide
 | some a=>exact h a (Vo hi)
def px:∀ (l m:List Nat),val (l++m)=val l+B^l.length*val m
 | [],m=>by simp [val]
 | a :: l,m=>by
  simp only [WV,val,px l m,VP,VG];rw [VV,<- VO,Vw (B^l.length) B];omega
def ul:∀ {l:List Nat},Lim l->val l<B^l.length
 | [],_=>by simp [val]
 | a :: l,h=>by
  have b:=ul h.tail;have ha:=h.head;simp only [val,VP,VG]
  have:B*(val l+1)<=B*B^l.length:=WS B b
  rw [Vw (B^l.length) B];rw [VV] at this;omega
def gw (n:Nat):val (List.replicate n 0)=0:=by
 induction n with
 | zero=>rfl
 | succ n a=>simp [Wu,val,a]
def fg (l:List Nat) (a:Nat):val (l++[a])=val l+B^l.length*a:=by
 rw [px]; simp [val]
def Jm:∀ {l m:List Nat},Lim l->Lim m->l.length=m.length->val l=val m->l=m
 | [],[],_,_,_,_=>rfl
 | [],_ :: _,_,_,h,_=>by simp at h
 | _ :: _,[],_,_,h,_=>by simp at h
 | a :: l,b :: m,h1,h2,h,e=>by
  have ha:=h1.head;have hb:=h2.head;simp only [val] at e;have c:a=b:=by
   have:(a+B*val l) % B=(b+B*val m) % B:=by rw [e]
   rw [XJ,XJ,VE ha,VE hb] at this;exact this
  subst c;have d:val l=val m:=Zp (by decide) (Nat.add_left_cancel e);rw [Jm h1.tail h2.tail (by simpa using h) d]
def zg {l:List Nat} (hn:E3 l) (hne:l≠[]):B^(l.length-1)<=val l:=by
 rcases W5 l with rfl | ⟨b,a,rfl⟩
 ·exact absurd rfl hne
 ·rw [W6] at *;rw [fg];have ha:a≠0:=fun e=>hn (by rw [e]; simp)
  have:B^b.length*1<=B^b.length*a:=WS _ zO
  simp only [Vr,List.length_singleton,W8];omega
def Qv {l m:List Nat} (h1:Lim l) (h2:Lim m) (b:E3 l) (a:E3 m) (e:val l=val m):l=m:=by
 have key:∀ {l m:List Nat},Lim l->E3 m->val l=val m->m.length<=l.length:=by
  intro l m h1 a e;by_cases hm:m=[]
  ·subst hm; simp
  ·have c:=ul h1;have d:=zg a hm
   apply Xz
   intro hlt
   have:B^l.length<=B^(m.length-1):=VI (by decide) zO
   omega
 exact Jm h1 h2 (Xu (key h2 b e.symm) (key h1 a e)) e
def ag (n:Nat):List Nat:=if h:n=0 then [] else n % B :: ag (n / B)
 termination_by n
 decreasing_by exact Y3 zO (by decide)
theorem ca:ag 0=[]:=by unfold ag; rfl
def jv {n:Nat} (h:n≠0):ag n=n % B :: ag (n / B):=by rw [ag,dif_neg h]
def bB (n:Nat):val (ag n)=n:=by
 induction n using Nat.strongRecOn with
 | _ n a =>
  by_cases h:n=0
  ·subst h; rw [ca]; rfl
  ·rw [jv h];simp only [val];rw [a _ (Y3 zO (by decide))]
   have:=XL n B
   omega
def aL (n:Nat):Lim (ag n):=by
 induction n using Nat.strongRecOn with
 | _ n a =>
  by_cases h:n=0
  ·subst h; rw [ca]; exact Lim.nil
  ·rw [jv h];exact Lim.cons (VS _ (by decide)) (a _ (Y3 zO (by decide)))
def dO (n:Nat):E3 (ag n):=by
 induction n using Nat.strongRecOn with
 | _ n a =>
  by_cases h:n=0
  ·subst h; rw [ca]; simp [E3]
  ·rw [jv h];have a:=a _ (Y3 zO (by decide:1<B));unfold E3 at a ⊢;by_cases h2:n / B=0
   ·rw [h2,ca]
    have:n % B=n:=VE (by
     rcases Y6 n B with h | h
     ·exact h
     ·have:=Nat.div_pos h (by decide:0<B); omega)
    rw [this];simp [h]
   ·rw [jv h2] at a ⊢;rw [List.getLast?_cons_cons]; exact a
def sK {l:List Nat} (h:Lim l) (n:E3 l):ag (val l)=l:=Qv (aL _) h (dO _) n (bB _)
def br {n k:Nat} (h:n<B^k):(ag n).length<=k:=by
 by_cases h0:ag n=[]
 ·rw [h0]; simp
 ·have g:=zg (dO n) h0;rw [bB] at g
  apply Xz
  intro hlt
  have:B^k<=B^((ag n).length-1):=VI (by decide) zO
  omega
def ii (n:Nat):n<B^(ag n).length:=by
 have:=ul (aL n)
 rw [bB] at this; exact this
def limbs_nil {n:Nat}:ag n=[] ↔ n=0:=by
 constructor
 ·intro h
  have:=bB n
  rw [h] at this
  simpa [val] using this.symm
 ·rintro rfl; exact ca
def dS (l:List Nat):List Nat:=(l.reverse.dropWhile (· == 0)).reverse
def dy (l:List Nat):dS (l++[0])=dS l:=by simp [dS]
def iy {l:List Nat} {a:Nat} (h:a≠0):dS (l++[a])=l++[a]:=by simp [dS,h]
theorem wR:dS []=[]:=rfl
def KS {l:List Nat} (h:E3 l):dS l=l:=by
 rcases W5 l with rfl | ⟨b,a,rfl⟩
 ·rfl
 ·rw [W6] at *;exact iy fun e=>h (by rw [e]; simp)
def zR:∀ (n:Nat) (l:List Nat),l.length=n->Lim l->dS l=ag (val l)
 | 0,l,hl,_=>by
  have:l=[]:=VB hl
  subst this;rw [wR]; show []=ag 0; rw [ca]
 | n+1,l,hl,h=>by
  rcases W5 l with rfl | ⟨b,a,rfl⟩
  ·simp at hl
  ·rw [W6] at *;have c:b.length=n:=by simpa using hl
   have d:Lim b:=fun x hx=>h x (Wg _ hx);by_cases ha:a=0
   ·subst ha;rw [dy,zR n b c d,fg]; simp
   ·rw [iy ha,sK h];unfold E3;simp [ha]
def dR {l:List Nat} (h:Lim l):dS l=ag (val l):=zR _ l rfl h
end Go.Proofs.YteaefaohjlmjdaaGreat.Nn
namespace Go.Proofs.YteaefaohjlmjdaaGreat.Ev
open Go Nn
abbrev Lb (H:Heap) (v:AV) (l:List Nat):Prop:=y8 bp ae H v l
abbrev bA (H:Heap) (v:AV) (n:Nat):Prop:=Lb H v (ag n)
def Sm (n:Nat):Prop:=(ag n).length<1099511627776
section
variable {tab:Nat->Option az} {H:Heap} {s:AV} {l:List Nat}
def cW (hs:Lb H s l) {i:Nat} (hi:i<l.length):bc H none (aA s i)=some (.int .u64 (l.getD i 0:Nat)):=by
 obtain ⟨c,hc,h⟩:=SlV.at1 hs (i:=i) (a:=l.getD i 0) (by simp [hi,U5]);rw [h,hc]
def o0 (C:Code tab) (j:Wf H) (hs:Lb H s l) (e:l.length<4611686018427387904) :
  Ans tab (.fn nD [s]) H fun v H'=>v=.int .i64 (if l.getLast? = some 0 then 8 else 0)/\Kp H H':=by
 refine cY C.q119 zU fun T hl c=>?_;rcases W5 l with rfl | ⟨b,a,rfl⟩
 ·have d:lenV s=some (.int .i64 0):=hs.lenV;refine zW (aE hl c d) ?_;exact ⟨rfl,zK⟩
 ·rw [W6] at *;have d:lenV s=some (.int .i64 ((b.length:Int)+1)):=by have:=hs.lenV; simpa using this
  have i:IntKind.i64.wrap ((b.length:Int)+1-1)=(b.length:Int):=by rw [wrap_i64] <;> simp at e <;> omega
  have g:(0:Int)<(b.length:Int)+1:=zO;have hi:=SlV.idx1 hs .i64 b.length (by simp);have f:bc H none (aA s b.length)=some (.int .u64 (a:Nat)):=by rw [cW hs (by simp)]; simp
  refine zW (fE hl c d i g hi f) ?_;refine iteH.split (fun h=>?_) fun h=>?_
  ·refine zW (aw hl c) ?_;exact ⟨by rw [if_pos]; simp; omega,zK⟩
  ·refine zW (aw hl c) ?_;exact ⟨by rw [if_neg]; simp; omega,zK⟩
def qW (C:Code tab) (q:Wf H) {ls:List (List Nat)} {ty:Nat} (hs:y8 (tx (bz bp) ae) ty H s ls) (p:ls.length<4611686018427387904) (hc:∀ c∈ls,c.length<4611686018427387904/\c.getLast? ≠ some 0) :
  Ans tab (.fn oD [s]) H fun v H'=>v=.int .i64 0/\Kp H H':=by
 refine cY C.q169 zU fun T hl d=>?_;refine zW (aE hl d hs.lenV) ?_;refine aq H [] (fun _ _ _=>True) (a:=0) (N:=ls.length) rfl (by refine zW (aw hl d) ?_; rfl) (zV (aw hl d)) (Vk _) zO (by simp only [U4,hl]; rfl) rfl (fun _ _ _ _ h=>h) zK trivial ?_ ?_
 ·intro j T1 i _ hj b l g e _;have w1:=e.wf;have r:=e.le;have o:ad T1 6=s:=(g.at_ 6 zU).trans (zV (aw hl d));obtain ⟨c,k,n⟩:=SlV.at1 (hs.mono e.sub) (U7 hj);have m:=SlV.idx1 hs .i64 j hj;have f:=hc _ (U9 hj);simp only [U4,hl] at b;refine zW (bO b o l m n) ?_;refine AnsH.eq (o0 C zF k f.1) fun H2 h2=>?_;rw [if_neg f.2];refine zW b ?_;have k2:Kp H H2:=Kp.trans zK h2;have t:=k2.le;exact zK
 ·intro T1 i b g e _;simp only [U4,hl] at b;refine zW b ?_;exact zK
def qv (C:Code tab) (c:Wf H) (hs:Lb H s l):Ans tab (.fn cG [s]) H fun v H'=>Lb H' v l/\Kp H H':=by
 refine cY C.q106 zU fun T hl a=>?_;obtain ⟨b,e,hr⟩:=hs.clip .i64 .i64;have e':bQ 1 s none (some (.int .i64 (l.length:Int))) (some (.int .i64 (l.length:Int)))=some b:=e;refine zW (aW hl a hs.lenV e') ?_;exact ⟨hr.mono (Sub.bump H _),zK⟩
def vH (C:Code tab) (D:Wf H) (hs:Lb H s l) (y:l.length<4611686018427387904) :
  Ans tab (.fn pM [s]) H fun v H'=>Lb H' v (dS l)/\Kp H H':=by
 refine cY C.q77 zU fun T hl j=>?_;refine zW (aw hl j) ?_;refine aP H [0] (fun k vs H'=>∃ v,vs=[v]/\Lb H' v (l.take k)/\dS (l.take k)=dS l/\k<=l.length) l.length (by simp only [U4]; exact hl) rfl zK ⟨s,by exact zV (aw hl j),by rw [VC]; exact hs,by rw [VC],Vc _⟩ ?_;rintro k T1 f c B m ⟨v,g,hr,d,z⟩;have w1:=m.wf;have E:=m.le;simp only [Vb,Vf,Vd,and_true] at g;rcases W5 (l.take k) with h0 | ⟨b,a,h0⟩
 ·rw [h0] at hr d;have h:lenV v=some (.int .i64 0):=hr.lenV;refine zW (aE c g h) ?_;refine AnsH.use (qv C zF (hr.mono (Sub.bump f _))) ?_;rintro v2 H2 ⟨h1,h2⟩;have k2:Kp H H2:=Kp.trans zK h2;have x:=k2.le;rw [<- d];refine zW c ?_;exact ⟨h1,zK⟩
 ·rw [W6] at h0;have A:k=b.length+1:=by have:=congrArg List.length h0; simp at this; omega
  have n:l.take b.length=b:=by
   have:=congrArg (List.take b.length) h0
   rw [Xi,VZ zO] at this
   simpa using this
  rw [h0] at hr d;have h:lenV v=some (.int .i64 ((b.length:Int)+1)):=by have:=hr.lenV; simpa using this
  have u:(0:Int)<(b.length:Int)+1:=zO;have r:=SlV.idx1 hr .i64 b.length (by simp);have t:bc f none (aA v b.length)=some (.int .u64 (a:Nat)):=by rw [cW hr (by simp)]; simp
  have o:IntKind.i64.wrap ((b.length:Int)+1-1)=(b.length:Int):=by rw [wrap_i64] <;> omega
  refine zW (fE c g h u r t o) ?_;refine iteH.split (fun ha=>?_) fun ha=>?_
  ·obtain ⟨i,e,w⟩:=hr.hi .i64 b.length (by simp);have e':bQ 1 v none (some (.int .i64 (b.length:Int))) none=some i:=e;have q:a=0:=zO;subst q;refine zW (bO c g h o e') ?_;refine ⟨zK,b.length,zO,i,rfl,?_,?_,zO⟩
   ·rw [n];have h3:Lb f i b:=by simpa using w
    exact h3.mono (Sub.bump f _)
   ·rw [n,<- d,dy]
  ·have p:a≠0:=zO;refine zW (aw c g) ?_;refine AnsH.use (qv C zF (hr.mono (Sub.bump f _))) ?_;rintro v2 H2 ⟨h1,h2⟩;have k2:Kp H H2:=Kp.trans zK h2;have x:=k2.le;rw [iy p] at d;rw [<- d];refine zW c ?_;exact ⟨h1,zK⟩
def Ij (C:Code tab) (b:Wf H) {n:Nat} (hn:n<B):Ans tab (.fn AM [.int .u64 (n:Int)]) H fun v H'=>bA H' v n/\Sm n/\Kp H H':=by
 refine cY C.q52 zU fun T hl a=>?_;refine zW (aw hl a) ?_;have k1:Kp H ((H.up 5).put (H.next+2) (.cells [.int .u64 (n:Int)] ae true)):=zK;have c:=k1.le;have hs:Lb ((H.up 5).put (H.next+2) (.cells [.int .u64 (n:Int)] ae true)) (.own (H.next+2) 0 1 1 1 true) [n] :=
  (show Own (bz bp) ae H _ _ true _ [n] from ⟨_,rfl,ap _ _ _,Cells.one ⟨_,rfl,rfl⟩,zO⟩).sl
 refine AnsH.use (vH C k1.wf hs (by simp)) ?_;rintro v H2 ⟨h1,h2⟩;have e:dS [n]=ag n:=by rw [dR (Lim.cons hn Lim.nil)]; simp [val]
 rw [e] at h1;refine zW (aw hl a) ?_;refine ⟨h1,?_,k1.trans h2⟩
 have:=br (n:=n) (k:=1) (by simpa using hn)
 unfold Sm; omega
def fK (C:Code tab) (d:Wf H) (hs:Lb H s l) (b:Bool) :
  Ans tab (.fn pE [.bool b,s]) H fun v H'=>v=.agg [.bool (b && decide (0<l.length)),s]/\Kp H H':=by
 refine bk C.q53 zU fun T hl a c=>?_;have e:=hs.one;cases b
 ·refine zW (aW hl a c hs.lenV) ?_;exact zK
 ·refine zW (aW hl a c hs.lenV) ?_;exact zK
end
def dK (f:Nat->Nat->Nat->Nat × Nat) (a b:List Nat):Nat->List Nat × Nat
 | 0=>([],0)
 | k+1=>((dK f a b k).1++[(f (a.getD k 0) (b.getD k 0) (dK f a b k).2).1],(f (a.getD k 0) (b.getD k 0) (dK f a b k).2).2)
def iF (f:Nat->Nat->Nat->Nat × Nat) (a b:List Nat):∀ k,(dK f a b k).1.length=k
 | 0=>rfl
 | k+1=>by simp [dK,iF f a b k]
section
variable {tab:Nat->Option az} {H:Heap}
def Lx (C:Code tab) (c:Wf H) {sa sb:AV} (ha:One sa) (hb:One sb) :
  Ans tab (.fn rp [sa,sb]) H fun v H'=>v=.fn (.func gW) [] [.ptr H.next 0,.ptr (H.next+1) 0]/\H'.get H.next=some (.cells [sa] aK true)/\H'.get (H.next+1)=some (.cells [sb] aK true)/\H.next+2<=H'.next/\Kp H H':=by
 refine bk C.q178 zU fun T hl a b=>?_;refine zW (aE hl a b) ?_;exact ⟨zO,zK⟩
def Cb (C:Code tab) {H0:Heap} {r s bb:Nat} {a b:List Nat} {sa sb:AV} (J:Nat->Heap->Prop) (B:a.length<4611686018427387904) (D:b.length<4611686018427387904) {M:Nat} (z:M=max a.length b.length)
  (A:Kp H0 H) (h0:J 0 H) (w:∀ k H m,J k H->J k (H.up m)) (hA:∀ k H,J k H->H.get s=some (.cells [sa] aK true)/\Lb H sa a/\H.get bb=some (.cells [sb] aK true)/\Lb H sb b)
  (hr:∀ k H,k<M->Kp H0 H->J k H->Ans tab (.round r [.int .u64 (a.getD k 0:Nat),.int .u64 (b.getD k 0:Nat)]) H fun v H'=>v=.bool true/\Kp H0 H'/\J (k+1) H') :
  Ans tab (.ent gW [.loopv r,.ptr s 0,.ptr bb 0]) H fun _ H'=>Kp H0 H'/\J M H':=by
 refine Uy C.q188 zU fun T hl i n o=>?_;obtain ⟨q1,q2,q3,q4⟩:=hA _ _ h0;have y:Lz (.int .i64 (a.length:Int)) (.int .i64 (b.length:Int))=some (.int .i64 (M:Int)):=by rw [Ek]; congr 2; split <;> omega
 refine zW (jB hl i n o q1 q3 q2.lenV q4.lenV y) ?_;refine aq H0 [] (fun j _ H'=>J j H') (a:=0) (N:=M) rfl (by refine zW (aW hl i n o) ?_; rfl) (zV (aW hl i n o)) (Vk _) zO (by simp only [U4,hl]; rfl) rfl (fun j _ H' m h=>w _ _ _ h) zK (w _ _ _ h0) ?_ ?_
 ·intro j T1 x _ hj c d q u p;simp only [U4,hl] at c;have t0:ad T1 0=.loopv r:=(q.at_ 0 zU).trans (zV (aw hl i));have t1:ad T1 1=.ptr s 0:=(q.at_ 1 zU).trans (zV (bO hl i n o n));have g:ad T1 2=.ptr bb 0:=(q.at_ 2 zU).trans (zV (bO hl i n o o));obtain ⟨q1,q2,q3,q4⟩:=hA _ _ p;have t:∀ (l:List Nat),¬ j<l.length->l.getD j 0=0:=fun l h=>by rw [U5,VM zO]; rfl
  have e:∀ m,Ans tab (.round r [.int .u64 (a.getD j 0:Nat),.int .u64 (b.getD j 0:Nat)]) (x.up m) fun v H'=>v=.bool true/\Kp H0 H'/\J (j+1) H':=fun m=>hr j _ hj (u.up m) (w _ _ _ p);refine zW (jB c t0 t1 g d q1 q3 q2.lenV q4.lenV) ?_;refine iteH.split (fun h1=>?_) fun h1=>?_
  ·have x1:=SlV.idx1 q2 .i64 j h1;have d1:=cW q2 h1;refine zW (lP c t0 t1 g d q1 q3 q2.lenV q4.lenV x1 d1) ?_;refine iteH.split (fun h2=>?_) fun h2=>?_
   ·have x2:=SlV.idx1 q4 .i64 j h2;have d2:=cW q4 h2;refine zW (lP c t0 t1 g d q1 q3 q2.lenV q4.lenV x2 d2) ?_;refine AnsH.eq (e _) fun H2 ⟨k2,f⟩=>?_;refine zW c ?_;exact ⟨zK,f⟩
   ·rw [t b h2] at e;refine zW (fE c t0 t1 g d q1 q3) ?_;refine AnsH.eq (e _) fun H2 ⟨k2,f⟩=>?_;refine zW c ?_;exact ⟨zK,f⟩
  ·rw [t a h1] at e;refine zW (jB c t0 t1 g d q1 q3 q2.lenV q4.lenV) ?_;refine iteH.split (fun h2=>?_) fun h2=>?_
   ·have x2:=SlV.idx1 q4 .i64 j h2;have d2:=cW q4 h2;refine zW (lP c t0 t1 g d q1 q3 q2.lenV q4.lenV x2 d2) ?_;refine AnsH.eq (e _) fun H2 ⟨k2,f⟩=>?_;refine zW c ?_;exact ⟨zK,f⟩
   ·rw [t b h2] at e;refine zW (fE c t0 t1 g d q1 q3) ?_;refine AnsH.eq (e _) fun H2 ⟨k2,f⟩=>?_;refine zW c ?_;exact ⟨zK,f⟩
 ·intro T1 x c q u p;refine zW c ?_;exact ⟨u,p⟩
def ut {f:Src} {ps:List Nat} {a body:ACode} {T:Tm} {Q:Ex->Tm->Heap->Prop} {fi:Nat} {args:List AV} (b:ji (f.ev T) [.loopv H.next]=some (.fn fi args))
  (h:Ans tab (.ent fi args) ((H.up 1).put H.next (.loop T ps a body .ready none)) fun _ H2 =>
   (H2.get H.next=some (.loop T ps a body .ready none)/\Q .nrm T (H2.kill H.next))\/(H2.get H.next=some (.loop T ps a body .done (some .ret))/\Q .ret T (H2.kill H.next)) \/
   (∃ id,H2.get H.next=some (.loop T ps a body .done (some (.exit id)))/\Q (.exit id) T (H2.kill H.next))):rangeH tab f ps a body () () T H Q ():=rangeH.use b h
def AJ (C:Code tab) (hw:Wf H) {sa sb:AV} {a b:List Nat} (ha:Lb H sa a) (hb:Lb H sb b) (aa:a.length<4398046511104) (ab:b.length<4398046511104) (P:Lim a) (Q:Lim b) {fi:Nat} {f:Nat->Nat->Nat->Nat × Nat}
  (hg:∀ H x y c,x<B->y<B->c<=1->Ans tab (.fn fi [.int .u64 (x:Nat),.int .u64 (y:Nat),.int .u64 (c:Nat)]) H fun v H'=>v=.tup [.int .u64 ((f x y c).1:Nat),.int .u64 ((f x y c).2:Nat)]/\H'=H) (V:∀ x y c,x<B->y<B->c<=1->(f x y c).2<=1) :
  Ans tab (.fn pN [sa,sb,.fn (.func fi) [] []]) H fun v H'=>∃ o,v=.tup [o,.int .u64 ((dK f a b (max a.length b.length)).2:Nat)]/\Bl (bz bp) ae H H' o (dK f a b (max a.length b.length)).1/\Kp H H':=by
 refine ni C.q170 zU fun T hl j l m=>?_;refine zW (aW hl j l m) ?_;have k1:Kp H ((((H.up 6).put H.next (.cells [.fn (.func fi) [] []] aJ true)).put (H.next+1) (.cells [.nilSl] aK true)).put (H.next+1+1) (.cells [.int .u64 0] ae true)):=zK;have ah:=k1.le;refine AnsH.use (Lx C k1.wf ha.one hb.one) ?_;rintro v H2 ⟨rfl,G,I,Y,t⟩;have k2:=k1.trans t;have p5:H2.get H.next=some (.cells [.fn (.func fi) [] []] aJ true):=t.get (cy)
 have p6:H2.get (H.next+1)=some (.cells [.nilSl] aK true):=t.get (cy);have p7:H2.get (H.next+1+1)=some (.cells [.int .u64 0] ae true):=t.get (cy);have X:((((H.up 6).put H.next (.cells [.fn (.func fi) [] []] aJ true)).put (H.next+1) (.cells [.nilSl] aK true)).put (H.next+1+1) (.cells [.int .u64 0] ae true)).next=H.next+6:=rfl
 rw [X] at G I Y ⊢;refine zW (aW hl j l m) ?_;refine ut (fi:=gW) (args:=[.loopv H2.next,.ptr (H.next+6) 0,.ptr (H.next+6+1) 0]) (by refine zW (aW hl j l m) ?_; rfl) ?_
 generalize he:Ent.loop _ _ _ _ _ _=e0
 have A:Kp H ((H2.up 1).put H2.next e0):=zK;have ai:=A.le;refine (Cb C (H0:=H) (a:=a) (b:=b) (sa:=sa) (sb:=sb) (M:=max a.length b.length) (fun k H'=>H'.get H2.next=some e0/\H'.get H.next=some (.cells [.fn (.func fi) [] []] aJ true) /\
   (∃ o,H'.get (H.next+1)=some (.cells [o] aK true)/\Bl (bz bp) ae H H' o (dK f a b k).1/\∀ n,o ≠ .own (H.next+1+1) 0 n n 1 false)/\H'.get (H.next+1+1)=some (.cells [.int .u64 ((dK f a b k).2:Nat)] ae true)/\(dK f a b k).2<=1 /\
   H'.get (H.next+6)=some (.cells [sa] aK true)/\H'.get (H.next+6+1)=some (.cells [sb] aK true)/\Lb H' sa a/\Lb H' sb b) zO zO rfl A
  ⟨by exact cy,by exact zV p5,⟨.nilSl,by exact zV p6,Bl.nil,fun n h=>by cases h⟩,by refine zW p7 ?_; rfl,Vk _,by exact zV G,by exact zV I,ha.mono A.sub,hb.mono A.sub⟩ (fun _ _ _ h=>h) (fun k H' h=>⟨h.2.2.2.2.2.1,h.2.2.2.2.2.2.2.1,h.2.2.2.2.2.2.1,h.2.2.2.2.2.2.2.2⟩) ?_).mono ?_
 ·rintro k d hk K ⟨g,r,⟨o,q,s,F⟩,w,E,L,N,-,-⟩;rw [<- he] at g;refine uP g rfl ?_;refine zW (jC hl j l m g r q w) ?_;refine AnsH.eq (hg _ _ _ _ (P.at k) (Q.at k) E) fun H3 e3=>?_;subst e3;have hlt:=K.wf _ _ g;have ad:=K.le;have hz:=V _ _ _ (P.at k) (Q.at k) E;refine zW (jC hl j l m g r q w) ?_
  generalize J:Ent.loop _ _ _ _ LoopState.busy none=p
  generalize u:f (a.getD k 0) (b.getD k 0) (dK f a b k).2=z
  have O:Kp H (((d.up 13).put H2.next p).put (H.next+2) (.cells [.int .u64 (z.2:Nat)] ae true)):=zK;have aj:=O.le;have q1:Bl (bz bp) ae H (((d.up 13).put H2.next p).put (H.next+2) (.cells [.int .u64 (z.2:Nat)] ae true)) o (dK f a b k).1 :=
   (Bl.put (show Bl _ _ _ (d.up 13) _ _ from s) (s.ne g fun cs h=>by cases h) (SubT.nil _ _)).put F (SubT.nil _ _)
  have af:=iF f a b k;obtain ⟨n,i,S,q2,k5,Z,hp⟩:=q1.push (ty2:=ae) (bytes:=8) (id:=d.next+16) (id2:=d.next+15) (k:=5) (cs:=[.int .u64 (z.1:Nat)]) (a:=z.1) (fun h=>by cases h) O ⟨_,rfl,rfl⟩
   (by show d.next+13<=_; omega) (by show _<d.next+13+5; omega) (by show d.next+13<=_; omega) (by show _<d.next+13+5; omega) zO zO zO
  have U:cC ((((d.up 18).put H2.next p).put (H.next+2) (.cells [.int .u64 (z.2:Nat)] ae true)).put (d.next+15) (.cells [.int .u64 (z.1:Nat)] ae true)) (d.next+16) 1 8 ae o (.own (d.next+15) 0 1 1 1 true)=some (.own (d.next+16) 0 n n 1 false,i):=S;have r6:i.get (H.next+1)=some (.cells [o] aK true):=hp (H.next+1) (.cells [o] aK true) (zV q) (q1.ne (e:=.cells [o] aK true) (zV q) fun cs h=>by injection h with _ h2; exact absurd h2 zU);refine zW (dx hl j l m U r6) ?_;have R:∀ {o':AV} {cs:List AV},Ent.cells [o'] aK true ≠ .cells cs ae true:=fun h=>by injection h with _ h2; exact absurd h2 zU
  have r0:i.get H2.next=some p:=hp H2.next p (cy) (q1.ne (e:=p) (cy) fun cs h=>by rw [<- J] at h; cases h)
  have r5:i.get H.next=some (.cells [.fn (.func fi) [] []] aJ true):=hp H.next _ (zV r) (q1.ne (e:=.cells [.fn (.func fi) [] []] aJ true) (zV r) fun cs h=>by injection h with _ h2; exact absurd h2 zU)
  have r7:i.get (H.next+2)=some (.cells [.int .u64 (z.2:Nat)] ae true):=hp (H.next+2) _ (cy) F;have ra:i.get (H.next+6)=some (.cells [sa] aK true):=hp (H.next+6) (.cells [sa] aK true) (zV L) (q1.ne (e:=.cells [sa] aK true) (zV L) fun cs=>R);have rb:i.get (H.next+7)=some (.cells [sb] aK true):=hp (H.next+7) (.cells [sb] aK true) (zV N) (q1.ne (e:=.cells [sb] aK true) (zV N) fun cs=>R);have ag:i.next=d.next+18:=Z
  have D:Kp H ((i.put (H.next+1) (.cells [.own (d.next+16) 0 n n 1 false] aK true)).put H2.next e0):=zK;have al:=D.le;rw [Ar];refine zW (fE J he r0 r5 r7 ra rb) ?_;refine ⟨D,⟨_,rfl,?_,fun n' h=>by injection h; omega⟩,?_,?_,ha.mono D.sub,hb.mono D.sub⟩
  ·have:(dK f a b (k+1)).1=(dK f a b k).1++[z.1]:=by rw [<- u]; rfl
   rw [this];exact (q2.put (fun n' h=>by injection h; omega) (SubT.nil _ _)).put (fun n' h=>by injection h; omega) (SubT.nil _ _)
  ·rw [<- u]; rfl
  ·have:(dK f a b (k+1)).2=z.2:=by rw [<- u]; rfl
   rw [this,<- u]; exact hz
 ·rintro _ H' ⟨W,g,r,⟨o,q,s,F⟩,w,E,-⟩;have hlt:=W.wf _ _ g;refine .inl ⟨g,?_⟩;refine zW (dx hl j l m q w) ?_;exact ⟨o,rfl,s.kill (s.ne g fun cs h=>by rw [<- he] at h; cases h) (SubT.nil _ _),zK⟩
end
def dl (l:List Nat) (k:Nat):val (l.take (k+1))=val (l.take k)+B^k*l.getD k 0:=by
 by_cases h:k<l.length
 ·rw [Ve h,fg,Vx,VZ (Xd h)];simp [U5,h]
 ·rw [Vt zO,Vt zO,U5,VM zO]
  simp
def fD (x y c:Nat):Nat × Nat:=((x+y+c) % B,(x+y+c) / B)
def jR (x y c:Nat):Nat × Nat:=((x+B-y-c) % B,if x<y+c then 1 else 0)
def zm (x y c:Nat) (hx:x<B) (hy:y<B) (hc:c<=1):(fD x y c).2<=1:=by
 simp only [fD,B] at *; omega
def vV (x y c:Nat):(jR x y c).2<=1:=by
 unfold jR; simp only; split <;> omega
def zj {f:Nat->Nat->Nat->Nat × Nat} {a b:List Nat} (d:Lim a) (e:Lim b) (h:∀ x y c,x<B->y<B->c<=1->(f x y c).2<=1):∀ k,(dK f a b k).2<=1
 | 0=>Vk _
 | k+1=>h _ _ _ (d.at k) (e.at k) (zj d e h k)
def AZ {f:Nat->Nat->Nat->Nat × Nat} {a b:List Nat} (h:∀ x y c,(f x y c).1<B):∀ k,Lim (dK f a b k).1
 | 0=>Lim.nil
 | k+1=>(AZ h k).append (Lim.cons (h _ _ _) Lim.nil)
def Kk {a b:List Nat}:∀ k,val (dK fD a b k).1+B^k*(dK fD a b k).2=val (a.take k)+val (b.take k)
 | 0=>by simp [dK,val]
 | k+1=>by
  have c:=Kk (a:=a) (b:=b) k;rw [dl,dl];simp only [dK,fg,iF]
  generalize dK fD a b k=r at c ⊢
  generalize a.getD k 0=x
  generalize b.getD k 0=y
  simp only [fD];have e:=Wh (x+y+r.2) B
  have:B^(k+1)*((x+y+r.2) / B)=B^k*(B*((x+y+r.2) / B)):=by rw [VG,VO]
  rw [this]
  generalize B*((x+y+r.2) / B)=q at *
  generalize (x+y+r.2) % B=m at *
  have:B^k*(x+y+r.2)=B^k*q+B^k*m:=by rw [<- e,VV]
  rw [VV,VV] at this;omega
def Jq {a b:List Nat} (d:Lim a) (e:Lim b):∀ k,val (dK jR a b k).1+val (b.take k)=val (a.take k)+B^k*(dK jR a b k).2
 | 0=>by simp [dK,val]
 | k+1=>by
  have f:=Jq d e k;have hc:(dK jR a b k).2<=1:=zj d e (fun x y c _ _ _=>vV x y c) k;rw [dl,dl];simp only [dK,fg,iF];have hx:=d.at k;have hy:=e.at k
  generalize dK jR a b k=r at f hc ⊢
  generalize a.getD k 0=x at *
  generalize b.getD k 0=y at *
  have key:(jR x y r.2).1+y+r.2=x+B*(jR x y r.2).2:=by
   clear f;simp only [jR,B] at *;split <;> omega
  have:B^(k+1)*(jR x y r.2).2=B^k*(B*(jR x y r.2).2):=by rw [VG,VO]
  rw [this]
  have:=congrArg (B^k * ·) key
  simp only [VV] at this
  generalize B^k*(B*(jR x y r.2).2)=q at *
  generalize B^k*(jR x y r.2).1=m at *
  omega
section
variable {tab:Nat->Option az} {H:Heap}
def jA (C:Code tab) (H:Heap) (x y c:Nat) (_:x<B) (_:y<B) (hc:c<=1):Ans tab (.fn jM [.int .u64 (x:Nat),.int .u64 (y:Nat),.int .u64 (c:Nat)]) H fun v H'=>v=.tup [.int .u64 ((fD x y c).1:Nat),.int .u64 ((fD x y c).2:Nat)]/\H'=H :=
 zt C.q171 rfl rfl (v:=.tup [.int .u64 ((fD x y c).1:Nat),.int .u64 ((fD x y c).2:Nat)]) (H':=H) (by
  show (if c<=1 then _ else _)=_;rw [if_pos hc]; rfl) ⟨rfl,rfl⟩
def xP (C:Code tab) (H:Heap) (x y c:Nat) (_:x<B) (_:y<B) (hc:c<=1):Ans tab (.fn jI [.int .u64 (x:Nat),.int .u64 (y:Nat),.int .u64 (c:Nat)]) H fun v H'=>v=.tup [.int .u64 ((jR x y c).1:Nat),.int .u64 ((jR x y c).2:Nat)]/\H'=H :=
 zt C.q172 rfl rfl (v:=.tup [.int .u64 ((jR x y c).1:Nat),.int .u64 ((jR x y c).2:Nat)]) (H':=H) (by
  show (if c<=1 then _ else _)=_;rw [if_pos hc]; rfl) ⟨rfl,rfl⟩
def Cc {H c:Heap} {b ty t1:Nat} {α:Type} {E:fF α} {x y:AV} {l m:List α} (hx:SlV E t1 H x l) (hy:SlV E t1 H y m) (hs:Sub H c) (hg:c.get b=some (.cells [x,y] ty true)):y8 (tx E t1) ty c (.own b 0 2 2 1 true) [l,m] :=
 ⟨[x,y],Rd.own hg rfl (Vc _),fun _ _ _ _ _ _ e=>by cases e; exact ⟨_,_,hg⟩,rfl,fun i a hi=>by
  match i with
  | 0=>simp at hi; subst hi; exact ⟨x,rfl,hx.mono hs⟩
  | 1=>simp at hi; subst hi; exact ⟨y,rfl,hy.mono hs⟩
  | i+2=>simp at hi⟩
def SG {H c:Heap} {b ty t1:Nat} {α:Type} {E:fF α} {x:AV} {l:List α} (hx:SlV E t1 H x l) (hs:Sub H c) (hg:c.get b=some (.cells [x] ty true)):y8 (tx E t1) ty c (.own b 0 1 1 1 true) [l] :=
 ⟨[x],Rd.own hg rfl (Vc _),fun _ _ _ _ _ _ e=>by cases e; exact ⟨_,_,hg⟩,rfl,fun i a hi=>by
  match i with
  | 0=>simp at hi; subst hi; exact ⟨x,rfl,hx.mono hs⟩
  | i+1=>simp at hi⟩
def tw (a b:List Nat):a.take (max a.length b.length)=a:=Vt zO
def qK (a b:List Nat):b.take (max a.length b.length)=b:=Vt zO
def JF (C:Code tab) (G:Wf H) {sa sb:AV} {x y:Nat} (ha:bA H sa x) (hb:bA H sb y) (hx:Sm x) (hy:Sm y) :
  Ans tab (.fn xn [sa,sb]) H fun v H'=>∃ o,v=.tup [o,.int .i64 0]/\bA H' o (x+y)/\Kp H H':=by
 refine bk C.q157 zU fun T hl g i=>?_;have L:=ha.one;have M:=hb.one;unfold Sm at hx hy;refine zW (aE hl g i) ?_;have k1:Kp H ((H.up 7).put (H.next+4) (.cells [sa,sb] aK true)):=zK;have J:=k1.le;refine AnsH.eq (qW C k1.wf (Cc ha hb k1.sub (ap _ _ _)) (by simp) fun c hc=>?_) fun H2 u=>?_
 ·simp at hc;rcases hc with rfl | rfl
  ·exact ⟨zO,dO x⟩
  ·exact ⟨zO,dO y⟩
 have k2:=k1.trans u;have N:=k2.wf;refine zW (aE hl g i) ?_;refine AnsH.use (AJ C zF (ha.mono (k2.up _).sub) (hb.mono (k2.up _).sub) zO zO (aL x) (aL y) (f:=fD) (jA C) zm) ?_;rintro v d ⟨o,rfl,D,j⟩;obtain ⟨I,_,O⟩:=zT H zK j;have z:=iF fD (ag x) (ag y) (max (ag x).length (ag y).length);have hval:=Kk (a:=ag x) (b:=ag y) (max (ag x).length (ag y).length);rw [tw,qK,bB,bB] at hval;have A:Lim (dK fD (ag x) (ag y) (max (ag x).length (ag y).length)).1:=AZ (fun x y c=>VS _ zU) _;have E:=zj (aL x) (aL y) zm (max (ag x).length (ag y).length)
 generalize dK fD (ag x) (ag y) (max (ag x).length (ag y).length)=r at *
 refine zW (aE hl g i) ?_;obtain ⟨n,p,s,q2,l,F,-⟩:=D.push (ty2:=ae) (bytes:=8) (id:=d.next+3) (id2:=d.next+2) (k:=7) (cs:=[.int .u64 (r.2:Nat)]) (a:=r.2) (fun h=>by cases h) j ⟨_,rfl,rfl⟩ zO zO zO zO zO zO zO;have t:cC ((d.up 7).put (d.next+2) (.cells [.int .u64 (r.2:Nat)] ae true)) (d.next+3) 1 8 ae o (.own (d.next+2) 0 1 1 1 true)=some (.own (d.next+3) 0 n n 1 false,p):=s;refine zW (aW hl g i t) ?_;have P:=l.wf;refine AnsH.use (vH C zF q2.sl zS) ?_;rintro v q ⟨h5,w⟩;have m:Kp H q:=((k2.up _).trans l).trans w;have K:=m.le;have e:dS (r.1++[r.2])=ag (x+y):=by
  rw [dR (A.append (Lim.cons (by unfold B; omega) Lim.nil)),fg,z,hval]
 rw [e] at h5;refine zW (aE hl g i) ?_;exact ⟨v,rfl,h5,m⟩
def Eg (C:Code tab) (t:Wf H) {sa sb:AV} {x y:Nat} (ha:bA H sa x) (hb:bA H sb y) (hx:Sm x) (hy:Sm y) :
  Ans tab (.fn xm [sa,sb]) H fun v H'=>Kp H H'/\if y<=x then ∃ o,v=.tup [o,.int .i64 0]/\bA H' o (x-y) else v=.tup [.nilSl,.int .i64 10]:=by
 refine bk C.q158 zU fun T hl a b=>?_;have z:=ha.one;have A:=hb.one;unfold Sm at hx hy;refine zW (aE hl a b) ?_;have k1:Kp H ((H.up 7).put (H.next+4) (.cells [sa,sb] aK true)):=zK;have w:=k1.le;refine AnsH.eq (qW C k1.wf (Cc ha hb k1.sub (ap _ _ _)) (by simp) fun c hc=>?_) fun H2 i=>?_
 ·simp at hc;rcases hc with rfl | rfl
  ·exact ⟨zO,dO x⟩
  ·exact ⟨zO,dO y⟩
 have k2:=k1.trans i;have B:=k2.wf;refine zW (aE hl a b) ?_;refine AnsH.use (AJ C zF (ha.mono (k2.up _).sub) (hb.mono (k2.up _).sub) zO zO (aL x) (aL y) (f:=jR) (xP C) fun x y c _ _ _=>vV x y c) ?_;rintro v g ⟨o,rfl,m,j⟩;obtain ⟨u,_,D⟩:=zT H zK j;have l:=iF jR (ag x) (ag y) (max (ag x).length (ag y).length);have hval:=Jq (aL x) (aL y) (max (ag x).length (ag y).length);rw [tw,qK,bB,bB] at hval;have d:Lim (dK jR (ag x) (ag y) (max (ag x).length (ag y).length)).1:=AZ (fun x y c=>VS _ zU) _;have s:=zj (aL x) (aL y) (fun x y c _ _ _=>vV x y c) (max (ag x).length (ag y).length);have hlt:=ul d;rw [l] at hlt
 generalize dK jR (ag x) (ag y) (max (ag x).length (ag y).length)=r at *
 refine zW (aE hl a b) ?_;refine iteH.split (fun h=>?_) fun h=>?_
 ·have h1:r.2=1:=zO;rw [h1] at hval
  have:¬ y<=x:=zO
  refine zW (aW hl a b this) ?_;exact zK
 ·have h1:r.2=0:=zO;rw [h1] at hval;have n:y<=x:=zO;refine zW (aE hl a b) ?_;refine AnsH.use (vH C zF (m.sl.mono (Sub.bump g _)) zO) ?_;rintro v q ⟨h5,k⟩;obtain ⟨p,_,_⟩:=zT H zK k;have e:dS r.1=ag (x-y):=by
   rw [dR d]; congr 1; omega
  rw [e] at h5;refine zW (aE hl a b) ?_;exact ⟨p,by rw [if_pos n]; exact ⟨v,rfl,h5⟩⟩
end
section
variable {tab:Nat->Option az} {H:Heap} {s:AV} {l:List Nat}
def kL (C:Code tab) (h:Wf H) (hs:Lb H s l) (j:l.length<1099511627776):Ans tab (.fn cE [s]) H fun v H'=>Lb H' v l/\Kp H H':=by
 refine cY C.q153 zU fun T hl a=>?_;rcases hs.nilcase with ⟨rfl,rfl⟩ | hne
 ·have e:bu .eql .sl .nilSl .nilSl=some (.bool true):=rfl;refine zW (aE hl a e) ?_;exact ⟨SlV.nil _ _ _,zK⟩
 ·have f:cZ ([]:List AV) []=some []:=rfl;refine zW (aW hl a hne f) ?_;have k1:Kp H ((H.up 7).put (H.next+3) (.cells [] ae true)):=zK;have n:=k1.le;have h0:SlV (bz bp) ae ((H.up 7).put (H.next+3) (.cells [] ae true)) (.own (H.next+3) 0 0 0 1 true) ([]:List Nat) :=
   (show Own (bz bp) ae H _ (H.next+3) true _ [] from ⟨_,rfl,ap _ _ _,Cells.nil _ _,zO⟩).sl
  obtain ⟨i,H2,c,h2,g,k,m,-⟩:=SlV.app (l:=[]) (id:=H.next+5) (bytes:=8) h0 k1 (hs.mono k1.sub) zO (by show _<H.next+7; omega) (by rw [aB zO]; exact h.fresh (b:=H.next+5) zO) zS zS;have d:cC ((H.up 7).put (H.next+3) (.cells [] ae true)) (H.next+5) 1 8 ae (.own (H.next+3) 0 0 0 1 true) s=some (i,H2):=c;refine zW (aE hl a d) ?_;exact ⟨h2,g⟩
def intE:fF Int where
 sz:=2
 tys:=[ae]
 R H cs z:=∃ v,cs=[.bool (decide (z<0)),v]/\bA H v z.natAbs
 pos:=zO
 len:=by rintro H cs z ⟨v,rfl,h⟩; exact ⟨rfl,by simp [h.one.2]; rfl⟩
 mono:=by rintro H H' cs z hs ⟨v,rfl,h⟩; exact ⟨v,rfl,h.monoT hs⟩
def IntV (H:Heap) (v:AV) (z:Int):Prop:=∃ w,v=.agg [.bool (decide (z<0)),w]/\bA H w z.natAbs
def fq (z:Int):Prop:=Sm z.natAbs
def IntV.mono {H H':Heap} (hs:Sub H H') {v:AV} {z:Int} (h:IntV H v z):IntV H' v z:=by
 obtain ⟨w,rfl,h⟩:=h; exact ⟨w,rfl,h.mono hs⟩
def cm (n:Nat):(0<(ag n).length) ↔ n≠0:=by
 rw [List.length_pos_iff];exact not_congr limbs_nil
def fw (C:Code tab) (f:Wf H) {v:AV} {z:Int} (c:IntV H v z) (d:fq z):Ans tab (.fn lh [v]) H fun v H'=>v=.int .i64 0/\Kp H H':=by
 obtain ⟨w,rfl,hn⟩:=c;unfold fq Sm at d;have i:=hn.one;refine cY C.q92 zU fun T hl a=>?_;refine zW (aw hl a) ?_;have k1:Kp H ((H.up 16).put H.next (.cells [.bool (decide (z<0)),w] aa true)):=zK;have g:=k1.le;refine AnsH.eq (o0 C k1.wf (hn.mono k1.sub) zO) fun H2 b=>?_;rw [if_neg (dO _)];have k2:=k1.trans b;have b0:H2.get H.next=some (.cells [.bool (decide (z<0)),w] aa true):=b.get (ap _ _ _)
 refine zW (aE hl a @b0) ?_;refine iteH.split (fun h=>?_) fun h=>?_
 ·have:¬ (ag z.natAbs).length=0:=by have:=(cm z.natAbs).2 zO; omega
  have e:decide (((ag z.natAbs).length:Int)=0)=false:=by simp; intro h; rw [h] at this; exact this rfl
  refine zW (dx hl a @b0 hn.lenV h e) ?_;exact zK
 ·refine zW (aW hl a @b0 h) ?_;exact zK
def jO {ty:Nat} {v:AV} {l:List Int} (hs:SlV intE ty H v l) {i:Nat} (hi:i<l.length):∃ w,bA H w (l[i]).natAbs/\bc H (some 2) (aA v (i*2))=some (.agg [.bool (decide (l[i]<0)),w])/\bc H none (aA v (i*2))=some (.bool (decide (l[i]<0)))/\bc H none (aA v (i*2+1))=some w:=by
 obtain ⟨cs,⟨w,rfl,hn⟩,-,h1,h2⟩:=hs.at (U7 hi);exact ⟨w,hn,h2,h1 0 _ rfl,h1 1 _ rfl⟩
def F7 {c:Heap} {b ty:Nat} {x y:Int} {p q:AV} (hx:bA H p x.natAbs) (hy:bA H q y.natAbs) (hs:Sub H c) (hg:c.get b=some (.cells [.bool (decide (x<0)),p,.bool (decide (y<0)),q] ty true)):SlV intE ty c (.own b 0 2 2 2 true) [x,y] :=
 ⟨_,Rd.own hg rfl (Vc _),fun _ _ _ _ _ _ e=>by cases e; exact ⟨_,_,hg⟩,rfl,fun i a hi=>by
  match i with
  | 0=>simp at hi; subst hi; exact ⟨p,rfl,hx.mono hs⟩
  | 1=>simp at hi; subst hi; exact ⟨q,rfl,hy.mono hs⟩
  | i+2=>simp at hi⟩
def iw (C:Code tab) (q:Wf H) {v:AV} {ls:List Int} {ty:Nat} (hs:SlV intE ty H v ls) (o:ls.length<4611686018427387904) (hc:∀ z∈ls,fq z) :
  Ans tab (.fn lV [v]) H fun v H'=>v=.int .i64 0/\Kp H H':=by
 refine cY C.q140 zU fun T hl d=>?_;refine zW (aE hl d hs.lenV) ?_;refine aq H [] (fun _ _ _=>True) (a:=0) (N:=ls.length) rfl (by refine zW (aw hl d) ?_; rfl) (zV (aw hl d)) (Vk _) zO (by simp only [U4,hl]; rfl) rfl (fun _ _ _ _ h=>h) zK trivial ?_ ?_
 ·intro j T1 e _ hj b i f c _;have w1:=c.wf;have r:=c.le;have n:ad T1 6=v:=(f.at_ 6 zU).trans (zV (aw hl d));obtain ⟨w,hn,m,-,-⟩:=jO (hs.mono c.sub) hj;have k:cd 2 v (.int .i64 (j:Int))=some (aA v (j*2)):=SlV.idx hs .i64 j hj;have g:=hc _ (U9 hj);have s:=hn.one;simp only [U4,hl] at b;refine zW (bO b n i k m) ?_;have p:=c.le;refine AnsH.eq (fw C zF ⟨w,rfl,hn.mono (zG e)⟩ g) fun H2 l=>?_;obtain ⟨k2,_,_⟩:=zT H zK l;refine zW b ?_;exact zK
 ·intro T1 e b f c _;simp only [U4,hl] at b;refine zW b ?_;exact zK
def pb {w:AV} {n:Nat} (b:Bool) (h:bA H w n):IntV H (.agg [.bool (b && decide (0<(ag n).length)),w]) (if b then -(n:Int) else n):=by
 refine ⟨w,?_,?_⟩
 ·have:=cm n
  congr 3;cases b
  ·simp
  ·simp only [Bool.true_and,if_true];by_cases h0:n=0
   ·simp [h0,ca]
   ·have h1:=this.2 h0;simp [h1]; omega
 ·cases b
  ·simpa using h
  ·simpa using h
def Cr (C:Code tab) (n:Wf H) {v:AV} {z:Int} (l:IntV H v z) (i:fq z):Ans tab (.fn re [v]) H fun v H'=>∃ r,v=.tup [r,.int .i64 0]/\IntV H' r (-z)/\Kp H H':=by
 obtain ⟨w,rfl,hn⟩:=l;have s:=hn.one;refine cY C.q145 zU fun T hl a=>?_;refine zW (aw hl a) ?_;refine AnsH.eq (fw C zF ⟨w,rfl,hn.mono (zG H)⟩ i) fun H2 c=>?_;obtain ⟨k2,_,_⟩:=zT H zK c;have b0:H2.get H.next=some (.cells [.bool (decide (z<0)),w] aa true):=c.get (cy)
 have b:H2.get (H.next+1)=some (.cells [.bool false,.nilSl] aa true):=c.get (cy);refine zW (aw hl a) ?_;refine aF ?_;refine zD (aW hl a @b0 b) ?_;unfold fq Sm at i;have t:=k2.wf;refine AnsH.use (kL C zF (hn.mono (zG H)) zO) ?_;rintro v3 g ⟨h3,d⟩;obtain ⟨o,_,u⟩:=zT H zK d;refine zD (aW hl a @b0 b) ?_;refine AnsH.use (fK C zF h3 _) ?_;rintro v4 j ⟨rfl,f⟩;obtain ⟨m,_,_⟩:=zT H zK f;have q:=h3.one;have k:g.get H.next=some (.cells [.bool (decide (z<0)),w] aa true):=d.get b0
 have d1:j.get (H.next+1)=some (.cells [.bool false,.nilSl] aa true):=f.get (d.get b);refine zD (dx hl a @b0 b k d1) ?_;have p:=m.wf _ _ d1;refine ⟨_,rfl,?_,zK⟩;have hm:=pb (!decide (z<0)) ((h3.mono (Kp.sub (H:=g) (Kp.trans zK f))).monoT (SubT.put_ty (e:=.cells [.bool (!decide (z<0) && decide (0<(ag z.natAbs).length)),v3] aa true) d1 zU));have e:(if (!decide (z<0))=true then -((z.natAbs:Nat):Int) else ((z.natAbs:Nat):Int)) = -z:=by
  by_cases h:z<0 <;> simp [h] <;> omega
 rw [e] at hm;exact hm
end
section
variable {tab:Nat->Option az} {H:Heap}
def OL (x y:Int):(decide (x<0) == decide (y<0))=decide ((x<0)=(y<0)):=by
 by_cases hx:x<0 <;> by_cases hy:y<0 <;> simp [hx,hy]
def Cq (C:Code tab) (F:Wf H) {a b:AV} {x y:Int} (ha:IntV H a x) (hb:IntV H b y) (hx:fq x) (hy:fq y):Ans tab (.fn qZ [a,b]) H fun v H'=>IntV H' v (x+y)/\Kp H H':=by
 obtain ⟨p,rfl,hp⟩:=ha;obtain ⟨q,rfl,l⟩:=hb;have op:=hp.one;have I:=l.one;refine bk C.q142 zU fun T hl f g=>?_;refine zW (aE hl f g) ?_;have fin:∀ (c:Heap) (j:Kp H c) (bb:Bool) (o:AV) (n:Nat) (z:Int),c.get (H.next+2)=some (.cells [.bool false,.nilSl] aa true)->Lb c o (ag n)->(if bb then -(n:Int) else n)=z ->
   IntV (c.put (H.next+2) (.cells [.bool (bb && decide (0<(ag n).length)),o] aa true)) (.agg [.bool (bb && decide (0<(ag n).length)),o]) z/\Kp H (c.put (H.next+2) (.cells [.bool (bb && decide (0<(ag n).length)),o] aa true)):=by
  intro c j bb o n z d1 d B;have G:=j.wf _ _ d1;refine ⟨?_,zK⟩;rw [<- B];exact pb bb (d.monoT (SubT.put_ty d1 zU))
 refine iteH.split (fun h=>?_) fun h=>?_
 ·rw [OL] at h;simp only [decide_eq_true_eq,eq_iff_iff] at h;refine zW (aE hl f g) ?_;refine AnsH.use (JF C zF (hp.mono (zG H)) (l.mono (zG H)) hx hy) ?_;rintro v H2 ⟨o,rfl,d,i⟩;obtain ⟨k2,_,E⟩:=zT H zK i;have b0:H2.get H.next=some (.cells [.bool (decide (x<0)),p] aa true):=i.get (cy)
  have k:H2.get (H.next+2)=some (.cells [.bool false,.nilSl] aa true):=i.get (cy);refine zW (aW hl f g @b0) ?_;refine AnsH.use (fK C zF (d.mono (zG H2)) _) ?_;rintro v3 c ⟨rfl,e⟩;obtain ⟨j,_,_⟩:=zT H zK e;have t:=d.one;have d1:=e.get (b:=H.next+2) k;refine zW (aW hl f g d1) ?_;refine fin c j _ _ _ _ d1 (d.mono (Kp.sub (H:=H2) (Kp.trans zK e))) ?_;by_cases h1:x<0 <;> simp [h1] <;> omega
 ·rw [OL] at h;simp only [decide_eq_true_eq,eq_iff_iff] at h;refine zW (aE hl f g) ?_;refine AnsH.use (Eg C zF (hp.mono (zG H)) (l.mono (zG H)) hx hy) ?_;rintro v H2 ⟨i,hr⟩;obtain ⟨k2,_,E⟩:=zT H zK i;have b0:H2.get H.next=some (.cells [.bool (decide (x<0)),p] aa true):=i.get (cy)
  have r:H2.get (H.next+1)=some (.cells [.bool (decide (y<0)),q] aa true):=i.get (cy);have k:H2.get (H.next+2)=some (.cells [.bool false,.nilSl] aa true):=i.get (cy);by_cases s:y.natAbs<=x.natAbs
  ·rw [if_pos s] at hr;obtain ⟨o,rfl,d⟩:=hr;refine zW (aW hl f g @b0) ?_;refine AnsH.use (fK C zF (d.mono (zG H2)) _) ?_;rintro v3 c ⟨rfl,e⟩;obtain ⟨j,_,_⟩:=zT H zK e;have t:=d.one;have d1:=e.get (b:=H.next+2) k;refine zW (aW hl f g d1) ?_;refine fin c j _ _ _ _ d1 (d.mono (Kp.sub (H:=H2) (Kp.trans zK e))) ?_;by_cases h1:x<0 <;> simp [h1] <;> omega
  ·rw [if_neg s] at hr;subst hr;refine zW (bO hl f g @b0 r) ?_;refine AnsH.use (Eg C zF (l.mono (zG H)) (hp.mono (zG H)) hy hx) ?_;rintro v c ⟨e,hr⟩;rw [if_pos zO] at hr;obtain ⟨o,rfl,d⟩:=hr;obtain ⟨j,_,J⟩:=zT H zK e;have w:=e.get (b:=H.next+1) r;have A:=e.get (b:=H.next+2) k;refine zW (aW hl f g @w) ?_;refine AnsH.use (fK C zF (d.mono (zG c)) _) ?_;rintro v4 u ⟨rfl,m⟩;obtain ⟨D,_,_⟩:=zT H zK m;have t:=d.one;have d1:=m.get (b:=H.next+2) A;refine zW (aW hl f g d1) ?_;refine fin u D _ _ _ _ d1 (d.mono (Kp.sub (H:=c) (Kp.trans zK m))) ?_;by_cases h1:y<0 <;> simp [h1] <;> omega
def iu (x:Int):Int:=if x<0 then -1 else if x=0 then 0 else 1
def zA (C:Code tab) (d:Wf H) {a:AV} {x:Int} (ha:IntV H a x):Ans tab (.fn pD [a]) H fun v H'=>v=.int .i64 (iu x)/\Kp H H':=by
 obtain ⟨p,rfl,hp⟩:=ha;have op:=hp.one;refine cY C.q93 zU fun T hl b=>?_;have c:decide (((ag x.natAbs).length:Int)=0)=decide (x=0):=by
  have:=cm x.natAbs
  by_cases h:x=0
  ·subst h; simp [ca]
  ·have h1:=this.2 zO; simp [h]; intro h2; rw [h2] at h1; simp at h1
 refine zW (aW hl b hp.lenV c) ?_;refine iteH.split (fun h=>?_) fun h=>?_
 ·have hx:x=0:=by
   by_cases h1:x=0
   ·exact h1
   ·simp [h1] at h
  subst hx;refine zW (aw hl b) ?_;exact ⟨rfl,zK⟩
 ·have hx:x≠0:=fun h1=>by subst h1; simp at h
  refine zW (aw hl b) ?_;refine iteH.split (fun h=>?_) fun h=>?_
  ·refine zW (aw hl b) ?_;exact ⟨by simp [iu,h],zK⟩
  ·refine zW (aw hl b) ?_;exact ⟨by simp [iu,h,hx],zK⟩
def pu (C:Code tab) (h:Wf H) {a:AV} {x:Int} (ha:IntV H a x) (hx:fq x):Ans tab (.fn pF [a]) H fun v H'=>v=.tup [.int .i64 (iu x),.int .i64 0]/\Kp H H':=by
 obtain ⟨p,rfl,hp⟩:=ha;have op:=hp.one;refine cY C.q67 zU fun T hl c=>?_;refine zW (aw hl c) ?_;refine AnsH.eq (fw C zF ⟨p,rfl,hp.mono (zG H)⟩ hx) fun H2 d=>?_;obtain ⟨k2,_,j⟩:=zT H zK d;have b0:=d.get (b:=H.next) (e:=.cells [.bool (decide (x<0)),p] aa true) (cy);refine zW (aE hl c @b0) ?_;refine AnsH.eq (zA C zF ⟨p,rfl,hp.mono (zG H)⟩) fun g f=>?_;obtain ⟨i,_,_⟩:=zT H zK f;refine zW (aw hl c) ?_;exact zK
def KH (C:Code tab) (n:Wf H) {a b:AV} {x y:Int} (ha:IntV H a x) (hb:IntV H b y) (hx:fq x) (hy:fq y):Ans tab (.fn rh [a,b]) H fun v H'=>∃ r,v=.tup [r,.int .i64 0]/\IntV H' r (x+y)/\Kp H H':=by
 obtain ⟨p,rfl,hp⟩:=ha;obtain ⟨q,rfl,g⟩:=hb;have op:=hp.one;have t:=g.one;refine bk C.q118 zU fun T hl d f=>?_;refine zW (aE hl d f) ?_;refine AnsH.eq (iw C zF (F7 (x:=x) (y:=y) (H:=H) hp g (zG H) (by refine wO ?_; rfl)) (by simp) fun z i=>?_) fun H2 c=>?_
 ·simp at i; rcases i with rfl | rfl <;> assumption
 obtain ⟨k2,_,u⟩:=zT H zK c;have b0:=c.get (b:=H.next) (e:=.cells [.bool (decide (x<0)),p] aa true) (cy);have j:=c.get (b:=H.next+1) (e:=.cells [.bool (decide (y<0)),q] aa true) (cy);have k:=c.get (b:=H.next+2) (e:=.cells [.bool false,.nilSl] aa true) (cy);refine zW (bO hl d f @b0 j) ?_;refine AnsH.use (Cq C zF ⟨p,rfl,hp.mono (zG H)⟩ ⟨q,rfl,g.mono (zG H)⟩ hx hy) ?_;rintro v m ⟨⟨r,rfl,hr⟩,h⟩;obtain ⟨l,_,_⟩:=zT H zK h;have s:=hr.one;have d2:=h.get (b:=H.next+2) k;have o:=l.wf _ _ d2;refine zW (aW hl d f d2) ?_;exact ⟨_,rfl,⟨r,rfl,hr.monoT (SubT.put_ty d2 zU)⟩,zK⟩
def KE (C:Code tab) (A:Wf H) {a b:AV} {x y:Int} (ha:IntV H a x) (hb:IntV H b y) (hx:fq x) (hy:fq y):Ans tab (.fn rc [a,b]) H fun v H'=>∃ r,v=.tup [r,.int .i64 0]/\IntV H' r (x-y)/\Kp H H':=by
 obtain ⟨p,rfl,hp⟩:=ha;obtain ⟨q,rfl,g⟩:=hb;have op:=hp.one;have E:=g.one;refine bk C.q163 zU fun T hl c d=>?_;refine zW (aE hl c d) ?_;refine AnsH.eq (iw C zF (F7 (x:=x) (y:=y) (H:=H) hp g (zG H) (by refine wO ?_; rfl)) (by simp) fun z l=>?_) fun H2 f=>?_
 ·simp at l; rcases l with rfl | rfl <;> assumption
 obtain ⟨k2,_,F⟩:=zT H zK f;have b0:=f.get (b:=H.next) (e:=.cells [.bool (decide (x<0)),p] aa true) (cy);have i:=f.get (b:=H.next+1) (e:=.cells [.bool (decide (y<0)),q] aa true) (cy);have m:=f.get (b:=H.next+2) (e:=.cells [.bool false,.nilSl] aa true) (cy);refine zW (aE hl c d) ?_;refine aF ?_;refine zD (bO hl c d @b0 i) ?_;refine AnsH.use (fK C zF (g.mono (zG H)) _) ?_;rintro v3 u ⟨rfl,j⟩;obtain ⟨s,_,G⟩:=zT H zK j;have hm:=pb (!decide (y<0)) (g.mono s.sub);have e:(if (!decide (y<0))=true then -((y.natAbs:Nat):Int) else ((y.natAbs:Nat):Int)) = -y:=by
  by_cases h:y<0 <;> simp [h] <;> omega
 rw [e] at hm;have o:fq (-y):=by unfold fq at *; rwa [Ym]
 refine zD (bO hl c d @b0 i) ?_;refine AnsH.use (Cq C zF ⟨p,rfl,hp.mono (zG H)⟩ hm hx o) ?_;rintro v w ⟨⟨r,rfl,hr⟩,k⟩;obtain ⟨t,_,_⟩:=zT H zK k;have D:=hr.one;have n:=j.get (b:=H.next) b0;have d2:=k.get (b:=H.next+2) (j.get (b:=H.next+2) m);have B:=t.wf _ _ d2;refine zD (fE hl c d @b0 i n d2) ?_;refine ⟨_,rfl,⟨r,?_,hr.monoT (SubT.put_ty d2 zU)⟩,zK⟩;rw [Int.sub_eq_add_neg]
end
end Go.Proofs.YteaefaohjlmjdaaGreat.Ev
