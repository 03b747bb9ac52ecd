/- A part. -/
import Derived.Test.YteaefaohjlmjdaaGreatA0
import Derived.Test.YteaefaohjlmjdaaGreatEvDraw5
import Derived.Test.YteaefaohjlmjdaaGreatProg
set_option linter.all false
namespace Go.Proofs.YteaefaohjlmjdaaGreat.Ev
open Go
def Heap.up (H:Heap) (k:Nat):Heap:={ H with next:=H.next+k }
def Tg (H:Heap) (a b:Nat):(H.up a).up b=H.up (a+b):=by simp [Heap.up,Wb]
theorem Si (H:Heap) (b k:Nat) (e:Ent):(H.put b e).up k=(H.up k).put b e:=rfl
theorem QB (H:Heap) (b k:Nat):(H.kill b).up k=(H.up k).kill b:=rfl
theorem cT (H:Heap) (k:Nat):(H.up k).next=H.next+k:=rfl
theorem next_put (H:Heap) (b:Nat) (e:Ent):(H.put b e).next=H.next:=rfl
theorem next_kill (H:Heap) (b:Nat):(H.kill b).next=H.next:=rfl
theorem SC (H:Heap) (k b:Nat):(H.up k).get b=H.get b:=rfl
def ap (H:Heap) (b:Nat) (e:Ent):(H.put b e).get b=some e:=by rw [FX,if_pos rfl]
def az {H:Heap} {b c:Nat} {e:Ent} (h:c≠b):(H.put b e).get c=H.get c:=by rw [FX,if_neg h]
def cD {H:Heap} {b c:Nat} (h:c≠b):(H.kill b).get c=H.get c:=by rw [LD,if_neg h]
structure Kp (H H':Heap):Prop where
 wf0:Wf H
 wf:Wf H'
 le:H.next<=H'.next
 same:∀ b,b<H.next->H'.get b=H.get b
def Kp.sub {H H':Heap} (h:Kp H H'):Sub H H':=⟨h.le,fun b e hb=>(h.same b (h.wf0 b e hb)).trans hb⟩
def Kp.refl {H:Heap} (h:Wf H):Kp H H:=⟨h,h,Vb _,fun _ _=>rfl⟩
def Kp.up {H H':Heap} (h:Kp H H') (k:Nat):Kp H (H'.up k):=⟨h.wf0,h.wf.bump k,Vn h.le (VH _ _),h.same⟩
def Kp.trans {H H' H'':Heap} (h:Kp H H') (h':Kp H' H''):Kp H H'':=⟨h.wf0,h'.wf,Vn h.le h'.le,fun b hb=>(h'.same b (Vq hb h.le)).trans (h.same b hb)⟩
def Kp.get {H H':Heap} (h:Kp H H') {b:Nat} {e:Ent} (hb:H.get b=some e):H'.get b=some e:=h.sub.get b e hb
def Kp.put {H H':Heap} (h:Kp H H') {b:Nat} {e:Ent} (h1:H.next<=b) (h2:b<H'.next):Kp H (H'.put b e):=⟨h.wf0,h.wf.put h2 e,h.le,fun c hc=>by rw [az zO]; exact h.same c hc⟩
def Kp.kill {H H':Heap} (h:Kp H H') {b:Nat} (h1:H.next<=b):Kp H (H'.kill b):=⟨h.wf0,h.wf.kill b,h.le,fun c hc=>by rw [cD zO]; exact h.same c hc⟩
def Kp.old {H H':Heap} (h:Kp H H') {b:Nat} {e:Ent} (hb:H.get b=some e):b<H.next:=h.wf0 b e hb
def Kp.free {H H':Heap} (h:Kp H H') {b:Nat} (h1:b<H.next) (h2:H.get b=none):H'.get b=none:=(h.same b h1).trans h2
def JW (os:List EP):List Nat:=os.filterMap (·.dst)
def fH:ACode->List Nat
 | .region os=>JW os
 | .draw ds _=>ds.filterMap (·.dst)
 | .drawF ds _ l _=>(ds++[l]).filterMap (·.dst)
 | .seq a b=>fH a++fH b
 | .cond _ a b=>fH a++fH b
 | .block _ a=>fH a
 | .loop a=>fH a
 | .scope a=>fH a
 | _=>[]
def uR (res:List (Nat × Option (Option Nat))) (Q:AV->Heap->Prop) (x:Ex) (T:Tm) (H:Heap):Prop:=(x=.nrm\/x=.ret)/\∃ v,cg T H res=some v/\Q v H
def NH {res:List (Nat × Option (Option Nat))} {Q:AV->Heap->Prop} {T:Tm} {H:Heap}:uR res Q .nrm T H=gL (cg T H res) (fun v=>Q v H) ():=by
 unfold uR gL h9;cases cg T H res <;> simp
def NG {res:List (Nat × Option (Option Nat))} {Q:AV->Heap->Prop} {T:Tm} {H:Heap}:uR res Q .ret T H=gL (cg T H res) (fun v=>Q v H) ():=by
 unfold uR gL h9;cases cg T H res <;> simp
def uS (H:Heap) (v:AV):Option (Option Nat)->Option AV
 | none=>some v
 | some k=>match v with
  | .ptr b o=>aX H k (.ptr b o)
  | _=>none
theorem K0 (H:Heap) (v:AV):uS H v none=some v:=rfl
theorem NI (H:Heap) (b o:Nat) (k:Option Nat):uS H (.ptr b o) (some k)=aX H k (.ptr b o):=rfl
def jZ (T:Tm) (H:Heap) (r:Nat × Option (Option Nat)):oJ T H r=uS H (ad T r.1) r.2:=by
 obtain ⟨n,k⟩:=r;cases k with
 | none=>rfl
 | some k=>simp only [oJ,uS]; cases ad T n <;> rfl
def R4 (a b:Option AV):Option AV:=a.bind fun a=>b.bind fun b=>some (.tup [a,b])
def R3 (a b c:Option AV):Option AV:=a.bind fun a=>b.bind fun b=>c.bind fun c=>some (.tup [a,b,c])
theorem KG (a b:AV):R4 (some a) (some b)=some (.tup [a,b]):=rfl
theorem KF (a b c:AV):R3 (some a) (some b) (some c)=some (.tup [a,b,c]):=rfl
theorem Se (T:Tm) (H:Heap):cg T H []=some (.tup []):=rfl
def Sd (T:Tm) (H:Heap) (r:Nat) (k:Option (Option Nat)):cg T H [(r,k)]=uS H (ad T r) k:=by
 show (List.mapM (oJ T H) [(r,k)]).bind _=_;rw [<- jZ T H (r,k)];simp only [WK,Zu];cases oJ T H (r,k) <;> rfl
def Sc (T:Tm) (H:Heap) (r s:Nat) (k l:Option (Option Nat)):cg T H [(r,k),(s,l)]=R4 (uS H (ad T r) k) (uS H (ad T s) l):=by
 show (List.mapM (oJ T H) [(r,k),(s,l)]).bind _=_;rw [<- jZ T H (r,k),<- jZ T H (s,l)];simp only [WK,Zu,R4];cases oJ T H (r,k) <;> cases oJ T H (s,l) <;> rfl
def NC (T:Tm) (H:Heap) (r s t:Nat) (k l m:Option (Option Nat)):cg T H [(r,k),(s,l),(t,m)]=R3 (uS H (ad T r) k) (uS H (ad T s) l) (uS H (ad T t) m):=by
 show (List.mapM (oJ T H) [(r,k),(s,l),(t,m)]).bind _=_;rw [<- jZ T H (r,k),<- jZ T H (s,l),<- jZ T H (t,m)];simp only [WK,Zu,R3];cases oJ T H (r,k) <;> cases oJ T H (s,l) <;> cases oJ T H (t,m) <;> rfl
section
variable {tab:Nat->Option aA} {f n:Nat} {res:List (Nat × Option (Option Nat))} {body:ACode} {H:Heap} {Q:AV->Heap->Prop}
def Uq (hf:tab f=some ⟨0,n,res,body,none⟩) (h:∀ T:Tm,T.length=n->WC tab false body T H (uR res Q)):Ans tab (.fn f []) H Q :=
 pb hf rfl rfl (Vj _) fun T hl g=>h T hl
def cR {a:AV} (hf:tab f=some ⟨1,n,res,body,none⟩) (hn:1<=n) (h:∀ T:Tm,T.length=n->ad T 0=a->WC tab false body T H (uR res Q)):Ans tab (.fn f [a]) H Q :=
 pb hf rfl rfl hn fun T hl g=>h T hl (g 0 (by simp))
def bB {a b:AV} (hf:tab f=some ⟨2,n,res,body,none⟩) (hn:2<=n) (h:∀ T:Tm,T.length=n->ad T 0=a->ad T 1=b->WC tab false body T H (uR res Q)):Ans tab (.fn f [a,b]) H Q :=
 pb hf rfl rfl hn fun T hl g=>h T hl (g 0 (by simp)) (g 1 (by simp))
def kS {a b c:AV} (hf:tab f=some ⟨3,n,res,body,none⟩) (hn:3<=n) (h:∀ T:Tm,T.length=n->ad T 0=a->ad T 1=b->ad T 2=c->WC tab false body T H (uR res Q)):Ans tab (.fn f [a,b,c]) H Q :=
 pb hf rfl rfl hn fun T hl g=>h T hl (g 0 (by simp)) (g 1 (by simp)) (g 2 (by simp))
def LJ {a b c d:AV} (hf:tab f=some ⟨4,n,res,body,none⟩) (hn:4<=n) (h:∀ T:Tm,T.length=n->ad T 0=a->ad T 1=b->ad T 2=c->ad T 3=d->WC tab false body T H (uR res Q)):Ans tab (.fn f [a,b,c,d]) H Q :=
 pb hf rfl rfl hn fun T hl g=>h T hl (g 0 (by simp)) (g 1 (by simp)) (g 2 (by simp)) (g 3 (by simp))
def SI {a b:AV} (hf:tab f=some ⟨2,n,res,body,none⟩) (hn:2<=n) (h:∀ T:Tm,T.length=n->ad T 0=a->ad T 1=b->WC tab false body T H (uR res Q)):Ans tab (.ent f [a,b]) H Q :=
 BO hf rfl rfl hn fun T hl g=>h T hl (g 0 (by simp)) (g 1 (by simp))
def Ux {a b c:AV} (hf:tab f=some ⟨3,n,res,body,none⟩) (hn:3<=n) (h:∀ T:Tm,T.length=n->ad T 0=a->ad T 1=b->ad T 2=c->WC tab false body T H (uR res Q)):Ans tab (.ent f [a,b,c]) H Q :=
 BO hf rfl rfl hn fun T hl g=>h T hl (g 0 (by simp)) (g 1 (by simp)) (g 2 (by simp))
end
theorem Uw (a:AV) (l:List AV):F4 0 (.tup (a :: l))=some a:=rfl
theorem Uv (a b:AV) (l:List AV):F4 1 (.tup (a :: b :: l))=some b:=rfl
theorem Uu (a b c:AV) (l:List AV):F4 2 (.tup (a :: b :: c :: l))=some c:=rfl
theorem SF (off b o:Nat):A5 off (.ptr b o)=some (.ptr b (o+off)):=rfl
theorem LO (k:Option Nat) (off:Nat) (cs:List AV):Ew k off (.agg cs)=aY cs off k:=rfl
theorem Qp (b o:Nat):Az (.ptr b o)=some (.ptr b o):=rfl
theorem Sn (f:Nat) (a c:List AV):Az (.fn (.func f) a c)=some (.fn (.func f) a c):=rfl
def II (neg:Bool) (n:Nat):AV->AV->Option AV
 | .agg a,.agg b=>(match n with | 0=>F8 a b | n+1=>rA (n+1) a b).map fun r=>.bool (if neg then !r else r)
 | _,_=>none
def MN {tab:Nat->Option aA} (ev:Src->AV) (H:Heap) (id:Nat) (Q:AV->Heap->Prop) (neg:Bool) (n:Nat) (x y:Src):mR tab ev H id (.eqAgg neg n x y) Q=gL (II neg n (ev x) (ev y)) (fun v=>Q v H) ():=by
 rw [ca,dX tab ev H id Q (o:=.eqAgg neg n x y) (v:=II neg n (ev x) (ev y)) (fun f a e=>by cases e) (by simp only [aP]; cases ev x <;> cases ev y <;> rfl) rfl]; rfl
def TF (len size:Nat) (k:Option Nat) (v i:AV):Option AV:=aP (fun s=>match s with | .t 0=>v | _=>i) (.indexAgg len size k (.t 0) (.t 1))
def EQ {tab:Nat->Option aA} (ev:Src->AV) (H:Heap) (id:Nat) (Q:AV->Heap->Prop) (len size:Nat) (k:Option Nat) (x i:Src):mR tab ev H id (.indexAgg len size k x i) Q=gL (TF len size k (ev x) (ev i)) (fun v=>Q v H) ():=by
 rw [ca,dX tab ev H id Q (o:=.indexAgg len size k x i) (v:=TF len size k (ev x) (ev i)) (fun f a e=>by cases e) (by simp only [aP,TF]) rfl]; rfl
theorem Uo (k:IntKind) (a b:AV):TF 2 1 none (.agg [a,b]) (.int k 0)=some a:=rfl
theorem Un (k:IntKind) (a b:AV):TF 2 1 none (.agg [a,b]) (.int k 1)=some b:=rfl
theorem SH (a b c d:Bool):II false 0 (.agg [.bool a,.bool b]) (.agg [.bool c,.bool d])=some (.bool (a == c && b == d)):=rfl
theorem RW (k:IntKind) (n:Int):RX .neg (.int k n)=some (.int k (k.wrap (0-n))):=rfl
section
variable (a b:Nat)
def Mk (x y:Int):bV .add .int (.int .i64 x) (.int .i64 y)=some (.int .i64 (IntKind.i64.wrap (x+y))):=EI _ _ _
def Mf (x y:Int):bV .sub .int (.int .i64 x) (.int .i64 y)=some (.int .i64 (IntKind.i64.wrap (x-y))):=Kb _ _ _
def Mh (x y:Int):bV .mul .int (.int .i64 x) (.int .i64 y)=some (.int .i64 (IntKind.i64.wrap (x*y))):=Kc _ _ _
def Mj:bV .add .int (.int .u64 (a:Int)) (.int .u64 (b:Int))=some (.int .u64 (((a+b) % 18446744073709551616:Nat):Int)):=by
 rw [EI,kh]; congr 2
def xO:bV .mul .int (.int .u64 (a:Int)) (.int .u64 (b:Int))=some (.int .u64 (((a*b) % 18446744073709551616:Nat):Int)):=by
 rw [Kc,kh]; congr 2
def xN (h:b<=18446744073709551616):bV .sub .int (.int .u64 (a:Int)) (.int .u64 (b:Int))=some (.int .u64 (((a+18446744073709551616-b) % 18446744073709551616:Nat):Int)):=by
 rw [Kb,kh]; congr 2; omega
def IT:bV .and .int (.int .u64 (a:Int)) (.int .u64 4294967295)=some (.int .u64 ((a % 4294967296:Nat):Int)):=by
 have e:(BitVec.ofInt 64 (a:Int) &&& BitVec.ofInt 64 4294967295).toNat=a % 4294967296:=by
  rw [BitVec.toNat_and];have h1:(BitVec.ofInt 64 (a:Int)).toNat=a % 2^64:=by simp
  have h2:(BitVec.ofInt 64 4294967295).toNat=2^32-1:=by decide
  rw [h1,h2,Nat.and_two_pow_sub_one_eq_mod];omega
 show some (AV.int .u64 (IntKind.u64.wrap ((BitVec.ofInt 64 (a:Int) &&& BitVec.ofInt 64 4294967295).toNat:Nat)))=_;rw [e,gf zO zO]
def sQ {k:IntKind} (hb:b<64):bV .shr .int (.int .u64 (a:Int)) (.int k (b:Int))=some (.int .u64 ((a / 2^b:Nat):Int)):=by
 show kO .shr .u64 (a:Int) (b:Int)=_;unfold kO;rw [if_neg zO];have h1:Nat.min (b:Int).toNat IntKind.u64.bits=b:=by
  have:IntKind.u64.bits=64:=rfl
  rw [this,W8]; exact Wi zO
 simp only [h1];congr 2;rw [Zd _ (W5 (Int.pow_pos zO))]
 simp
def Mg:bV .shr .int (.int .u64 (a:Int)) (.int .u64 32)=some (.int .u64 ((a / 4294967296:Nat):Int)):=sQ a 32 zO
end
theorem HM (T:Tm) (t:Nat) (v:AV) (r:List (Nat × AV)):oL T ((t,v) :: r)=oL (T.set t v) r:=rfl
theorem K4 (T:Tm):oL T []=T:=rfl
def mI (v:AV) (w:Bool) (P Q:Prop) (_:GY P) (_:GY Q):Prop:=match v with
 | .bool b=>if b=w then P else Q
 | .tup []=>Q
 | _=>False
theorem FW (b w:Bool) (P Q:Prop):mI (.bool b) w P Q () ()=iteH (b=w) P Q () ():=rfl
theorem Iv (w:Bool) (P Q:Prop):mI (.tup []) w P Q () ()=Q:=rfl
section
variable {tab:Nat->Option aA} {rd:Bool} {T:Tm} {H:Heap}
def Ko {Q:Tm->Heap->Prop} {id:Nat} (d:Option Nat) (o:AOp) (t:Nat) (w:Bool) (os:List EP):EN tab id (⟨d,o,some (t,w)⟩ :: os) T H Q =
  mI (ad T t) w (mR tab (Src.ev T) H id o fun v H'=>EN tab (id+1) os (putT T d v) H' Q) (EN tab (id+1) os (putT T d (.tup [])) H Q) () ():=by
 rw [zp,ca];have hw:bW T (some (t,w))=match ad T t with | .bool b=>some (b == w) | .tup []=>some false | _=>none:=by
  unfold ad;rw [U5];cases h:T[t]? with
  | none=>simp only [bW,h]; rfl
  | some v =>
   simp only [bW,h,WJ];cases v with
   | tup vs=>cases vs <;> rfl
   | _=>rfl
 conv=>lhs; unfold xY
 simp only [hw,mI];cases ad T t with
 | bool b=>cases b <;> cases w <;> rfl
 | tup vs=>cases vs <;> rfl
 | _=>rfl
def Ha {Q:Ex->Tm->Heap->Prop} (ops:List EP):WC tab rd (.region ops) T H Q=Sg H.next (H.up ops.length) (fun id H'=>EN tab id ops T H' (Q .nrm)) ():=Kq ops
theorem IO (P Q:Prop):J5 (.bool true) P Q () ()=P:=rfl
theorem Gn (P Q:Prop):J5 (.bool false) P Q () ()=Q:=rfl
end
def QG (id id1 i n c k:Nat) (body:ACode):ACode :=
 .block id (.loop (.seq (.region [⟨some c,.bin .lss .int (.t i) (.t n),none⟩]) (.seq (.cond (.t c) .skip (.exit id)) (.seq (.block id1 body)
  (.region [⟨some k,.bin .add .int (.t i) (.c (.int .i64 1)),none⟩,⟨some i,.mv (.t k),none⟩])))))
def O0 (id:Nat) (c:ACode):ACode:=.block id (.loop c)
def iC:ACode->Bool
 | .rangeM ..=>false
 | .scopeL ..=>false
 | .seq a b=>iC a && iC b
 | .cond _ a b=>iC a && iC b
 | .block _ a=>iC a
 | .loop a=>iC a
 | .scope a=>iC a
 | _=>true
structure Same (D:List Nat) (T T':Tm):Prop where
 len:T'.length=T.length
 at_:∀ s,s ∉ D->ad T' s=ad T s
def Same.refl (D:List Nat) (T:Tm):Same D T T:=⟨rfl,fun _ _=>rfl⟩
def Same.trans {D D':List Nat} {T T' T'':Tm} (h:Same D T T') (h':Same D' T' T''):Same (D++D') T T'' :=
 ⟨h'.len.trans h.len,fun s hs=>(h'.at_ s fun h1=>hs (WO _ h1)).trans (h.at_ s fun h1=>hs (WF _ h1))⟩
def Same.wide {D D':List Nat} {T T':Tm} (h:Same D T T') (hd:∀ s,s∈D->s∈D'):Same D' T T':=⟨h.len,fun s hs=>h.at_ s fun h1=>hs (hd s h1)⟩
def lV (T:Tm) (i j:Nat) (v:AV) (h:i≠j):ad (T.set i v) j=ad T j:=by
 unfold ad;rw [U5,U5,W9];rw [if_neg h]
def LE (T:Tm) (i j:Nat) (v:AV):ad (T.set i v) j=if i=j then (if i<T.length then v else .undef) else ad T j:=by
 by_cases h:i<T.length
 ·rw [vH T i j v h]; simp [h]
 ·unfold ad;rw [List.set_eq_of_length_le zO];by_cases hij:i=j
  ·subst hij; rw [U5,VI zO]; simp [h]
  ·simp [hij]
theorem OU:((0:Nat):Int)=0:=rfl
def Same.put (T:Tm) (d:Option Nat) (v:AV):Same d.toList T (putT T d v):=by
 cases d with
 | none=>exact Same.refl _ _
 | some d=>exact ⟨by simp [putT],fun s hs=>lV T d s v fun e=>hs (by simp [e])⟩
def Cv {cal:oA}:∀ (os:List EP) (id:Nat) (T:Tm) (H:Heap) (T':Tm) (H':Heap),y6 cal id os T H=some (T',H')->Same (JW os) T T'
 | [],id,T,H,T',H',h=>by cases h; exact Same.refl _ _
 | o :: os,id,T,H,T',H',h=>by
  have key:∀ v H1,y6 cal (id+1) os (putT T o.dst v) H1=some (T',H')->Same (JW (o :: os)) T T':=fun v H1 h1=>by
   refine ((Same.put T o.dst v).trans (Cv os _ _ _ _ _ h1)).wide fun s hs=>?_;unfold JW at hs ⊢;cases hd:o.dst with
   | none=>rw [Zv hd]; simpa [hd] using hs
   | some d=>rw [Zw hd]; simpa [hd] using hs
  unfold y6 at h;split at h
  ·split at h
   ·exact key _ _ h
   ·cases h
  ·exact key _ _ h
  ·cases h
def yh:∀ (ds:List jx) (vs:List AV) (T:Tm),Same (ds.filterMap (·.dst)) T (gn T ds vs)
 | [],vs,T=>by cases vs <;> exact Same.refl _ _
 | d :: ds,[],T=>⟨rfl,fun _ _=>rfl⟩
 | d :: ds,v :: vs,T=>by
  refine ((Same.put T d.dst v).trans (yh ds vs _)).wide fun s hs=>?_;cases hd:d.dst with
  | none=>rw [Zv hd]; simpa [hd] using hs
  | some d'=>rw [Zw hd]; simpa [hd] using hs
def CD {D:List Nat} {body:Tm->Heap->Option (Ex × Tm × Heap)} (hb:∀ T H x T' H',body T H=some (x,T',H')->Same D T T') :
  ∀ (n:Nat) (T:Tm) (H:Heap) (x:Ex) (T':Tm) (H':Heap),AT body n T H=some (x,T',H')->Same D T T'
 | 0,_,_,_,_,_,h=>by cases h
 | n+1,T,H,x,T',H',h=>by
  unfold AT at h;split at h
  ·rename_i T1 H1 h1;exact ((hb _ _ _ _ _ h1).trans (CD hb n _ _ _ _ _ h)).wide fun s hs=>by simpa using hs
  ·exact hb _ _ _ _ _ h
def dD {cal:oA} {m:Nat} {rd:Bool}:∀ (c:ACode) (T:Tm) (H:Heap) (x:Ex) (T':Tm) (H':Heap),iC c=true->aK cal m rd c T H=some (x,T',H')->Same (fH c) T T'
 | .skip,T,H,x,T',H',_,h=>by cases h; exact Same.refl _ _
 | .exit _,T,H,x,T',H',_,h=>by cases h; exact Same.refl _ _
 | .goto _,T,H,x,T',H',_,h=>by cases h; exact Same.refl _ _
 | .ret,T,H,x,T',H',_,h=>by cases h; exact Same.refl _ _
 | .region os,T,H,x,T',H',_,h=>by
  simp only [aK] at h;split at h
  ·rename_i h1; cases h; exact Cv _ _ _ _ _ _ h1
  ·cases h
 | .draw ds late,T,H,x,T',H',_,h=>by
  simp only [aK] at h;split at h
  ·rename_i h1;cases h;unfold Gc at h1;split at h1
   ·cases h1
   ·split at h1
    ·cases h1; exact yh _ _ _
    ·cases h1
  ·cases h
 | .drawF ..,T,H,x,T',H',_,h=>by cases h
 | .seq a b,T,H,x,T',H',hp,h=>by
  simp only [iC,VG] at hp;simp only [aK] at h;split at h
  ·rename_i T1 H1 h1;exact (dD a _ _ _ _ _ hp.1 h1).trans (dD b _ _ _ _ _ hp.2 h)
  ·exact (dD a _ _ _ _ _ hp.1 h).wide fun s hs=>WF _ hs
 | .cond c a b,T,H,x,T',H',hp,h=>by
  simp only [iC,VG] at hp;simp only [aK] at h;split at h
  ·exact (dD a _ _ _ _ _ hp.1 h).wide fun s hs=>WF _ hs
  ·exact (dD b _ _ _ _ _ hp.2 h).wide fun s hs=>WO _ hs
  ·cases h
 | .block id a,T,H,x,T',H',hp,h=>by
  simp only [aK] at h;split at h
  ·rename_i h1;split at h
   ·cases h; exact dD a _ _ _ _ _ hp h1
   ·cases h; exact dD a _ _ _ _ _ hp h1
  ·exact dD a _ _ _ _ _ hp h
 | .loop a,T,H,x,T',H',hp,h=>by
  simp only [aK] at h;exact CD (fun T H x T' H' h1=>dD a _ _ _ _ _ hp h1) _ _ _ _ _ _ h
 | .scope a,T,H,x,T',H',hp,h=>by
  simp only [aK] at h;split at h
  ·cases h
  ·exact dD a _ _ _ _ _ hp h
 | .rangeFunc f ps asg body,T,H,x,T',H',_,h=>by
  have:T'=T:=by
   simp only [aK] at h;split at h
   ·cases h
   ·split at h
    ·split at h
     ·split at h
      ·cases h; rfl
      ·split at h <;> first | (cases h; rfl) | cases h
      ·cases h
     ·cases h
    ·cases h
  subst this; exact Same.refl _ _
 | .rangeM ..,T,H,x,T',H',hp,h=>by cases hp
 | .scopeL ..,T,H,x,T',H',hp,h=>by cases hp
def WB (tab:Nat->Option aA) (rd:Bool) (c:ACode) (T:Tm) (H:Heap) (Q:Ex->Tm->Heap->Prop):Prop:=∃ x T' H',Pi tab rd c T H x T' H'/\Q x T' H'
section
variable {tab:Nat->Option aA} {rd:Bool}
def WC.wb {c:ACode} {T:Tm} {H:Heap} {Q:Ex->Tm->Heap->Prop} (h:WC tab rd c T H Q):WB tab rd c T H Q:=dW c T H Q h.run
def WB.same {c:ACode} {T:Tm} {H:Heap} {Q:Ex->Tm->Heap->Prop} (h:WB tab rd c T H Q) (hp:iC c=true):WB tab rd c T H fun x T' H'=>Same (fH c) T T'/\Q x T' H':=by
 obtain ⟨x,T',H',⟨N,g⟩,hq⟩:=h;exact ⟨x,T',H',⟨N,g⟩,dD c _ _ _ _ _ hp (g N N (Vb _) (Vb _)),hq⟩
def WB.mono {c:ACode} {T:Tm} {H:Heap} {Q Q':Ex->Tm->Heap->Prop} (h:WB tab rd c T H Q) (hq:∀ x T' H',Q x T' H'->Q' x T' H'):WB tab rd c T H Q':=by
 obtain ⟨x,T',H',hb,h⟩:=h;exact ⟨x,T',H',hb,hq _ _ _ h⟩
def zy {a b:ACode} {T:Tm} {H:Heap} {Q:Ex->Tm->Heap->Prop} (h:WB tab rd a T H fun x T' H'=>match x with | .nrm=>WB tab rd b T' H' Q | x=>Q x T' H'):WB tab rd (.seq a b) T H Q:=by
 obtain ⟨x,T1,H1,⟨N1,g1⟩,h1⟩:=h;by_cases hx:x=.nrm
 ·subst hx;obtain ⟨y,T2,H2,⟨N2,g2⟩,h2⟩:=h1;refine ⟨y,T2,H2,⟨N1+N2,fun m n hm hn=>?_⟩,h2⟩;simp only [aK,g1 m n zO zO];exact g2 m n zO zO
 ·refine ⟨x,T1,H1,⟨N1,fun m n hm hn=>?_⟩,?_⟩
  ·simp only [aK,g1 m n hm hn]
   all_goals (cases x <;> first | rfl | exact absurd rfl hx)
  ·cases x <;> first | exact h1 | exact absurd rfl hx
def PT {c:Src} {a b:ACode} {T:Tm} {H:Heap} {Q:Ex->Tm->Heap->Prop} {v:Bool} (hc:c.ev T=.bool v) (h:if v=true then WB tab rd a T H Q else WB tab rd b T H Q):WB tab rd (.cond c a b) T H Q:=by
 cases v with
 | true =>
  obtain ⟨x,T1,H1,⟨N1,g1⟩,h1⟩:=h;exact ⟨x,T1,H1,⟨N1,fun m n hm hn=>by simp only [aK,hc]; exact g1 m n hm hn⟩,h1⟩
 | false =>
  obtain ⟨x,T1,H1,⟨N1,g1⟩,h1⟩:=h;exact ⟨x,T1,H1,⟨N1,fun m n hm hn=>by simp only [aK,hc]; exact g1 m n hm hn⟩,h1⟩
def M3 {id:Nat} {a:ACode} {T:Tm} {H:Heap} {Q:Ex->Tm->Heap->Prop} (h:WB tab rd a T H (uC id Q)):WB tab rd (.block id a) T H Q:=by
 obtain ⟨x,T1,H1,⟨N1,g1⟩,h1⟩:=h;cases x with
 | exit id' =>
  simp only [uC] at h1;by_cases hi:id'=id
  ·rw [if_pos hi] at h1;exact ⟨.nrm,T1,H1,⟨N1,fun m n hm hn=>by simp only [aK,g1 m n hm hn,if_pos hi]⟩,h1⟩
  ·rw [if_neg hi] at h1;exact ⟨.exit id',T1,H1,⟨N1,fun m n hm hn=>by simp only [aK,g1 m n hm hn,if_neg hi]⟩,h1⟩
 | nrm=>exact ⟨_,T1,H1,⟨N1,fun m n hm hn=>by simp only [aK,g1 m n hm hn]⟩,h1⟩
 | goto l=>exact ⟨_,T1,H1,⟨N1,fun m n hm hn=>by simp only [aK,g1 m n hm hn]⟩,h1⟩
 | ret=>exact ⟨_,T1,H1,⟨N1,fun m n hm hn=>by simp only [aK,g1 m n hm hn]⟩,h1⟩
def PR {T:Tm} {H:Heap} {Q:Ex->Tm->Heap->Prop} (h:Q .nrm T H):WB tab rd .skip T H Q:=⟨.nrm,T,H,⟨0,fun _ _ _ _=>rfl⟩,h⟩
def PS {i:Nat} {T:Tm} {H:Heap} {Q:Ex->Tm->Heap->Prop} (h:Q (.exit i) T H):WB tab rd (.exit i) T H Q:=⟨.exit i,T,H,⟨0,fun _ _ _ _=>rfl⟩,h⟩
def Dn {body:ACode} {Q:Ex->Tm->Heap->Prop} (Inv:Nat->Tm->Heap->Prop)
  (hr:∀ k T H,Inv k T H->WB tab rd body T H (Il Inv k Q)):∀ (k:Nat) (T:Tm) (H:Heap),Inv k T H->WB tab rd (.loop body) T H Q:=by
 have key:∀ (k:Nat) (T:Tm) (H:Heap),Inv k T H->∃ x T' H',Q x T' H'/\∃ N,∀ m n j,N<=m->N<=n->N<=j->AT (aK (lx tab eH m n) m rd body) j T H=some (x,T',H'):=by
  intro k
  induction k using Nat.strongRecOn with
  | _ k ih =>
   intro T H hI;obtain ⟨x,T1,H1,⟨N1,g1⟩,h1⟩:=hr k T H hI;by_cases hx:x=.nrm
   ·subst hx;obtain ⟨k',hk,hI'⟩:=h1;obtain ⟨y,T2,H2,hq,N2,g2⟩:=ih k' hk T1 H1 hI';refine ⟨y,T2,H2,hq,N1+N2+1,fun m n j hm hn hj=>?_⟩;obtain ⟨j',rfl⟩:∃ j',j=j'+1:=⟨j-1,zO⟩
    unfold AT;rw [g1 m n zO zO];exact g2 m n j' zO zO zO
   ·refine ⟨x,T1,H1,by cases x <;> first | exact h1 | exact absurd rfl hx,N1+1,fun m n j hm hn hj=>?_⟩;obtain ⟨j',rfl⟩:∃ j',j=j'+1:=⟨j-1,zO⟩
    unfold AT;rw [g1 m n zO zO];cases x <;> first | rfl | exact absurd rfl hx
 intro k T H hI;obtain ⟨x,T',H',hq,N,g⟩:=key k T H hI;exact ⟨x,T',H',⟨N,fun m n hm hn=>g m n m hm hn hm⟩,hq⟩
def WB.wcLoop {id:Nat} {body:ACode} {T:Tm} {H:Heap} {Q:Ex->Tm->Heap->Prop} (h:WB tab rd (.loop body) T H (uC id Q)):WC tab rd (.block id (.loop body)) T H Q:=by
 rw [ES];exact ⟨h⟩
def LN (id id1:Nat) (P:Tm->Heap->Prop) (Q:Ex->Tm->Heap->Prop) (x:Ex) (T:Tm) (H:Heap):Prop:=match x with
 | .nrm=>P T H
 | .exit e=>if e=id1 then P T H else if e=id then Q .nrm T H else Q (.exit e) T H
 | x=>Q x T H
section
variable {id id1:Nat} {P:Tm->Heap->Prop} {Q:Ex->Tm->Heap->Prop} {T:Tm} {H:Heap}
theorem Ox:LN id id1 P Q .nrm T H=P T H:=rfl
theorem Ow:LN id id1 P Q .ret T H=Q .ret T H:=rfl
theorem LL (l:Nat):LN id id1 P Q (.goto l) T H=Q (.goto l) T H:=rfl
theorem LM (e:Nat):LN id id1 P Q (.exit e) T H=iteH (e=id1) (P T H) (iteH (e=id) (Q .nrm T H) (Q (.exit e) T H) () ()) () ():=rfl
end
def Rg (L i n c k:Nat) (D live:List Nat):Bool :=
 decide (i<L) && decide (n<L) && decide (c<L) && decide (k<L) && i != n && i != c && i != k && n != c && n != k && c != k && !D.contains i && !D.contains n && live.all fun s=>s != i && s != c && s != k
def aq {id id1 i n c k:Nat} {body:ACode} {T:Tm} {H:Heap} {Q:Ex->Tm->Heap->Prop} {L a N:Nat} (H0:Heap) (live:List Nat) (P:Nat->List AV->Heap->Prop)
  (hl:T.length=L) (ha:ad T i=.int .i64 (a:Int)) (hn:ad T n=.int .i64 (N:Int)) (haN:a<=N) (hN:N<9223372036854775807) (hok:Rg L i n c k (fH body) live=true) (hp:iC body=true)
  (hup:∀ j vs H m,P j vs H->P j vs (H.up m))
  (hk0:Kp H0 H) (h0:P a (live.map (ad T)) H)
  (hb:∀ j T1 H1,a<=j->j<N->T1.length=L->ad T1 i=.int .i64 (j:Int)->Same (i :: c :: k :: fH body) T T1->Kp H0 H1->P j (live.map (ad T1)) H1 ->
   WC tab rd body T1 H1 (LN id id1 (fun T2 H2=>Kp H0 H2/\P (j+1) (live.map (ad T2)) H2) Q))
  (he:∀ T1 H1,T1.length=L->Same (i :: c :: k :: fH body) T T1->Kp H0 H1->P N (live.map (ad T1)) H1->Q .nrm T1 H1) :
  WC tab rd (QG id id1 i n c k body) T H Q:=by
 have hok':=hok;simp only [Rg,VG,decide_eq_true_eq,bne_iff_ne,ne_eq,V8,Vy] at hok;obtain ⟨⟨⟨⟨⟨⟨⟨⟨⟨⟨⟨⟨o1,o2⟩,o3⟩,o4⟩,o5⟩,o6⟩,o7⟩,o8⟩,o9⟩,o10⟩,o11⟩,o12⟩,o13⟩:=hok;have hDi:i ∉ fH body:=fun h=>by rw [WY.2 h] at o11; cases o11
 have hDn:n ∉ fH body:=fun h=>by rw [WY.2 h] at o12; cases o12
 have hnS:n ∉ i :: c :: k :: fH body:=by
  simp only [VA,not_or]; exact ⟨fun h=>o5 h.symm,o8,o9,hDn⟩
 have hlive:∀ {T1 T2:Tm},(∀ s,s≠i->s≠c->s≠k->ad T2 s=ad T1 s)->live.map (ad T2)=live.map (ad T1):=fun h=>by
  refine WV fun s hs=>?_;obtain ⟨⟨q1,q2⟩,q3⟩:=o13 s hs;exact h s q1 q2 q3
 unfold QG;refine WB.wcLoop ?_;refine Dn (fun r T1 H1=>∃ j,r=N-j/\a<=j/\j<=N/\T1.length=L/\ad T1 i=.int .i64 (j:Int)/\Same (i :: c :: k :: fH body) T T1/\Kp H0 H1/\P j (live.map (ad T1)) H1) ?_ (N-a) T H ⟨a,rfl,Vb _,haN,hl,ha,Same.refl _ _,hk0,h0⟩;rintro r T1 H1 ⟨j,rfl,haj,hjN,hl1,hi1,hs1,hk1,hP1⟩;have hn1:ad T1 n=.int .i64 (N:Int):=(hs1.at_ n hnS).trans hn;refine zy (WC.wb ?_);rw [Ha];simp only [DO,zr,Dh,Hd,SG,hi1,hn1,Kd,wV,iI];have hk2:Kp H0 (H1.up 1):=hk1.up 1;have hP2:P j (live.map (ad (T1.set c (.bool (decide ((j:Int)<(N:Int))))))) (H1.up 1):=by
  rw [hlive (T1:=T1) fun s q1 q2 q3=>lV _ _ _ _ (Ne.symm q2)];exact hup _ _ _ _ hP1
 have hs2:Same (i :: c :: k :: fH body) T (T1.set c (.bool (decide ((j:Int)<(N:Int))))) :=
  (hs1.trans (Same.put T1 (some c) (.bool (decide ((j:Int)<(N:Int)))))).wide fun s hs=>by
   rcases Vu.1 hs with hs | hs
   ·exact hs
   ·simp only [Ze,V7] at hs; subst hs; simp
 have hl2:(T1.set c (.bool (decide ((j:Int)<(N:Int))))).length=L:=by simp [hl1]
 have hi2:ad (T1.set c (.bool (decide ((j:Int)<(N:Int))))) i=.int .i64 (j:Int):=by rw [lV _ _ _ _ (Ne.symm o6)]; exact hi1
 have hc2:ad (T1.set c (.bool (decide ((j:Int)<(N:Int))))) c=.bool (decide ((j:Int)<(N:Int))):=by
  rw [vH _ _ _ _ zO,if_pos rfl]
 generalize hT2:T1.set c (.bool (decide ((j:Int)<(N:Int))))=T2 at hP2 hs2 hl2 hi2 hc2 ⊢
 refine zy (PT (v:=decide ((j:Int)<(N:Int))) hc2 ?_);by_cases hj:j<N
 ·have e1:decide ((j:Int)<(N:Int))=true:=by simp; omega
  rw [if_pos e1];refine PR ?_;refine zy (M3 ?_);refine (((hb j T2 (H1.up 1) haj hj hl2 hi2 hs2 hk2 hP2).wb).same hp).mono ?_;rintro x T3 H3 ⟨hs3,hq⟩;have fin:Kp H0 H3/\P (j+1) (live.map (ad T3)) H3->WB tab rd (.region [⟨some k,.bin .add .int (.t i) (.c (.int .i64 1)),none⟩,⟨some i,.mv (.t k),none⟩]) T3 H3 (Il (fun r T1 H1=>∃ j,r=N-j/\a<=j/\j<=N/\T1.length=L/\ad T1 i=.int .i64 (j:Int)/\Same (i :: c :: k :: fH body) T T1/\Kp H0 H1/\P j (live.map (ad T1)) H1) (N-j) (uC id Q)):=by
   rintro ⟨hk3,hP3⟩;have hi3:ad T3 i=.int .i64 (j:Int):=(hs3.at_ i hDi).trans hi2;have hl3:T3.length=L:=hs3.len.trans hl2;have hwr:IntKind.i64.wrap ((j:Int)+1)=((j+1:Nat):Int):=by rw [wrap_i64 zO zO]; simp
   refine WC.wb ?_;rw [Ha];simp only [DO,zr,Dh,Hd,Q7,Ja,SG,TL,hi3,EI,wV,iI,hwr];rw [vH _ _ _ _ zO,if_pos rfl,FJ];refine ⟨N-(j+1),zO,j+1,rfl,zO,zO,by simp [hl3],?_,?_,hk3.up _,?_⟩
   ·rw [vH _ _ _ _ zS,if_pos rfl]
   ·refine ((hs2.trans hs3).trans ((Same.put T3 (some k) _).trans (Same.put _ (some i) _))).wide fun s hs=>?_;rcases Vu.1 hs with hs | hs
    ·rcases Vu.1 hs with hs | hs
     ·exact hs
     ·exact Vd _ (Vd _ (Vd _ hs))
    ·rcases Vu.1 hs with hs | hs
     ·simp only [Ze,V7] at hs; subst hs; simp
     ·simp only [Ze,V7] at hs; subst hs; simp
   ·rw [hlive (T1:=T3) fun s q1 q2 q3=>by rw [lV _ _ _ _ (Ne.symm q1),lV _ _ _ _ (Ne.symm q3)]];exact hup _ _ _ _ hP3
  cases x with
  | nrm=>exact fin hq
  | exit e =>
   simp only [LN] at hq;simp only [uC];by_cases h1:e=id1
   ·rw [if_pos h1] at hq ⊢; exact fin hq
   ·rw [if_neg h1] at hq ⊢;simp only [Il,uC]; exact hq
  | goto l=>exact hq
  | ret=>exact hq
 ·have e1:decide ((j:Int)<(N:Int))=false:=by simp; omega
  have:j=N:=zO
  subst this;rw [if_neg (by rw [e1]; simp)];refine PS ?_;show uC id Q (.exit id) T2 (H1.up 1);simp only [uC,if_pos];exact he T2 (H1.up 1) hl2 hs2 hk2 hP2
def RN (id:Nat) (P:Tm->Heap->Prop) (Q:Ex->Tm->Heap->Prop) (x:Ex) (T:Tm) (H:Heap):Prop:=match x with
 | .nrm=>P T H
 | .exit e=>if e=id then Q .nrm T H else Q (.exit e) T H
 | x=>Q x T H
section
variable {id:Nat} {P:Tm->Heap->Prop} {Q:Ex->Tm->Heap->Prop} {T:Tm} {H:Heap}
theorem PN:RN id P Q .nrm T H=P T H:=rfl
theorem PM:RN id P Q .ret T H=Q .ret T H:=rfl
theorem MY (l:Nat):RN id P Q (.goto l) T H=Q (.goto l) T H:=rfl
theorem MZ (e:Nat):RN id P Q (.exit e) T H=iteH (e=id) (Q .nrm T H) (Q (.exit e) T H) () ():=rfl
end
def cm {id:Nat} {c:ACode} {T:Tm} {H:Heap} {Q:Ex->Tm->Heap->Prop} {L:Nat} (H0:Heap) (live:List Nat) (P:Nat->List AV->Heap->Prop) (k0:Nat)
  (hl:T.length=L) (hp:iC c=true) (hk0:Kp H0 H) (h0:P k0 (live.map (ad T)) H)
  (hb:∀ k T1 H1,T1.length=L->Same (fH c) T T1->Kp H0 H1->P k (live.map (ad T1)) H1->WC tab rd c T1 H1 (RN id (fun T2 H2=>Kp H0 H2/\∃ k',k'<k/\P k' (live.map (ad T2)) H2) Q)):WC tab rd (O0 id c) T H Q:=by
 unfold O0;refine WB.wcLoop ?_;refine Dn (fun k T1 H1=>T1.length=L/\Same (fH c) T T1/\Kp H0 H1/\P k (live.map (ad T1)) H1) ?_ k0 T H ⟨hl,Same.refl _ _,hk0,h0⟩;rintro k T1 H1 ⟨hl1,hs1,hk1,hP1⟩;refine ((hb k T1 H1 hl1 hs1 hk1 hP1).wb.same hp).mono ?_;rintro x T2 H2 ⟨hs2,hq⟩;cases x with
 | nrm =>
  obtain ⟨hk2,k',hk',hP2⟩:=hq;exact ⟨k',hk',hs2.len.trans hl1,(hs1.trans hs2).wide fun s hs=>by simpa using hs,hk2,hP2⟩
 | exit e=>exact hq
 | goto l=>exact hq
 | ret=>exact hq
end
def Um (e:Option Ent) (k:Option Nat) (o:Nat):Option AV:=match e with
 | some (.cells cs _ _)=>aY cs o k
 | _=>none
def Su (H:Heap) (k:Option Nat) (b o:Nat):aX H k (.ptr b o)=Um (H.get b) k o:=by
 simp only [aX,Um];cases H.get b with
 | none=>rfl
 | some e=>cases e <;> rfl
theorem Ly (cs:List AV) (ty:Nat) (rw:Bool) (k:Option Nat) (o:Nat):Um (some (.cells cs ty rw)) k o=aY cs o k:=rfl
def BY (e:Option Ent) (n o:Nat) (v:AV):Option Ent:=match e with
 | some (.cells cs ty true)=>if v.cells.length=n/\o+n<=cs.length/\v.cells.all AV.one=true then some (.cells (cs.take o++v.cells++cs.drop (o+n)) ty true) else none
 | _=>none
def R7 (H:Heap) (n b o:Nat) (v:AV):qH H n (.ptr b o) v=(BY (H.get b) n o v).map fun e=>H.put b e:=by
 simp only [qH,BY];split
 ·rename_i cs ty h;simp only [h];split <;> rfl
 ·rename_i h;split
  ·rename_i cs ty hg;exact absurd hg (h cs ty)
  ·rfl
def fits (v:AV) (n:Nat) (cs:List AV):Prop:=v.cells=cs/\cs.length=n/\cs.all AV.one=true
def gh {cs vs:List AV} {ty n o:Nat} {v:AV} (h:fits v n vs) (ho:o+n<=cs.length):BY (some (.cells cs ty true)) n o v=some (.cells (cs.take o++vs++cs.drop (o+n)) ty true):=by
 obtain ⟨rfl,h2,h3⟩:=h;simp only [BY];rw [if_pos ⟨h2,ho,h3⟩]
theorem Lk {α β:Type} (f:α->β) (a:α):(some a).map f=some (f a):=rfl
theorem UP (a:AV) (l:List AV):aY (a :: l) 0 none=some a:=rfl
theorem UO (a b:AV) (l:List AV):aY (a :: b :: l) 1 none=some b:=rfl
theorem UB (a b c:AV) (l:List AV):aY (a :: b :: c :: l) 2 none=some c:=rfl
theorem Uf (a b:AV):aY [a,b] 0 (some 2)=some (.agg [a,b]):=rfl
theorem Ue (a b c:AV):aY [a,b,c] 0 (some 3)=some (.agg [a,b,c]):=rfl
def One (v:AV):Prop:=v.cells=[v]/\v.one=true
def One.fits {v:AV} (h:One v):fits v 1 [v]:=⟨h.1,rfl,by simp [h.2]⟩
def am (b:Bool):One (.bool b):=⟨rfl,rfl⟩
def bp (k:IntKind) (n:Int):One (.int k n):=⟨rfl,rfl⟩
def cO (f:Fn) (a b:List AV):One (.fn f a b):=⟨rfl,rfl⟩
def bX (b o:Nat):One (.ptr b o):=⟨rfl,rfl⟩
def bF:One .nilSl:=⟨rfl,rfl⟩
def bP (b o n c z:Nat) (x:Bool):One (.own b o n c z x):=⟨rfl,rfl⟩
def cW (cs:List AV) (n:Nat):One (.sl cs n):=⟨rfl,rfl⟩
def cp (b:Nat):One (.map b):=⟨rfl,rfl⟩
def Rd.one {H:Heap} {sz:Nat} {v:AV} {cells:List AV} (h:Rd H sz v cells):One v:=by
 obtain ⟨-,h1,n,hn,-⟩:=h;cases v <;> first | exact ⟨rfl,rfl⟩ | exact absurd rfl (h1 _) | (simp [gP] at hn; done)
def GH {v:AV} (h:One v):fJ v=some [v]:=by
 unfold fJ; rw [h.1]; simp [h.2]
def A4 {a b:AV} (ha:One a) (hb:One b):fits (.agg [a,b]) 2 [a,b]:=⟨rfl,rfl,by simp [ha.2,hb.2]⟩
def OY {a b:AV} (ha:One a) (hb:One b):fJ (.agg [a,b])=some [a,b]:=by
 simp [fJ,AV.cells,ha.2,hb.2]
def SP {x y a b:AV} (ha:One a) (hb:One b):fu [x,y] [((0,1),a),((1,1),b)]=some (.agg [a,b]):=by
 simp [fu,cG,ha.1,ha.2,hb.1,hb.2]
def TJ {x a:AV} (ha:One a):cG [x] [((0,1),a)]=some [a]:=by simp [cG,ha.1,ha.2]
def Rh {x y a b:AV} (ha:One a) (hb:One b):cG [x,y] [((0,1),a),((1,1),b)]=some [a,b]:=by simp [cG,ha.1,ha.2,hb.1,hb.2]
def Uh {cs:List AV} {ty o:Nat} {v:AV} (h:One v):BY (some (.cells cs ty true)) 1 o v=if o<cs.length then some (.cells (cs.set o v) ty true) else none:=by
 simp only [BY,h.1];by_cases ho:o<cs.length
 ·rw [if_pos ⟨rfl,zO,by simp [h.2]⟩,if_pos ho];congr 2;rw [XH,if_pos ho]
  simp
 ·rw [if_neg (fun h=>ho (by have:=h.2.1; omega)),if_neg ho]
def Ug {x y a b:AV} {ty:Nat} (ha:One a) (hb:One b):BY (some (.cells [x,y] ty true)) 2 0 (.agg [a,b])=some (.cells [a,b] ty true):=by
 simp [BY,AV.cells,ha.2,hb.2]
def TI {x y z a b c:AV} (ha:One a) (hb:One b) (hc:One c):cG [x,y,z] [((0,1),a),((1,1),b),((2,1),c)]=some [a,b,c]:=by simp [cG,ha.1,ha.2,hb.1,hb.2,hc.1,hc.2]
def SD {p q r t a b c d:AV} (ha:One a) (hb:One b) (hc:One c) (hd:One d):cG [p,q,r,t] [((0,2),.agg [a,b]),((2,2),.agg [c,d])]=some [a,b,c,d]:=by
 simp [cG,AV.cells,ha.2,hb.2,hc.2,hd.2]
def Oy {p q a b:AV} (ha:One a) (hb:One b):cG [p,q] [((0,2),.agg [a,b])]=some [a,b]:=by
 simp [cG,AV.cells,ha.2,hb.2]
theorem SQ (z:List AV):fu z []=some (.agg z):=rfl
def Sy {H H':Heap} {b:Nat} {e:Ent} (h1:H.next<=b) (h2:b<H'.next):Kp H (H'.put b e) ↔ Kp H H':=by
 refine ⟨fun h=>⟨h.wf0,fun c e' hc=>?_,h.le,fun c hc=>?_⟩,fun h=>h.put h1 h2⟩
 ·by_cases hb:c=b
  ·rw [hb]; exact h2
  ·exact h.wf c e' (by rw [az hb]; exact hc)
 ·have:=h.same c hc
  rwa [az zO] at this
def aJ {H:Heap} {b:Nat} {e:Ent} (h:H.get b=none):Sub H (H.put b e):=(Sub.refl H).put h e
def QA {H H':Heap} {b:Nat} (h1:H.next<=b) (h:Kp H H'):Kp H (H'.kill b) ↔ True:=⟨fun _=>trivial,fun _=>h.kill h1⟩
def TB {H H':Heap} {k:Nat} (h:Kp H H'):Kp H (H'.up k) ↔ True:=⟨fun _=>trivial,fun _=>h.up k⟩
def Sx {H:Heap} {k:Nat} (h:Wf H):Kp H (H.up k) ↔ True:=⟨fun _=>trivial,fun _=>(Kp.refl h).up k⟩
def Qz {H:Heap} (h:Wf H):Kp H H ↔ True:=⟨fun _=>trivial,fun _=>Kp.refl h⟩
def RO {H:Heap} {b:Nat} {e:Ent} (h2:b<H.next):Wf (H.put b e) ↔ Wf H:=by
 refine ⟨fun h c e' hc=>?_,fun h=>h.put h2 e⟩;by_cases hb:c=b
 ·rw [hb]; exact h2
 ·exact h c e' (by rw [az hb]; exact hc)
def Tc {H:Heap} {k:Nat} (h:Wf H):Wf (H.up k) ↔ True:=⟨fun _=>trivial,fun _=>h.bump k⟩
def PO {H:Heap} {b:Nat} (h:Wf H):Wf (H.kill b) ↔ True:=⟨fun _=>trivial,fun _=>h.kill b⟩
structure Ldd (H:Heap) (k:Option Nat) (p w:AV):Prop where
 ld:aX H k p=some w
 put:∀ H' b e,H.next<=b->aX (H'.put b e) k p=aX H' k p
 kill:∀ H' b,H.next<=b->aX (H'.kill b) k p=aX H' k p
theorem Of (H:Heap) (m:Nat) (k:Option Nat) (p:AV):aX (H.up m) k p=aX H k p:=rfl
def bE {H H':Heap} (h:Sub H H') {k:Option Nat} {p w:AV} (hl:aX H k p=some w):aX H' k p=some w:=by
 unfold aX at hl ⊢;split at hl
 ·split at hl
  ·rename_i hb;rw [h.get _ _ hb]; exact hl
  ·cases hl
 ·exact hl
 ·cases hl
def Ldd.of {H:Heap} (hw:Wf H) {k:Option Nat} {p w:AV} (h:aX H k p=some w):Ldd H k p w:=by
 refine ⟨h,fun H' b e hb=>?_,fun H' b hb=>?_⟩
 all_goals
  cases p with
  | ptr c o =>
   have:c<H.next:=by
    simp only [aX] at h;split at h
    ·rename_i hc; exact hw c _ hc
    ·cases h
   simp only [aX]
   first | rw [az zO] | rw [cD zO]
  | _=>rfl
def Ldd.mono {H H':Heap} (h:Kp H H') {k:Option Nat} {p w:AV} (hl:Ldd H k p w):Ldd H' k p w:=Ldd.of h.wf (bE h.sub hl.ld)
def SubT (tys:List Nat) (H H':Heap):Prop:=∀ b cs t r,t∈tys->H.get b=some (.cells cs t r)->H'.get b=some (.cells cs t r)
def Sub.t {H H':Heap} (h:Sub H H') (tys:List Nat):SubT tys H H':=fun b cs t r _ hb=>h.get b _ hb
def SubT.of {tys tys':List Nat} {H H':Heap} (h:SubT tys H H') (hs:∀ t,t∈tys'->t∈tys):SubT tys' H H':=fun b cs t r ht hb=>h b cs t r (hs t ht) hb
def Uz (H:Heap) (ty:Nat) (v:AV):Prop:=∀ b off n c z x,v=.own b off n c z x->∃ cs r,H.get b=some (.cells cs ty r)
structure fw (α:Type) where
 sz:Nat
 tys:List Nat
 R:Heap->List AV->α->Prop
 pos:0<sz
 len:∀ {H cs a},R H cs a->cs.length=sz/\cs.all AV.one=true
 mono:∀ {H H' cs a},SubT tys H H'->R H cs a->R H' cs a
variable {α:Type}
def Cells (E:fw α) (H:Heap) (cells:List AV) (l:List α):Prop:=cells.length=l.length*E.sz/\∀ i a,l[i]? = some a->E.R H ((cells.drop (i*E.sz)).take E.sz) a
def SlV (E:fw α) (ty:Nat) (H:Heap) (v:AV) (l:List α):Prop:=∃ cells,Rd H E.sz v cells/\Uz H ty v/\Cells E H cells l
def Cells.mono {E:fw α} {H H':Heap} (h:SubT E.tys H H') {cells:List AV} {l:List α} (hc:Cells E H cells l):Cells E H' cells l:=⟨hc.1,fun i a hi=>E.mono h (hc.2 i a hi)⟩
def SlV.monoT {E:fw α} {ty:Nat} {H H':Heap} (h:SubT (ty :: E.tys) H H') {v:AV} {l:List α} (hs:SlV E ty H v l):SlV E ty H' v l:=by
 obtain ⟨cells,⟨h0,h1,n,h2,h3⟩,ht,hc⟩:=hs;refine ⟨cells,⟨h0,h1,n,h2,?_⟩,fun b off n c z x e=>?_,hc.mono (h.of fun t ht=>Vd _ ht)⟩
 ·unfold aN at h3 ⊢;split at h3
  ·rename_i b off n' c sz ex;obtain ⟨cs,r,hb⟩:=ht b off _ c sz ex rfl;rw [hb] at h3;rw [h b cs ty r (Vh ..) hb]; exact h3
  ·exact h3
  ·exact h3
  ·exact h3
  ·cases h3
 ·obtain ⟨cs,r,hb⟩:=ht b off n c z x e;exact ⟨cs,r,h b cs ty r (Vh ..) hb⟩
def SlV.mono {E:fw α} {ty:Nat} {H H':Heap} (h:Sub H H') {v:AV} {l:List α} (hs:SlV E ty H v l):SlV E ty H' v l:=hs.monoT (h.t _)
def SlV.one {E:fw α} {ty:Nat} {H:Heap} {v:AV} {l:List α} (hs:SlV E ty H v l):One v:=by
 obtain ⟨cells,h1,h2⟩:=hs; exact h1.one
def SlV.nil (E:fw α) (ty:Nat) (H:Heap):SlV E ty H .nilSl []:=⟨[],Rd.nil H E.sz,(fun _ _ _ _ _ _ e=>by cases e),by simp,fun i a h=>by simp at h⟩
def SlV.lenV {E:fw α} {ty:Nat} {H:Heap} {v:AV} {l:List α} (hs:SlV E ty H v l):lenV v=some (.int .i64 (l.length:Int)):=by
 obtain ⟨cells,h1,-,h2⟩:=hs;exact JH h1 h2.1 E.pos
def SlV.idx {E:fw α} {ty:Nat} {H:Heap} {v:AV} {l:List α} (hs:SlV E ty H v l) (k:IntKind) (i:Nat) (hi:i<l.length):cI E.sz v (.int k (i:Int))=some (au v (i*E.sz)):=by
 obtain ⟨cells,h1,-,h2⟩:=hs
 have:=E.pos
 refine QE h1 ?_ E.pos;rw [h2.1,<- WP];exact Vl _ hi
def LP {H:Heap} {sz:Nat} {v:AV} {cells:List AV} (h:Rd H sz v cells) (hne:cells≠[]) (off o:Nat):A5 off (au v o)=some (au v (o+off)):=by
 obtain ⟨-,h1,n,hn,hf⟩:=h;cases v with
 | own b f m c s e=>simp [au,A5,Wb]
 | sl cs m=>simp [au,A5]
 | nilSl =>
  simp only [aN] at hf;split at hf
  ·cases hf; exact absurd rfl hne
  ·cases hf
 | str s=>exact absurd rfl (h1 _)
 | _=>simp [gP] at hn
def SlV.fa {E:fw α} {ty:Nat} {H:Heap} {v:AV} {l:List α} (hs:SlV E ty H v l) (hne:0<l.length) (off o:Nat):A5 off (au v o)=some (au v (o+off)):=by
 obtain ⟨cells,h1,-,h2⟩:=hs;refine LP h1 (fun h=>?_) off o
 have:=h2.1
 rw [h] at this
 have:=Zq hne E.pos
 simp at *;omega
def SlV.at {E:fw α} {ty:Nat} {H:Heap} {v:AV} {l:List α} (hs:SlV E ty H v l) {i:Nat} {a:α} (hi:l[i]? = some a):∃ cs,E.R H cs a/\cs.length=E.sz/\(∀ j c,cs[j]? = some c->aX H none (au v (i*E.sz+j))=some c)/\aX H (some E.sz) (au v (i*E.sz))=some (.agg cs):=by
 obtain ⟨cells,h1,-,h2⟩:=hs;have hlt:i<l.length:=(Vm.1 hi).1;have hle:i*E.sz+E.sz<=cells.length:=by rw [h2.1,<- WP]; exact Vl _ hlt
 have:=E.pos
 refine ⟨_,h2.2 i a hi,by simp; omega,fun j c hj=>?_,?_⟩
 ·refine h1.load (by simp) ?_;rw [Vv] at hj;split at hj
  ·rw [Vw] at hj
   simpa [aY] using hj
  ·cases hj
 ·refine h1.load zS ?_;simp only [aY];rw [if_pos hle]
structure Q6 (α:Type) where
 tys:List Nat
 R:Heap->AV->α->Prop
 one:∀ {H v a},R H v a->One v
 mono:∀ {H H' v a},SubT tys H H'->R H v a->R H' v a
def bS (e:Q6 α):fw α where
 sz:=1
 tys:=e.tys
 R H cs a:=∃ v,cs=[v]/\e.R H v a
 pos:=zO
 len:=by rintro H cs a ⟨v,rfl,h⟩; exact ⟨rfl,by simp [(e.one h).2]⟩
 mono:=by rintro H H' cs a hs ⟨v,rfl,h⟩; exact ⟨v,rfl,e.mono hs h⟩
abbrev BR (e:Q6 α) (ty:Nat) (H:Heap) (v:AV) (l:List α):Prop:=SlV (bS e) ty H v l
def SlV.at1 {e:Q6 α} {ty:Nat} {H:Heap} {v:AV} {l:List α} (hs:BR e ty H v l) {i:Nat} {a:α} (hi:l[i]? = some a):∃ c,e.R H c a/\aX H none (au v i)=some c:=by
 obtain ⟨cs,⟨c,rfl,hr⟩,-,h2,-⟩:=hs.at hi;refine ⟨c,hr,?_⟩
 have:=h2 0 c rfl
 simpa [bS] using this
def SlV.idx1 {e:Q6 α} {ty:Nat} {H:Heap} {v:AV} {l:List α} (hs:BR e ty H v l) (k:IntKind) (i:Nat) (hi:i<l.length):cI 1 v (.int k (i:Int))=some (au v i):=by
 have:=SlV.idx hs k i hi
 simpa [bS] using this
def LB (k:IntKind):Q6 Int:=⟨[],fun _ v a=>v=.int k a,fun h=>h ▸ bp _ _,fun _ h=>h⟩
def cj:Q6 Nat:=⟨[],fun _ v a=>v=.int .u64 (a:Int),fun h=>h ▸ bp _ _,fun _ h=>h⟩
def tk (E:fw α) (ty:Nat):Q6 (List α):=⟨ty :: E.tys,SlV E ty,fun h=>h.one,fun h hs=>hs.monoT h⟩
def Cells.take {E:fw α} {H:Heap} {cells:List AV} {l:List α} (h:Cells E H cells l) {n:Nat} (hn:n<=l.length):Cells E H (cells.take (n*E.sz)) (l.take n):=by
 have hm:=Vl E.sz hn;refine ⟨by rw [VC,VC,h.1,Wi hm,Wi hn],fun i a hi=>?_⟩;rw [Vv] at hi;split at hi
 ·rename_i hin
  have:=h.2 i a hi
  have h1:i*E.sz+E.sz<=n*E.sz:=by rw [<- WP]; exact Vl _ hin
  rw [List.drop_take,Xn,Wi zO];exact this
 ·cases hi
def Cells.drop {E:fw α} {H:Heap} {cells:List AV} {l:List α} (h:Cells E H cells l) (n:Nat):Cells E H (cells.drop (n*E.sz)) (l.drop n):=by
 refine ⟨by rw [Wu,Wu,h.1,Nat.sub_mul],fun i a hi=>?_⟩;rw [Vw] at hi
 have:=h.2 _ a hi
 rw [List.drop_drop,<- Wh];exact this
def Cells.append {E:fw α} {H:Heap} {c1 c2:List AV} {l1 l2:List α} (h1:Cells E H c1 l1) (h2:Cells E H c2 l2):Cells E H (c1++c2) (l1++l2):=by
 refine ⟨by rw [Vr,Vr,h1.1,h2.1,Wh],fun i a hi=>?_⟩;by_cases hlt:i<l1.length
 ·rw [VE hlt] at hi
  have:=h1.2 i a hi
  have hle:i*E.sz+E.sz<=c1.length:=by rw [h1.1,<- WP]; exact Vl _ hlt
  rw [List.drop_append_of_le_length zO,Xy (by rw [Wu]; omega)];exact this
 ·rw [VY zO] at hi
  have:=h2.2 _ a hi
  have e:i*E.sz=c1.length+(i-l1.length)*E.sz:=by rw [h1.1,<- Wh]; congr 1; omega
  rw [e,List.drop_append,X9 zO,Xr,XY];exact this
def Cells.nil (E:fw α) (H:Heap):Cells E H [] []:=⟨by simp,fun i a h=>by simp at h⟩
def Cells.one {E:fw α} {H:Heap} {cs:List AV} {a:α} (h:E.R H cs a):Cells E H cs [a]:=by
 refine ⟨by simp [(E.len h).1],fun i b hi=>?_⟩;cases i with
 | zero=>simp at hi; subst hi; simp [<- (E.len h).1]; exact h
 | succ i=>simp at hi
def Cells.set {E:fw α} {H:Heap} {cells cs:List AV} {l:List α} (h:Cells E H cells l) {i:Nat} {a:α} (hi:i<l.length) (hr:E.R H cs a):Cells E H (cells.take (i*E.sz)++cs++cells.drop (i*E.sz+E.sz)) (l.set i a):=by
 have e:l.set i a=l.take i++[a]++l.drop (i+1):=by rw [XH,if_pos hi]; simp
 rw [e]
 have:=h.drop (i+1)
 rw [WP] at this;exact ((h.take (W0 hi)).append (Cells.one hr)).append this
def Cells.ones {E:fw α} {H:Heap} {cells:List AV} {l:List α} (h:Cells E H cells l):cells.all AV.one=true:=by
 rw [Vy];intro c hc;obtain ⟨j,hj,rfl⟩:=Wg hc;have hp:=E.pos;have hlt:j / E.sz<l.length:=by
  apply ZP
  rw [Vt,<- h.1]; exact hj
 have:=(E.len (h.2 (j / E.sz) _ (U7 hlt))).2
 rw [Vy] at this;refine this _ ?_;have hm:j % E.sz<E.sz:=V4 _ hp;have e:=Wj j E.sz;refine Vo (i:=j % E.sz) ?_;rw [Vv,if_pos hm,Vw];rw [Vt,e,U7 hj]
def sq {H:Heap} {ty sz:Nat} {v v':AV} {lo hi mx:Option AV} (ht:Uz H ty v) (h:cw sz v lo hi mx=some v'):Uz H ty v':=by
 intro b off n c z x e;subst e;cases v with
 | own b' off' n' c' z' x' =>
  have hb:b=b':=by
   simp only [cw,bR] at h;split at h
   ·cases h
   ·split at h
    ·simp only [U8,U3] at h;obtain ⟨m,-,h',-,l,-,h⟩:=h;split at h
     ·split at h <;> (cases h; rfl)
     ·cases h
    ·simp only [U8,U3] at h;obtain ⟨h',-,l,-,h⟩:=h;split at h
     ·split at h
      ·cases h; rfl
      ·split at h
       ·cases h; rfl
       ·cases h
     ·cases h
    ·cases h
  subst hb;exact ht _ _ _ _ _ _ rfl
 | sl cs n' =>
  exfalso
  simp only [cw,bR] at h;split at h
  ·simp only [U8,U3] at h;obtain ⟨h',-,l,-,h⟩:=h;split at h <;> cases h
  ·simp only [U8,U3] at h;obtain ⟨m,-,h',-,l,-,h⟩:=h;split at h <;> cases h
  ·cases h
 | nilSl =>
  exfalso
  simp only [cw,bR] at h;split at h
  ·split at h <;> cases h
  ·split at h <;> cases h
  ·cases h
 | str s=>cases h
 | _=>cases h
def SlV.hi {E:fw α} {ty:Nat} {H:Heap} {v:AV} {l:List α} (hs:SlV E ty H v l) (k:IntKind) (n:Nat) (hn:n<=l.length):∃ v',cw E.sz v none (some (.int k (n:Int))) none=some v'/\SlV E ty H v' (l.take n):=by
 obtain ⟨cells,h1,ht,h2⟩:=hs;obtain ⟨v',e,h⟩:=h1.hi (k:=k) (hi:=n) (by rw [h2.1]; exact Vl _ hn) E.pos;exact ⟨v',e,_,h,sq ht e,h2.take hn⟩
def SlV.lo {E:fw α} {ty:Nat} {H:Heap} {v:AV} {l:List α} (hs:SlV E ty H v l) (k:IntKind) (n:Nat) (hn:n<=l.length):∃ v',cw E.sz v (some (.int k (n:Int))) none none=some v'/\SlV E ty H v' (l.drop n):=by
 obtain ⟨cells,h1,ht,h2⟩:=hs;obtain ⟨v',e,h⟩:=h1.lo (k:=k) (lo:=n) (by rw [h2.1]; exact Vl _ hn) E.pos;exact ⟨v',e,_,h,sq ht e,h2.drop n⟩
def SlV.clip {E:fw α} {ty:Nat} {H:Heap} {v:AV} {l:List α} (hs:SlV E ty H v l) (k j:IntKind):∃ v',cw E.sz v none (some (.int k (l.length:Int))) (some (.int j (l.length:Int)))=some v'/\SlV E ty H v' l:=by
 obtain ⟨cells,h1,ht,h2⟩:=hs;obtain ⟨v',e,h⟩:=h1.clip (k:=k) (j:=j) h2.1 E.pos;exact ⟨v',e,_,h,sq ht e,h2⟩
def Own (E:fw α) (ty:Nat) (H0 H:Heap) (b:Nat) (ex:Bool) (v:AV) (l:List α):Prop :=
 ∃ cells,v=.own b 0 l.length l.length E.sz ex/\H.get b=some (.cells cells ty true)/\Cells E H cells l/\H0.next<=b
def Own.sl {E:fw α} {ty:Nat} {H0 H:Heap} {b:Nat} {ex:Bool} {v:AV} {l:List α} (h:Own E ty H0 H b ex v l):SlV E ty H v l:=by
 obtain ⟨cells,rfl,hb,hc,-⟩:=h;exact ⟨cells,Rd.own hb hc.1 (Vb _),fun _ _ _ _ _ _ e=>by cases e; exact ⟨_,_,hb⟩,hc⟩
def Bl (E:fw α) (ty:Nat) (H0 H:Heap) (v:AV) (l:List α):Prop:=(v=.nilSl/\l=[])\/∃ b,Own E ty H0 H b false v l
def Bl.nil {E:fw α} {ty:Nat} {H0 H:Heap}:Bl E ty H0 H .nilSl []:=.inl ⟨rfl,rfl⟩
def Bl.sl {E:fw α} {ty:Nat} {H0 H:Heap} {v:AV} {l:List α} (h:Bl E ty H0 H v l):SlV E ty H v l:=by
 rcases h with ⟨rfl,rfl⟩ | ⟨b,h⟩
 ·exact SlV.nil E ty H
 ·exact h.sl
def Own.monoT {E:fw α} {ty:Nat} {H0 H H':Heap} (hs:SubT (ty :: E.tys) H H') {b:Nat} {ex:Bool} {v:AV} {l:List α} (h:Own E ty H0 H b ex v l):Own E ty H0 H' b ex v l:=by
 obtain ⟨cells,rfl,hb,hc,h0⟩:=h;exact ⟨cells,rfl,hs b _ _ _ (Vh ..) hb,hc.mono (hs.of fun t ht=>Vd _ ht),h0⟩
def Own.mono {E:fw α} {ty:Nat} {H0 H H':Heap} (hs:Sub H H') {b:Nat} {ex:Bool} {v:AV} {l:List α} (h:Own E ty H0 H b ex v l):Own E ty H0 H' b ex v l:=h.monoT (hs.t _)
def Bl.monoT {E:fw α} {ty:Nat} {H0 H H':Heap} (hs:SubT (ty :: E.tys) H H') {v:AV} {l:List α} (h:Bl E ty H0 H v l):Bl E ty H0 H' v l:=by
 rcases h with h | ⟨b,h⟩
 ·exact .inl h
 ·exact .inr ⟨b,h.monoT hs⟩
def Bl.mono {E:fw α} {ty:Nat} {H0 H H':Heap} (hs:Sub H H') {v:AV} {l:List α} (h:Bl E ty H0 H v l):Bl E ty H0 H' v l:=h.monoT (hs.t _)
def Bl.put {E:fw α} {ty:Nat} {H0 H:Heap} {v:AV} {l:List α} (h:Bl E ty H0 H v l) {b:Nat} {e:Ent} (hne:∀ n,v ≠ .own b 0 n n E.sz false) (hs:SubT E.tys H (H.put b e)):Bl E ty H0 (H.put b e) v l:=by
 rcases h with h | ⟨b',cells,rfl,hb,hc,h0⟩
 ·exact .inl h
 ·exact .inr ⟨b',cells,rfl,by rw [az (fun e1=>hne _ (by rw [e1]))]; exact hb,hc.mono hs,h0⟩
def Bl.kill {E:fw α} {ty:Nat} {H0 H:Heap} {v:AV} {l:List α} (h:Bl E ty H0 H v l) {b:Nat} (hne:∀ n,v ≠ .own b 0 n n E.sz false) (hs:SubT E.tys H (H.kill b)):Bl E ty H0 (H.kill b) v l:=by
 rcases h with h | ⟨b',cells,rfl,hb,hc,h0⟩
 ·exact .inl h
 ·exact .inr ⟨b',cells,rfl,by rw [cD (fun e1=>hne _ (by rw [e1]))]; exact hb,hc.mono hs,h0⟩
def SubT.nil (H H':Heap):SubT [] H H':=fun _ _ _ _ h=>by cases h
def SubT.put {tys:List Nat} {H:Heap} {b:Nat} {e:Ent} (h:∀ cs t r,t∈tys->H.get b≠some (.cells cs t r)):SubT tys H (H.put b e):=fun c cs t r ht hc=>by
 rw [az (fun e1=>h cs t r ht (by rw [<- e1]; exact hc))]; exact hc
def SubT.put_ty {tys:List Nat} {H:Heap} {b ty:Nat} {e:Ent} {cs:List AV} {r:Bool} (hb:H.get b=some (.cells cs ty r)) (hty:ty ∉ tys):SubT tys H (H.put b e):=SubT.put fun cs' t r' ht h=>by
 rw [hb] at h; cases h; exact hty ht
def Bl.base {E:fw α} {ty:Nat} {H0 H1 H:Heap} (hs:H0.next<=H1.next) {v:AV} {l:List α} (h:Bl E ty H1 H v l):Bl E ty H0 H v l:=by
 rcases h with h | ⟨b,cells,h1,h2,h3,h4⟩
 ·exact .inl h
 ·exact .inr ⟨b,cells,h1,h2,h3,Vn hs h4⟩
def dI (H:Heap) (id size bytes ty:Nat) (x y:AV):Option (AV × Heap):=match gP y with
 | none=>none
 | some m=>match aN H size m y with
  | none=>none
  | some news=>cU H id size bytes ty x m news (match y with | .own b _ _ _ _ _=>some b | _=>none)
def RE {tab:Nat->Option aA} (ev:Src->AV) (H:Heap) (id:Nat) (Q:AV->Heap->Prop) (size bytes ty:Nat) (z:List AV) (x y:Src) :
  mR tab ev H id (.append size bytes ty z x y) Q=gL (dI H id size bytes ty (ev x) (ev y)) (fun r=>Q r.1 r.2) ():=by rw [Kt]; rfl
def Jy (H:Heap) (id ty size bytes:Nat) (z:List AV) (l c:AV):Option (AV × Heap):=match qa l,qa c with
 | some l,some c=>if l<=c/\bytes*c<=2^47/\c<2^63/\z.length=size then some (.own id 0 l c size true,H.put id (.cells ((List.replicate c z).flatten) ty true)) else none
 | _,_=>none
def S8 {tab:Nat->Option aA} (ev:Src->AV) (H:Heap) (id:Nat) (Q:AV->Heap->Prop) (ty size bytes:Nat) (z:List AV) (l c:Src) :
  mR tab ev H id (.mksl ty size bytes z l c) Q=gL (Jy H id ty size bytes z (ev l) (ev c)) (fun r=>Q r.1 r.2) ():=by rw [Pw]; rfl
def jc (H:Heap) (id ty size bytes:Nat) (z:List AV) (k j:IntKind) (n:Nat) (hb:bytes*n<=140737488355328) (hn:n<9223372036854775808) (hz:z.length=size) :
  Jy H id ty size bytes z (.int k (n:Int)) (.int j (n:Int))=some (.own id 0 n n size true,H.put id (.cells ((List.replicate n z).flatten) ty true)):=by
 simp only [Jy,fY];rw [if_pos ⟨Vb _,hb,hn,hz⟩]
def oK {E:fw α} {H:Heap} {z:List AV} {a:α} (hz:E.R H z a) (n:Nat):Cells E H (List.replicate n z).flatten (List.replicate n a):=by
 induction n with
 | zero=>exact Cells.nil E H
 | succ n ih=>rw [WA,WA,Yf]; exact (Cells.one hz).append ih
def Bl.app {E:fw α} {ty ty2 bytes id:Nat} {H0 H:Heap} {v w:AV} {l l2:List α} (h:Bl E ty H0 H v l) (hty:ty ∉ E.tys) (hk:Kp H0 H) (hy:SlV E ty2 H w l2) (hid:H0.next<=id) (hid2:id<H.next) (hfree:H.get id=none)
  (hne:∀ b n,v=.own b 0 n n E.sz false->∀ off m c z x,w ≠ .own b off m c z x) (hb:(l.length+l2.length)*bytes<=70368744177664) (hl:l.length+l2.length<4611686018427387904) :
  ∃ v' H',dI H id E.sz bytes ty v w=some (v',H')/\Bl E ty H0 H' v' (l++l2)/\Kp H0 H'/\H'.next=H.next/\(∀ b e,H.get b=some e->(∀ n,v ≠ .own b 0 n n E.sz false)->H'.get b=some e)/\(0<l2.length->∃ n,v'=.own id 0 n n E.sz false):=by
 obtain ⟨news,hr,hty2,hc⟩:=hy;obtain ⟨m,hm,hlen⟩:=hr.length;obtain ⟨-,-,m',hm',hf⟩:=hr;rw [hm] at hm'; cases hm';have hml:m=l2.length:=Xm E.pos (by rw [<- hlen,hc.1]);subst hml;obtain ⟨fr,hfr0⟩:∃ fr,(match w with | .own b _ _ _ _ _=>some b | _=>none)=fr:=⟨_,rfl⟩
 have hap:dI H id E.sz bytes ty v w=cU H id E.sz bytes ty v l2.length news fr:=by
  unfold dI;rw [hm];simp only;rw [hf];simp only;rw [hfr0]
 rw [hap];have hones:=hc.ones;have hnf:∀ {b e},H.get b=some e->b≠id:=fun hb e1=>by rw [e1,hfree] at hb; cases hb
 rcases h with ⟨rfl,rfl⟩ | ⟨b,cells,rfl,hb0,hcl,hb1⟩
 ·by_cases h0:l2.length=0
  ·refine ⟨.nilSl,H,by simp only [cU]; rw [if_pos h0],.inl ⟨rfl,by simpa using h0⟩,hk,rfl,fun b e hb _=>hb,fun h=>by omega⟩
  ·refine ⟨_,_,by simp only [cU]; rw [if_neg h0,if_pos ⟨by simpa using hb,by simpa using hl⟩],.inr ⟨id,news,by simp,ap _ _ _,?_,hid⟩,hk.put hid hid2,rfl,fun b e hb _=>?_,fun _=>⟨_,rfl⟩⟩
   ·have:=hc.mono (H':=H.put id (.cells news ty true)) fun c cs t r _ hce=>by rw [az (hnf hce)]; exact hce
    simpa using this
   ·rw [az (hnf hb)]; exact hb
 ·have hbid:b≠id:=hnf hb0;have hfr:fr≠some b:=by
   rw [<- hfr0];cases w with
   | own b' off m c z x =>
    simp only [ne_eq,VL];intro e1; subst e1;exact hne _ _ rfl _ _ _ _ _ rfl
   | _=>simp
  simp only [cU,hb0];rw [if_pos ⟨trivial,hb,hl,trivial,by simp; exact XK hcl.1.symm⟩];by_cases h0:l2.length=0
  ·rw [if_pos zO,if_pos h0];refine ⟨_,H,rfl,.inr ⟨b,cells,?_,hb0,?_,hb1⟩,hk,rfl,fun b e hb _=>hb,fun h=>by omega⟩
   ·simp [h0]
   ·have:l2=[]:=V6 h0
    subst this; simpa using hcl
  ·rw [if_neg zO];simp only [V3,if_false];rw [if_pos ⟨trivial,trivial,hfr,hones⟩];have hsub:∀ c e,H.get c=some e->c≠b->((H.kill b).put id (.cells (cells.take (l.length*E.sz)++news) ty true)).get c=some e:=fun c e hc hcb=>by
    rw [az (hnf hc),cD hcb]; exact hc
   refine ⟨_,_,rfl,.inr ⟨id,_,by simp,ap _ _ _,?_,hid⟩,(hk.kill hb1).put hid hid2,rfl,fun c e hc he=>hsub c e hc fun e1=>?_,fun _=>⟨_,rfl⟩⟩
   ·have hs:SubT E.tys H ((H.kill b).put id (.cells (cells.take (l.length*E.sz)++news) ty true)):=fun c cs t r ht hc=>hsub c _ hc fun e1=>by
     subst e1;rw [hb0] at hc; cases hc;exact hty ht
    have ht:cells.take (l.length*E.sz)=cells:=by rw [<- hcl.1,VD]
    rw [ht] at hs ⊢;exact (hcl.mono hs).append (hc.mono hs)
   ·subst e1;exact he _ rfl
def Bl.push {E:fw α} {ty ty2 bytes id id2 k:Nat} {H0 H:Heap} {v:AV} {l:List α} {cs:List AV} {a:α} (h:Bl E ty H0 H v l) (hty:ty ∉ E.tys) (hk:Kp H0 H) (hr:E.R H cs a) (hid:H.next<=id) (hidk:id<H.next+k) (hid2:H.next<=id2) (hid2k:id2<H.next+k) (hne:id≠id2)
  (hb:(l.length+1)*bytes<=70368744177664) (hl:l.length+1<4611686018427387904) :
  ∃ n H',dI ((H.up k).put id2 (.cells cs ty2 true)) id E.sz bytes ty v (.own id2 0 1 1 E.sz true)=some (.own id 0 n n E.sz false,H')/\Bl E ty H0 H' (.own id 0 n n E.sz false) (l++[a])/\Kp H0 H'/\H'.next=H.next+k/\(∀ b e,H.get b=some e->(∀ n,v ≠ .own b 0 n n E.sz false)->H'.get b=some e):=by
 have hle:=hk.le;have hf:∀ {c},H.next<=c->H.get c=none:=fun hc=>hk.wf.fresh hc
 have hsub:Sub H ((H.up k).put id2 (.cells cs ty2 true)):=(Sub.bump H k).put (hf hid2) _;have hk':Kp H0 ((H.up k).put id2 (.cells cs ty2 true)):=(hk.up k).put zO hid2k;have hy:SlV E ty2 ((H.up k).put id2 (.cells cs ty2 true)) (.own id2 0 1 1 E.sz true) [a]:=by
  have:Own E ty2 H0 ((H.up k).put id2 (.cells cs ty2 true)) id2 true (.own id2 0 1 1 E.sz true) [a]:=⟨cs,rfl,ap _ _ _,Cells.one (E.mono (hsub.t _) hr),zO⟩
  exact this.sl
 obtain ⟨v',H',e1,e2,e3,e4,e5,e6⟩:=(h.mono hsub).app (id:=id) (bytes:=bytes) hty hk' hy zO hidk (by rw [az hne]; exact hf hid) (fun b n hv off m c z x hw=>by
  cases hw;rcases h with ⟨h,-⟩ | ⟨b',cells,h,hb',-⟩
  ·rw [h] at hv; cases hv
  ·rw [h] at hv; cases hv
   have:=hk.wf _ _ hb'
   omega) hb hl
 obtain ⟨n,rfl⟩:=e6 (by simp);exact ⟨n,H',e1,e2,e3,e4,fun b e hbe he=>e5 b e (hsub.get _ _ hbe) he⟩
def Bl.ne {E:fw α} {ty:Nat} {H0 H:Heap} {v:AV} {l:List α} (h:Bl E ty H0 H v l) {b:Nat} {e:Ent} (hb:H.get b=some e) (he:∀ cs,e ≠ .cells cs ty true) (n:Nat):v ≠ .own b 0 n n E.sz false:=by
 intro hv;rcases h with ⟨h,-⟩ | ⟨b',cells,h,hb',-⟩
 ·rw [h] at hv; cases hv
 ·rw [h] at hv; cases hv;rw [hb] at hb'; cases hb';exact he _ rfl
def SlV.app {E:fw α} {ty ty2 bytes id b off:Nat} {H0 H:Heap} {w:AV} {l l2:List α} (h:SlV E ty H (.own b off l.length l.length E.sz true) l) (hk:Kp H0 H) (hy:SlV E ty2 H w l2) (hid:H0.next<=id) (hid2:id<H.next) (hfree:H.get id=none)
  (hb:(l.length+l2.length)*bytes<=70368744177664) (hl:l.length+l2.length<4611686018427387904) :
  ∃ v' H',dI H id E.sz bytes ty (.own b off l.length l.length E.sz true) w=some (v',H')/\SlV E ty H' v' (l++l2)/\Kp H0 H'/\H'.next=H.next/\Sub H H'/\(0<l2.length->Own E ty H0 H' id false v' (l++l2)):=by
 obtain ⟨cells,hr0,ht,hcl⟩:=h;obtain ⟨cs,rw0,hg⟩:=ht _ _ _ _ _ _ rfl;obtain ⟨-,-,n0,hn0,hf0⟩:=hr0;simp only [gP,VL] at hn0;subst hn0;simp only [aN,hg] at hf0;obtain ⟨news,hr,hty2,hc⟩:=hy;obtain ⟨m,hm,hlen⟩:=hr.length;obtain ⟨-,-,m',hm',hf⟩:=hr;rw [hm] at hm'; cases hm';have hml:m=l2.length:=Xm E.pos (by rw [<- hlen,hc.1]);obtain ⟨fr,hfr0⟩:∃ fr,(match w with | .own b _ _ _ _ _=>some b | _=>none)=fr:=⟨_,rfl⟩
 subst hml;have hnf:∀ {b e},H.get b=some e->b≠id:=fun hb e1=>by rw [e1,hfree] at hb; cases hb
 split at hf0
 ·rename_i hcond;cases hf0;have hap:∀ fr,cU H id E.sz bytes ty (.own b off l.length l.length E.sz true) l2.length news fr=if l2.length=0 then some (.own b off l.length l.length E.sz true,H) else some (.own id 0 (l.length+l2.length) (l.length+l2.length) E.sz false,H.put id (.cells ((cs.drop off).take (l.length*E.sz)++news) ty true)):=fun fr=>by
   simp only [cU,hg];rw [if_pos ⟨trivial,hb,hl,trivial,hcond.2.2⟩];by_cases h0:l2.length=0
   ·rw [if_pos zO,if_pos h0,if_pos h0]
   ·rw [if_neg zO,if_neg h0]
    simp
  have e:∀ x,dI H id E.sz bytes ty x w=cU H id E.sz bytes ty x l2.length news fr:=fun x=>by
   unfold dI;rw [hm];simp only;rw [hf];simp only;rw [hfr0]
  by_cases h0:l2.length=0
  ·refine ⟨_,H,by rw [e,hap,if_pos h0],?_,hk,rfl,Sub.refl H,fun h=>by omega⟩
   have:l2=[]:=V6 h0
   subst this;rw [Wy];refine ⟨_,⟨Vb _,(fun s h=>by cases h),l.length,rfl,?_⟩,ht,hcl⟩;simp only [aN,hg];rw [if_pos hcond]
  ·have hs:Sub H (H.put id (.cells ((cs.drop off).take (l.length*E.sz)++news) ty true)):=⟨Vb _,fun c e hc=>by rw [az (hnf hc)]; exact hc⟩
   refine ⟨_,_,by rw [e,hap,if_neg h0],?_,hk.put hid hid2,rfl,hs,fun _=>⟨_,by rw [Vr],ap _ _ _,(hcl.mono (hs.t _)).append (hc.mono (hs.t _)),hid⟩⟩;refine ⟨(cs.drop off).take (l.length*E.sz)++news,Rd.own (ap _ _ _) ?_ (Vb _),fun _ _ _ _ _ _ e=>by cases e; exact ⟨_,_,ap _ _ _⟩,(hcl.mono (hs.t _)).append (hc.mono (hs.t _))⟩;rw [Vr,hcl.1,hc.1,Wh]
 ·cases hf0
def SlV.nilcase {E:fw α} {ty:Nat} {H:Heap} {v:AV} {l:List α} (h:SlV E ty H v l):(v=.nilSl/\l=[])\/bV .eql .sl v .nilSl=some (.bool false):=by
 obtain ⟨cells,⟨-,h1,n,hn,hf⟩,-,hc⟩:=h;cases v with
 | nilSl =>
  simp only [aN] at hf;split at hf
  ·cases hf;refine .inl ⟨rfl,V6 ?_⟩
   have:=hc.1
   have hp:=E.pos;simp only [Xq] at this;rcases Nat.mul_eq_zero.1 this.symm with h | h
   ·exact h
   ·omega
  ·cases hf
 | own b off n c z x=>exact .inr rfl
 | sl cs n=>exact .inr rfl
 | str s=>exact absurd rfl (h1 _)
 | _=>simp [gP] at hn
def aM (l:List Nat):List AV:=l.map fun a=>.int .u64 ((a:Nat):Int)
def oU (l:List Nat):(aM l).length=l.length:=by simp [aM]
def Lw (l:List Nat) (j a:Nat):(aM l).set j (.int .u64 (a:Int))=aM (l.set j a):=by simp [aM,Yy]
def DA {l:List Nat} {j:Nat} (h:j<l.length):aY (aM l) j none=some (.int .u64 ((l.getD j 0:Nat):Int)):=by
 simp [aY,aM,U5,h]
def ut (H:Heap) (l:List Nat):Cells (bS cj) H (aM l) l:=by
 refine ⟨by simp [aM,bS],fun i a hi=>⟨.int .u64 (a:Int),?_,rfl⟩⟩;have hlt:=(Vm.1 hi).1
 apply WM
 intro k;have e:(aM l)[i]? = some (.int .u64 (a:Int)):=by simp [aM,hi]
 simp only [bS,Vv,Vw,WE];cases k with
 | zero=>simpa using e
 | succ k=>simp
def mH (n:Nat):(List.replicate n [AV.int .u64 0]).flatten=aM (List.replicate n 0):=by
 induction n with
 | zero=>rfl
 | succ n ih=>rw [WA,Yf,ih]; rfl
def vA {H0 H:Heap} {b ty:Nat} {l:List Nat} {n:Nat} {ex:Bool} (hb:H.get b=some (.cells (aM l) ty true)) (h0:H0.next<=b) (hn:l.length=n):Own (bS cj) ty H0 H b ex (.own b 0 n n 1 ex) l:=⟨_,by rw [hn]; rfl,hb,ut H l,h0⟩
def ke {b off n c sz j:Nat} {x:Bool} {k:IntKind} (h:j<n):cI sz (.own b off n c sz x) (.int k (j:Int))=some (.ptr b (off+j*sz)):=by
 show aP _ (.indexAddr sz (.t 0) (.t 1))=_;simp [aP,fY,h]
theorem JG (b off n c sz:Nat) (x:Bool):lenV (.own b off n c sz x)=some (.int .i64 (n:Int)):=rfl
def SB {α:Type} {a b:Nat} {x y:α} (h:a<b):(if a<b then x else y)=x:=if_pos h
def uI (o:AOp):Bool:=o.looks || o.isPure
section
variable (tab:Nat->Option aA)
def M2 (base:Nat) (T:Tm) (i:Nat) (d:jx) (s:DS) (K:DS->Prop):Prop:=match d.cls,d.looks with
 | 0,(k,adds) :: _=>uI d.op=true/\mR tab (Src.ev T) (du base s.Es (s.Cs.getD k default) adds) 0 d.op fun v _=>K ⟨s.Vs++[v],s.Cs,s.Es++[none]⟩
 | 1,_=>d.op.makes=true/\mR tab (Src.ev T) (Heap.nil 0) (base+i) d.op fun v H'=>K ⟨s.Vs++[v],s.Cs,s.Es++[H'.get (base+i)]⟩
 | 2,[(k,adds)]=>mR tab (Src.ev T) (du base s.Es (s.Cs.getD k default) adds) (base+i) d.op fun v H'=>K ⟨s.Vs++[v],s.Cs++[H'],s.Es++[none]⟩
 | _,_=>False
def Hg (base:Nat) (d:jx) (s:DS) (K:DS->Prop):Prop:=match d.cls,d.looks with
 | 2,[(k,adds)]=>K ⟨s.Vs++[.tup []],s.Cs++[du base s.Es (s.Cs.getD k default) adds],s.Es++[none]⟩
 | 2,_=>False
 | _,_=>K ⟨s.Vs++[.tup []],s.Cs,s.Es++[none]⟩
def wd (base:Nat) (T0:Tm):Nat->List jx->DS->(DS->Prop)->Prop
 | _,[],s,Q=>Q s
 | i,d :: ds,s,Q=>match bW (cn T0 s.Vs d.uses) d.guard with
  | none=>False
  | some true=>M2 tab base (cn T0 s.Vs d.uses) i d s fun s'=>wd base T0 (i+1) ds s' Q
  | some false=>Hg base d s fun s'=>wd base T0 (i+1) ds s' Q
end
section
variable {tab:Nat->Option aA}
def EV {base i:Nat} {T0:Tm} {d:jx} {s:DS} {K:DS->Prop} (hw:bW (cn T0 s.Vs d.uses) d.guard=some true) (h:M2 tab base (cn T0 s.Vs d.uses) i d s K) :
  ∃ s',K s'/\∃ N,∀ m n,N<=m->N<=n->jV (lx tab eH m n) base T0 i d s=some s':=by
 obtain ⟨dst,op,guard,uses,cls,looks⟩:=d;simp only at hw;unfold M2 at h;simp only at h;split at h
 ·rename_i k adds r;obtain ⟨hz,h⟩:=h;have h:=h.run;obtain ⟨v,H',hk,N,g⟩:=mc h;refine ⟨_,hk,N,fun m n hm hn=>?_⟩;have g:=g m n hm hn;unfold jV;simp only [hw];cases hp:aP (Src.ev (cn T0 s.Vs uses)) op with
  | some w =>
   have:Ax (lx tab eH m n) (Src.ev (cn T0 s.Vs uses)) (du base s.Es (s.Cs.getD k default) adds) 0 op=some (w,du base s.Es (s.Cs.getD k default) adds):=by
    cases op <;> first | (simp only [Ax,hp]; done) | (simp [aP] at hp; done)
   rw [this] at g;cases g; rfl
  | none =>
   have hh:bf (Src.ev (cn T0 s.Vs uses)) (du base s.Es (s.Cs.getD k default) adds) 0 op=some (v,H'):=by
    cases op <;> first | (simp only [Ax,hp] at g; exact g) | (simp [uI,AOp.looks,AOp.isPure] at hz; done)
   have hl:op.looks=true:=by
    cases op <;> first | rfl | (simp [bf] at hh; done) | (simp [uI,AOp.looks,AOp.isPure] at hz; done)
   simp only [hh,hl,if_true]
 ·obtain ⟨hz,h⟩:=h;have h:=h.run;obtain ⟨v,H',hk,N,g⟩:=mc h;refine ⟨_,hk,N,fun m n hm hn=>?_⟩;have g:=g m n hm hn;unfold jV;simp only [hw,hz,if_true];have hp:aP (Src.ev (cn T0 s.Vs uses)) op=none:=by cases op <;> first | rfl | (simp [AOp.makes] at hz; done)
  have hh:bf (Src.ev (cn T0 s.Vs uses)) (Heap.nil 0) (base+i) op=some (v,H'):=by
   cases op <;> first | (simp only [Ax,hp] at g; exact g) | (simp [AOp.makes] at hz; done)
  simp only [hh]
 ·have h:=h.run;obtain ⟨v,H',hk,N,g⟩:=mc h;refine ⟨_,hk,N,fun m n hm hn=>?_⟩;have g:=g m n hm hn;unfold jV;simp only [hw,g]
 ·exact h.elim
def Dm {cal:oA} {base i:Nat} {T0:Tm} {d:jx} {s:DS} {K:DS->Prop} (hw:bW (cn T0 s.Vs d.uses) d.guard=some false) (h:Hg base d s K):∃ s',K s'/\∀ cal,jV cal base T0 i d s=some s':=by
 obtain ⟨dst,op,guard,uses,cls,looks⟩:=d;simp only at hw;unfold Hg at h;simp only at h;split at h
 ·refine ⟨_,h,fun cal=>?_⟩;unfold jV; simp only [hw]
 ·exact h.elim
 ·rename_i h1 h2;refine ⟨_,h,fun cal=>?_⟩;unfold jV;simp only [hw]
def zx {base:Nat} {T0:Tm}:∀ (ds:List jx) (i:Nat) (s:DS) (Q:DS->Prop),wd tab base T0 i ds s Q->∃ s',Q s'/\∃ N,∀ m n,N<=m->N<=n->uA (lx tab eH m n) base T0 i ds s=some s'
 | [],i,s,Q,h=>⟨s,h,0,fun _ _ _ _=>rfl⟩
 | d :: ds,i,s,Q,h=>by
  unfold wd at h;split at h
  ·exact h.elim
  ·rename_i hw;obtain ⟨s1,h1,N1,g1⟩:=EV hw h;obtain ⟨s2,hq,N2,g2⟩:=zx ds _ _ _ h1;refine ⟨s2,hq,N1+N2,fun m n hm hn=>?_⟩;unfold uA;rw [g1 m n zO zO];exact g2 m n zO zO
  ·rename_i hw;obtain ⟨s1,h1,g1⟩:=Dm (cal:=Ts) (i:=i) hw h;obtain ⟨s2,hq,N2,g2⟩:=zx ds _ _ _ h1;refine ⟨s2,hq,N2,fun m n hm hn=>?_⟩;unfold uA;rw [g1];exact g2 m n hm hn
structure WD (tab:Nat->Option aA) (base:Nat) (T0:Tm) (i:Nat) (ds:List jx) (s:DS) (Q:DS->Prop):Prop where
 run:wd tab base T0 i ds s Q
def Dd:WD=wd:=by funext tab b T0 i ds s Q; exact propext ⟨fun h=>h.run,fun h=>⟨h⟩⟩
def AV.beq_refl':∀ v:AV,AV.beq v v=true:=by
 intro v
 induction v using AV.rec (motive_2:=fun l=>AV.beqs l l=true) with
 | undef=>rfl
 | bool b=>simp [AV.beq]
 | int k n=>simp [AV.beq]
 | str s=>simp [AV.beq]
 | nilPtr=>rfl
 | nilSl=>rfl
 | nilFn=>rfl
 | nilIf=>rfl
 | nilMap=>rfl
 | agg cs ih=>simpa [AV.beq] using ih
 | tup cs ih=>simpa [AV.beq] using ih
 | sl cs n ih=>simpa [AV.beq] using ih
 | dp cs n ih=>simpa [AV.beq] using ih
 | own b off n c sz ex=>simp [AV.beq]
 | ptr b off=>simp [AV.beq]
 | fn f a b iha ihb=>simp [AV.beq,iha,ihb]
 | ifc t v ih=>simp [AV.beq,ih]
 | map b=>simp [AV.beq]
 | loopv b=>simp [AV.beq]
 | nil=>rfl
 | cons a l iha ihl=>simp [AV.beqs,iha,ihl]
def lA (tab:Nat->Option aA) (base:Nat) (T:Tm) (Cs:List Heap) (Es:List (Option Ent)) (op:AOp) (w:AV):List (Nat × List Nat)->Prop
 | []=>True
 | (k,adds) :: r=>mR tab (Src.ev T) (du base Es (Cs.getD k default) adds) 0 op (fun v _=>v=w)/\lA tab base T Cs Es op w r
def Im (tab:Nat->Option aA) (base:Nat) (T0:Tm) (Vs:List AV) (Cs:List Heap) (Es:List (Option Ent)) (i:Nat) (d:jx):Prop:=match d.cls with
 | 0=>match d.guard with
  | none=>uI d.op=true/\lA tab base (cn T0 Vs d.uses) Cs Es d.op (Vs.getD i .undef) d.looks
  | some p=>mI (ad (cn T0 Vs d.uses) p.1) p.2 (uI d.op=true/\lA tab base (cn T0 Vs d.uses) Cs Es d.op (Vs.getD i .undef) d.looks) True () ()
 | _+1=>True
def jR (tab:Nat->Option aA) (base:Nat) (T0:Tm) (Vs:List AV) (Cs:List Heap) (Es:List (Option Ent)):Nat->List jx->Prop
 | _,[]=>True
 | i,d :: ds=>Im tab base T0 Vs Cs Es i d/\jR tab base T0 Vs Cs Es (i+1) ds
def Hi (T:Tm) (t:Nat) (w:Bool):bW T (some (t,w))=match ad T t with | .bool b=>some (b == w) | .tup []=>some false | _=>none:=by
 unfold ad;rw [U5];cases h:T[t]? with
 | none=>simp only [bW,h]; rfl
 | some v =>
  simp only [bW,h,WJ];cases v with
  | tup vs=>cases vs <;> rfl
  | _=>rfl
def rt {base:Nat} {T:Tm} {Cs:List Heap} {Es:List (Option Ent)} {op:AOp} {w:AV} (hz:uI op=true) (hp:aP (Src.ev T) op=none):∀ {looks:List (Nat × List Nat)},lA tab base T Cs Es op w looks->(looks.all fun p=>match bf (Src.ev T) (du base Es (Cs.getD p.1 default) p.2) 0 op with | some (v,_)=>AV.beq v w | none=>false)=true
 | [],_=>rfl
 | (k,adds) :: r,h=>by
  obtain ⟨h1,h2⟩:=h;obtain ⟨v,H',rfl,N,g⟩:=mc h1.run;have g:=g N N (Vb _) (Vb _);have hh:bf (Src.ev T) (du base Es (Cs.getD k default) adds) 0 op=some (v,H'):=by
   cases op <;> first | (simp only [Ax,hp] at g; exact g) | (simp [uI,AOp.looks,AOp.isPure] at hz; done)
  rw [List.all_cons,rt hz hp h2];simp only [hh,AV.beq_refl',Bool.and_true]
def Ee {base:Nat} {T0:Tm} {s:DS} {i:Nat} {d:jx} (h:Im tab base T0 s.Vs s.Cs s.Es i d):kj base T0 s i d=true:=by
 obtain ⟨dst,op,g,us,c,looks⟩:=d;cases c with
 | succ c=>rfl
 | zero =>
  cases g with
  | none =>
   obtain ⟨hz,h1⟩:=h;unfold kj;simp only [show bW (cn T0 s.Vs us) none=some true from rfl];cases hp:aP (Src.ev (cn T0 s.Vs us)) op with
   | some v=>rfl
   | none=>exact rt hz hp h1
  | some p =>
   obtain ⟨t,w⟩:=p;unfold Im mI at h;simp only at h;unfold kj;simp only [Hi];cases hg:ad (cn T0 s.Vs us) t with
   | bool b =>
    rw [hg] at h;simp only at h;by_cases hb:b=w
    ·rw [if_pos hb] at h;subst hb;simp only [beq_self_eq_true];cases hp:aP (Src.ev (cn T0 s.Vs us)) op with
     | some v=>rfl
     | none=>exact rt h.1 hp h.2
    ·have:(b == w)=false:=by simpa using hb
     simp only [this]
   | tup vs=>cases vs <;> rfl
   | _=>rw [hg] at h; exact h.elim
def vw {base:Nat} {T0:Tm} {s:DS}:∀ (ds:List jx) (i:Nat),jR tab base T0 s.Vs s.Cs s.Es i ds->lP base T0 s i ds=true
 | [],i,_=>rfl
 | d :: ds,i,h=>by
  unfold lP;rw [vw ds _ h.2,Ee h.1]; rfl
def TM (tab:Nat->Option aA) (base:Nat) (T0:Tm) (ds:List jx) (late:List Nat) (Q:Tm->Heap->Prop) (s:DS):Prop:=jR tab base T0 s.Vs s.Cs s.Es 0 ds/\Q (gn T0 ds s.Vs) (du base s.Es (s.Cs.getLastD default) late)
def aF {rd:Bool} {ds:List jx} {late:List Nat} {T:Tm} {H:Heap} {Q:Ex->Tm->Heap->Prop} (h:WD tab H.next T 0 ds ⟨[],[H.up ds.length],[]⟩ (TM tab H.next T ds late (Q .nrm))):WC tab rd (.draw ds late) T H Q:=by
 obtain ⟨s,⟨hs,hq⟩,N,g⟩:=zx _ _ _ _ h.run;have hs:=vw _ _ hs;refine ⟨.nrm,_,_,⟨N,fun m n hm hn=>?_⟩,hq⟩;simp only [aK,Gc];rw [show ({ H with next:=H.next+ds.length }:Heap)=H.up ds.length from rfl,g m n hm hn];simp only [hs,if_true]
variable {base i k:Nat} {T0:Tm} {dst:Option Nat} {op:AOp} {us:List (Nat × Option Nat)} {adds:List Nat} {r:List (Nat × List Nat)} {ds:List jx} {Vs:List AV} {Cs:List Heap} {Es:List (Option Ent)} {Q:DS->Prop}
theorem RP:WD tab base T0 i [] ⟨Vs,Cs,Es⟩ Q=Q ⟨Vs,Cs,Es⟩:=by rw [Dd]; rfl
theorem PQ:WD tab base T0 i (⟨dst,op,none,us,0,(k,adds) :: r⟩ :: ds) ⟨Vs,Cs,Es⟩ Q=(uI op=true/\mR tab (Src.ev (cn T0 Vs us)) (du base Es (Cs.getD k default) adds) 0 op fun v _=>WD tab base T0 (i+1) ds ⟨Vs++[v],Cs,Es++[none]⟩ Q):=by rw [Dd]; rfl
def PP:WD tab base T0 i (⟨dst,op,none,us,1,r⟩ :: ds) ⟨Vs,Cs,Es⟩ Q=(op.makes=true/\mR tab (Src.ev (cn T0 Vs us)) (Heap.nil 0) (base+i) op fun v H'=>WD tab base T0 (i+1) ds ⟨Vs++[v],Cs,Es++[H'.get (base+i)]⟩ Q):=by
 rw [Dd]
 conv=>lhs; unfold wd
 cases r <;> rfl
theorem RQ:WD tab base T0 i (⟨dst,op,none,us,2,[(k,adds)]⟩ :: ds) ⟨Vs,Cs,Es⟩ Q=mR tab (Src.ev (cn T0 Vs us)) (du base Es (Cs.getD k default) adds) (base+i) op fun v H'=>WD tab base T0 (i+1) ds ⟨Vs++[v],Cs++[H'],Es++[none]⟩ Q:=by rw [Dd]; rfl
def M0 {t:Nat} {w:Bool}:WD tab base T0 i (⟨dst,op,some (t,w),us,0,(k,adds) :: r⟩ :: ds) ⟨Vs,Cs,Es⟩ Q =
  mI (ad (cn T0 Vs us) t) w (uI op=true/\mR tab (Src.ev (cn T0 Vs us)) (du base Es (Cs.getD k default) adds) 0 op fun v _=>WD tab base T0 (i+1) ds ⟨Vs++[v],Cs,Es++[none]⟩ Q) (WD tab base T0 (i+1) ds ⟨Vs++[.tup []],Cs,Es++[none]⟩ Q) () ():=by
 rw [Dd];have hw:bW (cn T0 Vs us) (some (t,w))=match ad (cn T0 Vs us) t with | .bool b=>some (b == w) | .tup []=>some false | _=>none:=by
  generalize cn T0 Vs us=T
  unfold ad;rw [U5];cases h:T[t]? with
  | none=>simp only [bW,h]; rfl
  | some v =>
   simp only [bW,h,WJ];cases v with
   | tup vs=>cases vs <;> rfl
   | _=>rfl
 conv=>lhs; unfold wd
 simp only [hw,mI];cases ad (cn T0 Vs us) t with
 | bool b=>cases b <;> cases w <;> rfl
 | tup vs=>cases vs <;> rfl
 | _=>rfl
theorem M8 (T0:Tm) (Vs:List AV):cn T0 Vs []=List.replicate T0.length .undef:=rfl
theorem M7 (T0:Tm) (Vs:List AV) (u:Nat × Option Nat):cn T0 Vs [u]=(List.replicate T0.length .undef).set u.1 (mS T0 Vs u):=rfl
theorem M6 (T0:Tm) (Vs:List AV) (u v:Nat × Option Nat):cn T0 Vs [u,v]=((List.replicate T0.length .undef).set u.1 (mS T0 Vs u)).set v.1 (mS T0 Vs v):=rfl
theorem Hl (T0:Tm) (Vs:List AV) (u v w:Nat × Option Nat):cn T0 Vs [u,v,w]=(((List.replicate T0.length .undef).set u.1 (mS T0 Vs u)).set v.1 (mS T0 Vs v)).set w.1 (mS T0 Vs w):=rfl
theorem M4 (T0:Tm) (Vs:List AV) (n:Nat):mS T0 Vs (n,none)=ad T0 n:=rfl
theorem M5 (T0:Tm) (Vs:List AV) (n j:Nat):mS T0 Vs (n,some j)=Vs.getD j .undef:=rfl
theorem sS (base:Nat) (Es:List (Option Ent)) (C:Heap):du base Es C []=C:=rfl
theorem qe (base:Nat) (Es:List (Option Ent)) (C:Heap) (a:Nat) (l:List Nat):du base Es C (a :: l)=du base Es (match Es.getD a none with | some e=>C.put (base+a) e | none=>C) l:=rfl
theorem iJ (T:Tm) (d:jx) (ds:List jx) (v:AV) (vs:List AV):gn T (d :: ds) (v :: vs)=gn (putT T d.dst v) ds vs:=rfl
theorem jN (T:Tm) (vs:List AV):gn T [] vs=T:=by cases vs <;> rfl
theorem QK {base:Nat} {T0:Tm} {ds:List jx} {late:List Nat} {Q:Tm->Heap->Prop}:TM tab base T0 ds late Q ⟨Vs,Cs,Es⟩=(jR tab base T0 Vs Cs Es 0 ds/\Q (gn T0 ds Vs) (du base Es (Cs.getLastD default) late)):=rfl
theorem Ss {Vs:List AV} {Cs:List Heap} {Es:List (Option Ent)} {i:Nat}:jR tab base T0 Vs Cs Es i []=True:=rfl
def Qv {g:Option (Nat × Bool)} {r:List (Nat × List Nat)}:jR tab base T0 Vs Cs Es i (⟨dst,op,g,us,1,r⟩ :: ds)=jR tab base T0 Vs Cs Es (i+1) ds:=by
 show (True/\_)=_
 simp
def Qu {g:Option (Nat × Bool)} {r:List (Nat × List Nat)}:jR tab base T0 Vs Cs Es i (⟨dst,op,g,us,2,r⟩ :: ds)=jR tab base T0 Vs Cs Es (i+1) ds:=by
 show (True/\_)=_
 simp
theorem Qt {r:List (Nat × List Nat)}:jR tab base T0 Vs Cs Es i (⟨dst,op,none,us,0,r⟩ :: ds)=((uI op=true/\lA tab base (cn T0 Vs us) Cs Es op (Vs.getD i .undef) r)/\jR tab base T0 Vs Cs Es (i+1) ds):=rfl
theorem Oc {t:Nat} {w:Bool} {r:List (Nat × List Nat)}:jR tab base T0 Vs Cs Es i (⟨dst,op,some (t,w),us,0,r⟩ :: ds)=(mI (ad (cn T0 Vs us) t) w (uI op=true/\lA tab base (cn T0 Vs us) Cs Es op (Vs.getD i .undef) r) True () ()/\jR tab base T0 Vs Cs Es (i+1) ds):=rfl
theorem Sv {T:Tm} {w:AV}:lA tab base T Cs Es op w []=True:=rfl
theorem Qy {T:Tm} {w:AV} {r:List (Nat × List Nat)}:lA tab base T Cs Es op w ((k,adds) :: r)=(mR tab (Src.ev T) (du base Es (Cs.getD k default) adds) 0 op (fun v _=>v=w)/\lA tab base T Cs Es op w r):=rfl
theorem Rt {x:Src}:uI (.mv x)=true:=rfl
theorem Mz {a b c:Src}:uI (.pick a b c)=true:=rfl
theorem Kl {z:List AV} {ps:List ((Nat × Nat) × Src)}:uI (.build z ps)=true:=rfl
theorem Kj {x:Src}:uI (.nilCheck x)=true:=rfl
theorem Pq {o:BinOp} {k:BK} {x y:Src}:uI (.bin o k x y)=true:=rfl
theorem Rs {o:UnOp} {x:Src}:uI (.un o x)=true:=rfl
theorem MC {k:IntKind} {x:Src}:uI (.conv k x)=true:=rfl
theorem MA {f:Fn} {a b:List Src}:uI (.mkfn f a b)=true:=rfl
theorem Ki {n:Nat} {x:Src} {a b c:Option Src}:uI (.slice n x a b c)=true:=rfl
theorem Ru {n:Nat} {x:Src}:uI (.fieldAddr n x)=true:=rfl
theorem Kk {k:Option Nat} {n:Nat} {x:Src}:uI (.field k n x)=true:=rfl
theorem Po {n:Nat} {x y:Src}:uI (.indexAddr n x y)=true:=rfl
theorem Pp {n:Nat} {x:Src}:uI (.extract n x)=true:=rfl
theorem Pn {x:Src}:uI (.len x)=true:=rfl
theorem MB {k:Option Nat} {x:Src}:uI (.load k x)=true:=rfl
theorem Pl {xs:List Src}:uI (.min xs)=true:=rfl
theorem Pm {xs:List Src}:uI (.max xs)=true:=rfl
theorem Li {n:Nat} {z:List AV}:AOp.makes (.alloc n z)=true:=rfl
theorem Qs {n:Nat} {x:Src}:AOp.makes (.box n x)=true:=rfl
theorem Sq {n m k:Nat} {z:List AV} {ps:List ((Nat × Nat) × Src)}:AOp.makes (.buildSlice n m z k ps)=true:=rfl
theorem Oa {n m k:Nat} {z:List AV} {a b:Src}:AOp.makes (.mksl n m k z a b)=true:=rfl
end
def aD {A1 B1:Prop} (a:A1) (b:B1):A1/\B1:=⟨a,b⟩
def aE {A1 B1 C1:Prop} (a:A1) (b:B1) (c:C1):A1/\B1/\C1:=⟨a,b,c⟩
def aQ {A1 B1 C1 D1:Prop} (a:A1) (b:B1) (c:C1) (d:D1):A1/\B1/\C1/\D1:=⟨a,b,c,d⟩
def bA {A1 B1 C1 D1 E1:Prop} (a:A1) (b:B1) (c:C1) (d:D1) (e:E1):A1/\B1/\C1/\D1/\E1:=⟨a,b,c,d,e⟩
def dL {A1 B1 C1 D1 E1 F1:Prop} (a:A1) (b:B1) (c:C1) (d:D1) (e:E1) (f:F1):A1/\B1/\C1/\D1/\E1/\F1:=⟨a,b,c,d,e,f⟩
def fy {A1 B1 C1 D1 E1 F1 G1:Prop} (a:A1) (b:B1) (c:C1) (d:D1) (e:E1) (f:F1) (g:G1):A1/\B1/\C1/\D1/\E1/\F1/\G1:=⟨a,b,c,d,e,f,g⟩
def iy {A1 B1 C1 D1 E1 F1 G1 H1:Prop} (a:A1) (b:B1) (c:C1) (d:D1) (e:E1) (f:F1) (g:G1) (h:H1):A1/\B1/\C1/\D1/\E1/\F1/\G1/\H1:=⟨a,b,c,d,e,f,g,h⟩
def jW {A1 B1 C1 D1 E1 F1 G1 H1 I1:Prop} (a:A1) (b:B1) (c:C1) (d:D1) (e:E1) (f:F1) (g:G1) (h:H1) (i:I1):A1/\B1/\C1/\D1/\E1/\F1/\G1/\H1/\I1:=⟨a,b,c,d,e,f,g,h,i⟩
def qz {A1 B1 C1 D1 E1 F1 G1 H1 I1 J1:Prop} (a:A1) (b:B1) (c:C1) (d:D1) (e:E1) (f:F1) (g:G1) (h:H1) (i:I1) (j:J1):A1/\B1/\C1/\D1/\E1/\F1/\G1/\H1/\I1/\J1:=⟨a,b,c,d,e,f,g,h,i,j⟩
def iO {A1 B1 C1 D1 E1 F1 G1 H1 I1 J1 K1:Prop} (a:A1) (b:B1) (c:C1) (d:D1) (e:E1) (f:F1) (g:G1) (h:H1) (i:I1) (j:J1) (k:K1):A1/\B1/\C1/\D1/\E1/\F1/\G1/\H1/\I1/\J1/\K1:=⟨a,b,c,d,e,f,g,h,i,j,k⟩
def zq {A1 B1 C1 D1 E1 F1 G1 H1 I1 J1 K1 L1:Prop} (a:A1) (b:B1) (c:C1) (d:D1) (e:E1) (f:F1) (g:G1) (h:H1) (i:I1) (j:J1) (k:K1) (l:L1):A1/\B1/\C1/\D1/\E1/\F1/\G1/\H1/\I1/\J1/\K1/\L1:=⟨a,b,c,d,e,f,g,h,i,j,k,l⟩
def Kn {A1 B1 C1 D1 E1 F1 G1 H1 I1 J1 K1 L1 M1:Prop} (a:A1) (b:B1) (c:C1) (d:D1) (e:E1) (f:F1) (g:G1) (h:H1) (i:I1) (j:J1) (k:K1) (l:L1) (m:M1):A1/\B1/\C1/\D1/\E1/\F1/\G1/\H1/\I1/\J1/\K1/\L1/\M1:=⟨a,b,c,d,e,f,g,h,i,j,k,l,m⟩
def Pt {A1 B1 C1 D1 E1 F1 G1 H1 I1 J1 K1 L1 M1 N1:Prop} (a:A1) (b:B1) (c:C1) (d:D1) (e:E1) (f:F1) (g:G1) (h:H1) (i:I1) (j:J1) (k:K1) (l:L1) (m:M1) (n:N1):A1/\B1/\C1/\D1/\E1/\F1/\G1/\H1/\I1/\J1/\K1/\L1/\M1/\N1:=⟨a,b,c,d,e,f,g,h,i,j,k,l,m,n⟩
def ME {A1 B1 C1 D1 E1 F1 G1 H1 I1 J1 K1 L1 M1 N1 O1:Prop} (a:A1) (b:B1) (c:C1) (d:D1) (e:E1) (f:F1) (g:G1) (h:H1) (i:I1) (j:J1) (k:K1) (l:L1) (m:M1) (n:N1) (o:O1):A1/\B1/\C1/\D1/\E1/\F1/\G1/\H1/\I1/\J1/\K1/\L1/\M1/\N1/\O1:=⟨a,b,c,d,e,f,g,h,i,j,k,l,m,n,o⟩
def Ub {A1 B1 C1 D1 E1 F1 G1 H1 I1 J1 K1 L1 M1 N1 O1 P1:Prop} (a:A1) (b:B1) (c:C1) (d:D1) (e:E1) (f:F1) (g:G1) (h:H1) (i:I1) (j:J1) (k:K1) (l:L1) (m:M1) (n:N1) (o:O1) (p:P1):A1/\B1/\C1/\D1/\E1/\F1/\G1/\H1/\I1/\J1/\K1/\L1/\M1/\N1/\O1/\P1:=⟨a,b,c,d,e,f,g,h,i,j,k,l,m,n,o,p⟩
def Ps {A1 B1 C1 D1 E1 F1 G1 H1 I1 J1 K1 L1 M1 N1 O1 P1 Q1:Prop} (a:A1) (b:B1) (c:C1) (d:D1) (e:E1) (f:F1) (g:G1) (h:H1) (i:I1) (j:J1) (k:K1) (l:L1) (m:M1) (n:N1) (o:O1) (p:P1) (q:Q1):A1/\B1/\C1/\D1/\E1/\F1/\G1/\H1/\I1/\J1/\K1/\L1/\M1/\N1/\O1/\P1/\Q1:=⟨a,b,c,d,e,f,g,h,i,j,k,l,m,n,o,p,q⟩
def Pr {A1 B1 C1 D1 E1 F1 G1 H1 I1 J1 K1 L1 M1 N1 O1 P1 Q1 R1:Prop} (a:A1) (b:B1) (c:C1) (d:D1) (e:E1) (f:F1) (g:G1) (h:H1) (i:I1) (j:J1) (k:K1) (l:L1) (m:M1) (n:N1) (o:O1) (p:P1) (q:Q1) (r:R1):A1/\B1/\C1/\D1/\E1/\F1/\G1/\H1/\I1/\J1/\K1/\L1/\M1/\N1/\O1/\P1/\Q1/\R1:=⟨a,b,c,d,e,f,g,h,i,j,k,l,m,n,o,p,q,r⟩
def Rv {A1 B1 C1 D1 E1 F1 G1 H1 I1 J1 K1 L1 M1 N1 O1 P1 Q1 R1 S1:Prop} (a:A1) (b:B1) (c:C1) (d:D1) (e:E1) (f:F1) (g:G1) (h:H1) (i:I1) (j:J1) (k:K1) (l:L1) (m:M1) (n:N1) (o:O1) (p:P1) (q:Q1) (r:R1) (s:S1):A1/\B1/\C1/\D1/\E1/\F1/\G1/\H1/\I1/\J1/\K1/\L1/\M1/\N1/\O1/\P1/\Q1/\R1/\S1:=⟨a,b,c,d,e,f,g,h,i,j,k,l,m,n,o,p,q,r,s⟩
def Ua {A1 B1 C1 D1 E1 F1 G1 H1 I1 J1 K1 L1 M1 N1 O1 P1 Q1 R1 S1 T1:Prop} (a:A1) (b:B1) (c:C1) (d:D1) (e:E1) (f:F1) (g:G1) (h:H1) (i:I1) (j:J1) (k:K1) (l:L1) (m:M1) (n:N1) (o:O1) (p:P1) (q:Q1) (r:R1) (s:S1) (t:T1):A1/\B1/\C1/\D1/\E1/\F1/\G1/\H1/\I1/\J1/\K1/\L1/\M1/\N1/\O1/\P1/\Q1/\R1/\S1/\T1:=⟨a,b,c,d,e,f,g,h,i,j,k,l,m,n,o,p,q,r,s,t⟩
def S6 {A1 B1 C1 D1 E1 F1 G1 H1 I1 J1 K1 L1 M1 N1 O1 P1 Q1 R1 S1 T1 U1:Prop} (a:A1) (b:B1) (c:C1) (d:D1) (e:E1) (f:F1) (g:G1) (h:H1) (i:I1) (j:J1) (k:K1) (l:L1) (m:M1) (n:N1) (o:O1) (p:P1) (q:Q1) (r:R1) (s:S1) (t:T1) (u:U1):A1/\B1/\C1/\D1/\E1/\F1/\G1/\H1/\I1/\J1/\K1/\L1/\M1/\N1/\O1/\P1/\Q1/\R1/\S1/\T1/\U1:=⟨a,b,c,d,e,f,g,h,i,j,k,l,m,n,o,p,q,r,s,t,u⟩
def S2 {A1 B1 C1 D1 E1 F1 G1 H1 I1 J1 K1 L1 M1 N1 O1 P1 Q1 R1 S1 T1 U1 V1:Prop} (a:A1) (b:B1) (c:C1) (d:D1) (e:E1) (f:F1) (g:G1) (h:H1) (i:I1) (j:J1) (k:K1) (l:L1) (m:M1) (n:N1) (o:O1) (p:P1) (q:Q1) (r:R1) (s:S1) (t:T1) (u:U1) (v:V1):A1/\B1/\C1/\D1/\E1/\F1/\G1/\H1/\I1/\J1/\K1/\L1/\M1/\N1/\O1/\P1/\Q1/\R1/\S1/\T1/\U1/\V1:=⟨a,b,c,d,e,f,g,h,i,j,k,l,m,n,o,p,q,r,s,t,u,v⟩
def xX:=U6 (U6 (U6 (U6 (U6 (U6 (@Nw) (@Nv)) (U6 (@KT) (@KS))) (U6 (U6 (@O3) (@O2)) (U6 (@Md) (@Me)))) (U6 (U6 (U6 (@Ny) (@Nx)) (U6 (@KV) (@FJ))) (U6 (U6 (@Oe) (@Lr)) (U6 (@Lq) (U6 (@Pu) (@MH)))))) (U6 (U6 (U6 (U6 (@PD) (@ES)) (U6 (@PB) (@PA))) (U6 (U6 (@Rx) (@MI)) (U6 (@Py) (@MJ)))) (U6 (U6 (U6 (@zr) (@Dh)) (U6 (@Q7) (@Px))) (U6 (U6 (@MQ) (@PE)) (U6 (@CE) (U6 (@AU) (@Gv))))))) (U6 (U6 (U6 (U6 (U6 (@Bo) (@Pv)) (U6 (@Hd) (@S7))) (U6 (U6 (@PC) (@RA)) (U6 (@RB) (@S9)))) (U6 (U6 (U6 (@MM) (@RC)) (U6 (@MP) (@MK))) (U6 (U6 (@MG) (@Pz)) (U6 (@MF) (U6 (@RE) (@S8)))))) (U6 (U6 (U6 (U6 (@BU) (@RD)) (U6 (@Rz) (@Ry))) (U6 (U6 (@Ha) (@Ko)) (U6 (@NH) (U6 (@NG) (@Ox))))) (U6 (U6 (U6 (@Ow) (@LL)) (U6 (@LM) (@PN))) (U6 (U6 (@PM) (@MY)) (U6 (@MZ) (U6 (@MN) (@EQ)))))))
def xW:=U6 (U6 (U6 (U6 (U6 (U6 (U6 (@wV) (@CE)) (U6 (@AU) (@Gv))) (U6 (U6 (@Bo) (@IP)) (U6 (@DO) (U6 (@Ja) (@LE))))) (U6 (U6 (U6 (@SG) (@TL)) (U6 (@iI) (U6 (@lS) (@Wb)))) (U6 (U6 (@QV) (@QR)) (U6 (@Kd) (U6 (@QS) (@QT)))))) (U6 (U6 (U6 (U6 (@QU) (@ON)) (U6 (@Lc) (U6 (@RV) (@QX)))) (U6 (U6 (@QW) (@Eb)) (U6 (@zi) (U6 (@SR) (@QQ))))) (U6 (U6 (U6 (@List.length_set.{0}) (U6 (@if_true.{1}) (@if_true.{0}))) (U6 (U6 (@if_false.{1}) (@if_false.{0})) (U6 (@List.length_cons.{0}) (@List.length_nil.{0})))) (U6 (U6 (@List.map_cons.{0,0}) (@List.map_nil.{0,0})) (U6 (@List.append_nil.{0}) (U6 (@List.nil_append.{0}) (@List.cons_append.{0}))))))) (U6 (U6 (U6 (U6 (U6 (@Option.map_some.{0,0}) (@Option.map_none.{0,0})) (U6 (@Yq) (U6 (@Y9) (@YO)))) (U6 (U6 (@decide_eq_true_eq) (@V8)) (U6 (@decide_eq_false_iff_not) (U6 (@V3) (@true_or))))) (U6 (U6 (U6 (@or_true) (@true_and)) (U6 (@and_true) (U6 (@false_or) (@or_false)))) (U6 (U6 (@ne_eq.{1}) (@not_false_eq_true)) (U6 (@not_true_eq_false) (U6 (@eq_self.{1}) (@VQ)))))) (U6 (U6 (U6 (U6 (@WL) (@FW)) (U6 (@Iv) (U6 (@IO) (@Gn)))) (U6 (U6 (@Tg) (@Si)) (U6 (@QB) (U6 (@cT) (@next_put))))) (U6 (U6 (U6 (@next_kill) (@Se)) (U6 (@Sd) (U6 (@Sc) (@NC)))) (U6 (U6 (@K0) (@NI)) (U6 (@KG) (U6 (@KF) (@Su)))))))) (U6 (U6 (U6 (U6 (U6 (U6 (@Ly) (@SC)) (U6 (@ap) (U6 (@az) (@cD)))) (U6 (U6 (@R7) (@Of)) (U6 (@UP) (U6 (@UO) (@UB))))) (U6 (U6 (U6 (@Uf) (@Ue)) (U6 (@TJ) (U6 (@Rh) (@SP)))) (U6 (U6 (@GH) (@OY)) (U6 (@am) (U6 (@bp) (@bF)))))) (U6 (U6 (U6 (U6 (@cO) (@bX)) (U6 (@Nat.add_eq) (U6 (@List.take_zero.{0}) (@List.drop_zero.{0})))) (U6 (U6 (@List.take_succ_cons.{0}) (@List.drop_succ_cons.{0})) (U6 (@List.append_eq.{0}) (U6 (@decide_true) (@decide_false))))) (U6 (U6 (U6 (@Bool.and_true) (@Bool.and_false)) (U6 (@Z5) (U6 (@ZQ) (@Int.lt_irrefl)))) (U6 (U6 (@Uh) (@Ug)) (U6 (@Lk) (U6 (@List.set_cons_zero.{0}) (@List.set_cons_succ.{0}))))))) (U6 (U6 (U6 (U6 (U6 (@Int.ofNat_lt) (@Int.ofNat_le)) (U6 (@Int.natCast_inj) (U6 (@Int.natCast_pos) (@HM)))) (U6 (U6 (@K4) (@List.zip_cons_cons.{0,0})) (U6 (@List.zip_nil_left.{0,0}) (U6 (@List.zip_nil_right.{0,0}) (@Uw))))) (U6 (U6 (U6 (@Uv) (@Uu)) (U6 (@SF) (U6 (@LO) (@Qp)))) (U6 (U6 (@Sn) (@SD)) (U6 (@Oy) (U6 (@SQ) (@SH)))))) (U6 (U6 (U6 (U6 (@RW) (@Mk)) (U6 (@Mf) (U6 (@Mh) (@Mj)))) (U6 (U6 (@xO) (@xN)) (U6 (@IT) (U6 (@Mg) (@oU))))) (U6 (U6 (U6 (@Lw) (@DA)) (U6 (@mH) (U6 (@ke) (@JG)))) (U6 (U6 (@SB) (@WE)) (U6 (@Uo) (U6 (@Un) (@TI))))))))
def Te:=U6 (U6 (U6 (@RP) (U6 (@PQ) (@M0))) (U6 (@PP) (U6 (@RQ) (@QK)))) (U6 (U6 (@Ss) (U6 (@Qv) (@Qu))) (U6 (U6 (@Qt) (@Oc)) (U6 (@Sv) (@Qy))))
def Td:=U6 (U6 (U6 (U6 (U6 (@M8) (@M7)) (U6 (@M6) (@Hl))) (U6 (U6 (@M4) (@M5)) (U6 (@sS) (U6 (@qe) (@iJ))))) (U6 (U6 (U6 (@jN) (@List.length_replicate.{0})) (U6 (@List.getD_cons_zero.{0}) (@List.getD_cons_succ.{0}))) (U6 (U6 (@List.getLastD_cons.{0}) (@List.getLastD_nil.{0})) (U6 (@Rt) (U6 (@Mz) (@Kl)))))) (U6 (U6 (U6 (U6 (@Kj) (@Pq)) (U6 (@Rs) (@MC))) (U6 (U6 (@MA) (@Ki)) (U6 (@Ru) (U6 (@Kk) (@Po))))) (U6 (U6 (U6 (@Pp) (@Pn)) (U6 (@MB) (@Pl))) (U6 (U6 (@Pm) (@Li)) (U6 (@Qs) (U6 (@Sq) (@Oa))))))
def UM:=U6 (U6 (@Sy) (@Qz)) (U6 (@TB) (U6 (@Sx) (@QA)))
def UN:=U6 (@RO) (U6 (@Tc) (@PO))
def zW {F P Q:Prop} (f:F) (q:Q) (h:F->Q->P:=by intro h q; simp -dsimp (maxSteps:=1000000) (disch:=(first | omega | assumption | exact am _ | exact bp _ _ | exact bF | exact cO _ _ _ | exact bX _ _ | exact bP _ _ _ _ _ _ | exact cW _ _ | exact cp _)) only [↓xX,xW,Nat.reduceLT,Nat.reduceEqDiff,Nat.reduceAdd,reduceIte,reduceCtorEq,Nat.reduceBEq,Int.reduceEq,Int.reduceLT,Int.reduceLE,Int.reduceAdd,Int.reduceSub,h]; exact q):P:=h f q
def uH {P Q:Prop} (q:Q) (h:Q->P:=by intro q; simp -dsimp (maxSteps:=1000000) (disch:=(first | omega | assumption | exact am _ | exact bp _ _ | exact bF | exact cO _ _ _ | exact bX _ _ | exact bP _ _ _ _ _ _ | exact cW _ _ | exact cp _)) only [↓xX,xW,Nat.reduceLT,Nat.reduceEqDiff,Nat.reduceAdd,reduceIte,reduceCtorEq,Nat.reduceBEq,Int.reduceEq,Int.reduceLT,Int.reduceLE,Int.reduceAdd,Int.reduceSub]; exact q):P:=h q
def zV {F P:Prop} (f:F) (h:F->P:=by intro h; simp -dsimp (maxSteps:=1000000) (disch:=(first | omega | assumption | exact am _ | exact bp _ _ | exact bF | exact cO _ _ _ | exact bX _ _ | exact bP _ _ _ _ _ _ | exact cW _ _ | exact cp _)) only [↓xX,xW,Nat.reduceLT,Nat.reduceEqDiff,Nat.reduceAdd,reduceIte,reduceCtorEq,Nat.reduceBEq,Int.reduceEq,Int.reduceLT,Int.reduceLE,Int.reduceAdd,Int.reduceSub,h]):P:=h f
def cH {P:Prop} (h:P:=by simp -dsimp (maxSteps:=1000000) (disch:=(first | omega | assumption | exact am _ | exact bp _ _ | exact bF | exact cO _ _ _ | exact bX _ _ | exact bP _ _ _ _ _ _ | exact cW _ _ | exact cp _)) only [↓xX,xW,Nat.reduceLT,Nat.reduceEqDiff,Nat.reduceAdd,reduceIte,reduceCtorEq,Nat.reduceBEq,Int.reduceEq,Int.reduceLT,Int.reduceLE,Int.reduceAdd,Int.reduceSub]):P:=h
def zD {F P Q:Prop} (f:F) (q:Q) (h:F->Q->P:=by intro h q; simp -dsimp (maxSteps:=1000000) (disch:=(first | omega | assumption | exact am _ | exact bp _ _ | exact bF | exact cO _ _ _ | exact bX _ _ | exact bP _ _ _ _ _ _ | exact cW _ _ | exact cp _)) only [↓xX,xW,↓Te,Td,Nat.reduceLT,Nat.reduceEqDiff,Nat.reduceAdd,reduceIte,reduceCtorEq,Nat.reduceBEq,Int.reduceEq,Int.reduceLT,Int.reduceLE,Int.reduceAdd,Int.reduceSub,h]; exact q):P:=h f q
def zE {F P:Prop} (f:F) (h:F->P:=by intro h; simp -dsimp (maxSteps:=1000000) (disch:=(first | omega | assumption | exact am _ | exact bp _ _ | exact bF | exact cO _ _ _ | exact bX _ _ | exact bP _ _ _ _ _ _ | exact cW _ _ | exact cp _)) only [↓xX,xW,↓Te,Td,Nat.reduceLT,Nat.reduceEqDiff,Nat.reduceAdd,reduceIte,reduceCtorEq,Nat.reduceBEq,Int.reduceEq,Int.reduceLT,Int.reduceLE,Int.reduceAdd,Int.reduceSub,h]):P:=h f
def zK {P:Prop} (h:P:=by first | assumption | simp (disch:=(first | omega | assumption | (simp only [cT,next_put,next_kill]; omega))) only [UM] <;> assumption):P:=h
def zF {P:Prop} (h:P:=by first | assumption | simp (disch:=(first | omega | assumption | (simp only [cT,next_put,next_kill]; omega))) only [UN] <;> assumption):P:=h
def zU {P:Prop} (h:P:=by decide):P:=h
def zG (A:Heap) {G:Heap} (h:Kp A G:=by first | assumption | simp (disch:=(first | omega | assumption | (simp only [cT,next_put,next_kill]; omega))) only [UM] <;> assumption):Sub A G:=h.sub
def zT (A:Heap) {G C:Heap} (h:Kp A G) (h2:Kp G C):Kp A C/\A.next<=C.next/\Wf C:=⟨h.trans h2,(h.trans h2).le,h2.wf⟩
set_option maxRecDepth 100000
abbrev dz:Nat:=4
abbrev fk:Nat:=17
abbrev fT:Nat:=18
abbrev ib:Nat:=20
abbrev fj:Nat:=19
abbrev lz:Nat:=21
abbrev fd:Nat:=12
abbrev ko:Nat:=22
abbrev xf:Nat:=13
abbrev eB:Nat:=49
abbrev AD:Nat:=26
abbrev ic:Nat:=50
abbrev dy:Nat:=9
abbrev oR:Nat:=36
abbrev AI:Nat:=51
abbrev fh:Nat:=38
abbrev fg:Nat:=27
abbrev kQ:Nat:=52
abbrev nW:Nat:=53
abbrev cP:Nat:=54
abbrev tY:Nat:=29
abbrev xd:Nat:=55
abbrev fe:Nat:=41
abbrev ng:Nat:=56
abbrev ri:Nat:=57
abbrev eP:Nat:=58
abbrev io:Nat:=59
abbrev pL:Nat:=60
abbrev gO:Nat:=61
abbrev rm:Nat:=62
abbrev mA:Nat:=42
abbrev pG:Nat:=43
abbrev gN:Nat:=44
abbrev fO:Nat:=15
abbrev fm:Nat:=78
abbrev eE:Nat:=79
abbrev kr:Nat:=80
abbrev oi:Nat:=82
abbrev rk:Nat:=81
abbrev AH:Nat:=93
abbrev pH:Nat:=39
abbrev AF:Nat:=75
abbrev pB:Nat:=74
abbrev j9:Nat:=64
abbrev nN:Nat:=94
abbrev pD:Nat:=96
abbrev mo:Nat:=95
abbrev dx:Nat:=10
abbrev b9:Nat:=99
abbrev mw:Nat:=100
abbrev xo:Nat:=101
abbrev qW:Nat:=102
abbrev sA:Nat:=68
abbrev qV:Nat:=69
abbrev qX:Nat:=71
abbrev fD:Nat:=103
abbrev fl:Nat:=89
abbrev eD:Nat:=90
abbrev mB:Nat:=91
abbrev rl:Nat:=92
abbrev re:Nat:=84
abbrev fP:Nat:=47
abbrev dV:Nat:=116
abbrev bN:Nat:=115
abbrev dU:Nat:=117
abbrev rj:Nat:=118
abbrev rr:Nat:=119
abbrev bL:Nat:=120
abbrev jQ:Nat:=121
abbrev pM:Nat:=122
abbrev cq:Nat:=109
abbrev rp:Nat:=83
abbrev pI:Nat:=112
abbrev nh:Nat:=105
abbrev nM:Nat:=98
abbrev xc:Nat:=97
abbrev cy:Nat:=137
abbrev qT:Nat:=138
abbrev py:Nat:=139
abbrev kP:Nat:=106
abbrev xm:Nat:=107
abbrev qS:Nat:=110
abbrev iU:Nat:=104
abbrev dS:Nat:=135
abbrev bM:Nat:=134
abbrev dR:Nat:=136
abbrev ui:Nat:=124
abbrev pC:Nat:=128
abbrev dQ:Nat:=87
abbrev dO:Nat:=88
abbrev b7:Nat:=149
abbrev mC:Nat:=150
abbrev rq:Nat:=151
abbrev ur:Nat:=152
abbrev cQ:Nat:=153
abbrev mz:Nat:=154
abbrev nT:Nat:=155
abbrev dg:Nat:=156
abbrev i8:Nat:=157
abbrev bY:Nat:=159
abbrev gu:Nat:=123
abbrev gt:Nat:=125
abbrev aV:Nat:=126
abbrev aU:Nat:=127
abbrev cu:Nat:=148
abbrev ia:Nat:=142
abbrev nV:Nat:=141
abbrev xh:Nat:=143
abbrev xg:Nat:=144
abbrev cX:Nat:=140
abbrev bZ:Nat:=170
abbrev bg:Nat:=160
abbrev fQ:Nat:=133
abbrev ly:Nat:=181
abbrev fV:Nat:=182
abbrev iF:Nat:=185
abbrev ie:Nat:=186
abbrev nR:Nat:=187
abbrev iD:Nat:=188
abbrev tZ:Nat:=70
abbrev xe:Nat:=158
abbrev pK:Nat:=171
abbrev rh:Nat:=172
abbrev xl:Nat:=174
abbrev ul:Nat:=173
abbrev AG:Nat:=175
abbrev nU:Nat:=176
abbrev pJ:Nat:=177
abbrev iZ:Nat:=178
abbrev iV:Nat:=179
abbrev fR:Nat:=169
abbrev pP:Nat:=184
abbrev kv:Nat:=183
abbrev eJ:Nat:=197
abbrev ni:Nat:=198
abbrev pN:Nat:=200
abbrev pO:Nat:=199
abbrev nf:Nat:=201
abbrev cE:Nat:=203
abbrev cz:Nat:=202
abbrev fX:Nat:=204
abbrev qY:Nat:=205
abbrev pF:Nat:=207
abbrev my:Nat:=206
abbrev nO:Nat:=108
abbrev aZ:Nat:=191
abbrev pE:Nat:=192
abbrev iW:Nat:=194
abbrev uk:Nat:=195
abbrev rf:Nat:=196
abbrev fS:Nat:=193
abbrev qZ:Nat:=219
abbrev uq:Nat:=220
abbrev qU:Nat:=221
abbrev mp:Nat:=222
abbrev nS:Nat:=223
abbrev cx:Nat:=224
abbrev nP:Nat:=225
abbrev mr:Nat:=226
abbrev nQ:Nat:=228
abbrev gq:Nat:=218
abbrev xp:Nat:=236
abbrev nL:Nat:=227
abbrev eO:Nat:=238
abbrev oh:Nat:=241
abbrev xq:Nat:=242
abbrev jP:Nat:=237
abbrev oj:Nat:=244
abbrev uo:Nat:=245
abbrev dw:Nat:=246
abbrev AE:Nat:=247
abbrev fU:Nat:=248
abbrev gw:Nat:=249
abbrev gy:Nat:=250
abbrev um:Nat:=252
abbrev uj:Nat:=251
abbrev cJ:Nat:=253
abbrev iY:Nat:=254
abbrev iX:Nat:=217
abbrev rg:Nat:=255
abbrev bc:Nat:=256
abbrev fz:Nat:=3
abbrev af:Nat:=24
abbrev t_api_Con:Nat:=26
abbrev ai:Nat:=28
abbrev fc:Nat:=30
abbrev ak:Nat:=32
abbrev d9:Nat:=50
abbrev aI:Nat:=51
abbrev aa:Nat:=53
abbrev bj:Nat:=55
abbrev br:Nat:=57
abbrev mg:Nat:=96
abbrev ae:Nat:=115
abbrev eZ:Nat:=119
abbrev sZ:Nat:=120
abbrev eY:Nat:=128
abbrev sW:Nat:=129
abbrev DB:Nat:=153
abbrev aR:Nat:=182
abbrev aH:Nat:=208
abbrev dZ:Nat:=215
abbrev mh:Nat:=238
abbrev fL:Nat:=288
theorem Uj (n:Nat):Int.ofNat n=(OfNat.ofNat n:Int):=rfl
theorem Ty:Int.negSucc 0 = -1:=rfl
theorem TG (id id1 i n c k:Nat) (body:ACode):ACode.block id (.loop (.seq (.region [⟨some c,.bin .lss .int (.t i) (.t n),none⟩]) (.seq (.cond (.t c) .skip (.exit id)) (.seq (.block id1 body) (.region [⟨some k,.bin .add .int (.t i) (.c (.int .i64 1)),none⟩,⟨some i,.mv (.t k),none⟩])))))=QG id id1 i n c k body:=rfl
theorem TH (id:Nat) (c:ACode):ACode.block id (.loop c)=O0 id c:=rfl
set_option maxHeartbeats 8000000
def aj (f:Func) (a:aA) (_:SM Tryz.prog f=some a:=by conv=>lhs; reduce; dsimp only [↓Uj,↓Ty]; (try dsimp only [TG]); (try dsimp only [TH])):aA:=a
def c_facetroomlaw23_ImageBack:aA:=aj Tryz.f4 _
def jq:aA:=aj Tryz.f17 _
def jH:aA:=aj Tryz.f18 _
def lq:aA:=aj Tryz.f20 _
def jp:aA:=aj Tryz.f19 _
def ww:aA:=aj Tryz.f21 _
def jj:aA:=aj Tryz.f12 _
def yQ:aA:=aj Tryz.f22 _
def CY:aA:=aj Tryz.f13 _
def ir:aA:=aj Tryz.f49 _
def Gw:aA:=aj Tryz.f26 _
def lu:aA:=aj Tryz.f50 _
def gG:aA:=aj Tryz.f9 _
def C6:aA:=aj Tryz.f36 _
def GD:aA:=aj Tryz.f51 _
def jm:aA:=aj Tryz.f38 _
def jl:aA:=aj Tryz.f27 _
def qw:aA:=aj Tryz.f52 _
def tK:aA:=aj Tryz.f53 _
def eR:aA:=aj Tryz.f54 _
def Bp:aA:=aj Tryz.f29 _
def CV:aA:=aj Tryz.f55 _
def jk:aA:=aj Tryz.f41 _
def yJ:aA:=aj Tryz.f56 _
def yP:aA:=aj Tryz.f57 _
def rR:aA:=aj Tryz.f58 _
def c_image_moved:aA:=aj Tryz.f59 _
def wt:aA:=aj Tryz.f60 _
def wq:aA:=aj Tryz.f61 _
def yU:aA:=aj Tryz.f62 _
def rP:aA:=aj Tryz.f42 _
def wg:aA:=aj Tryz.f43 _
def vZ:aA:=aj Tryz.f44 _
def jC:aA:=aj Tryz.f15 _
def js:aA:=aj Tryz.f78 _
def tO:aA:=aj Tryz.f79 _
def yS:aA:=aj Tryz.f80 _
def c_dual_points:aA:=aj Tryz.f82 _
def yT:aA:=aj Tryz.f81 _
def GA:aA:=aj Tryz.f93 _
def wh:aA:=aj Tryz.f39 _
def Gy:aA:=aj Tryz.f75 _
def vS:aA:=aj Tryz.f74 _
def tu:aA:=aj Tryz.f64 _
def tx:aA:=aj Tryz.f94 _
def vV:aA:=aj Tryz.f96 _
def Br:aA:=aj Tryz.f95 _
def gF:aA:=aj Tryz.f10 _
def db:aA:=aj Tryz.f99 _
def rM:aA:=aj Tryz.f100 _
def C4:aA:=aj Tryz.f101 _
def yF:aA:=aj Tryz.f102 _
def CW:aA:=aj Tryz.f68 _
def yE:aA:=aj Tryz.f69 _
def yG:aA:=aj Tryz.f71 _
def qv:aA:=aj Tryz.f103 _
def jr:aA:=aj Tryz.f89 _
def tN:aA:=aj Tryz.f90 _
def BA:aA:=aj Tryz.f91 _
def c_dual_cons:aA:=aj Tryz.f92 _
def yK:aA:=aj Tryz.f84 _
def jD:aA:=aj Tryz.f47 _
def gX:aA:=aj Tryz.f116 _
def cN:aA:=aj Tryz.f115 _
def gW:aA:=aj Tryz.f117 _
def yR:aA:=aj Tryz.f118 _
def c_cone_Gens:aA:=aj Tryz.f119 _
def cL:aA:=aj Tryz.f120 _
def o0:aA:=aj Tryz.f121 _
def wx:aA:=aj Tryz.f122 _
def eU:aA:=aj Tryz.f109 _
def yV:aA:=aj Tryz.f83 _
def Bv:aA:=aj Tryz.f112 _
def yN:aA:=aj Tryz.f105 _
def tw:aA:=aj Tryz.f98 _
def CU:aA:=aj Tryz.f97 _
def dG:aA:=aj Tryz.f137 _
def yC:aA:=aj Tryz.f138 _
def vQ:aA:=aj Tryz.f139 _
def qq:aA:=aj Tryz.f106 _
def C3:aA:=aj Tryz.f107 _
def yB:aA:=aj Tryz.f110 _
def vU:aA:=aj Tryz.f104 _
def gV:aA:=aj Tryz.f135 _
def cM:aA:=aj Tryz.f134 _
def gU:aA:=aj Tryz.f136 _
def Bu:aA:=aj Tryz.f124 _
def vT:aA:=aj Tryz.f128 _
def gT:aA:=aj Tryz.f87 _
def gS:aA:=aj Tryz.f88 _
def da:aA:=aj Tryz.f149 _
def c_cone_checked:aA:=aj Tryz.f150 _
def yY:aA:=aj Tryz.f151 _
def BH:aA:=aj Tryz.f152 _
def c_P_cone_under_add:aA:=aj Tryz.f153 _
def rO:aA:=aj Tryz.f154 _
def tG:aA:=aj Tryz.f155 _
def dj:aA:=⟨2,2,[],.skip,(some (.sortF af [i8]))⟩
def rU:aA:=aj Tryz.f157 _
def cY:aA:=aj Tryz.f159 _
def rT:aA:=aj Tryz.f123 _
def rS:aA:=aj Tryz.f125 _
def bD:aA:=aj Tryz.f126 _
def bC:aA:=aj Tryz.f127 _
def fI:aA:=aj Tryz.f148 _
def lp:aA:=aj Tryz.f142 _
def tJ:aA:=aj Tryz.f141 _
def C0:aA:=aj Tryz.f143 _
def CZ:aA:=aj Tryz.f144 _
def eT:aA:=aj Tryz.f140 _
def cZ:aA:=aj Tryz.f170 _
def bU:aA:=aj Tryz.f160 _
def jE:aA:=aj Tryz.f133 _
def vY:aA:=aj Tryz.f181 _
def jJ:aA:=aj Tryz.f182 _
def c_P_cone_under_cut:aA:=aj Tryz.f185 _
def c_P_cone_under_fold:aA:=aj Tryz.f186 _
def tE:aA:=aj Tryz.f187 _
def mO:aA:=aj Tryz.f188 _
def Bs:aA:=aj Tryz.f70 _
def CX:aA:=aj Tryz.f158 _
def wn:aA:=aj Tryz.f171 _
def yO:aA:=aj Tryz.f172 _
def C2:aA:=aj Tryz.f174 _
def Bz:aA:=aj Tryz.f173 _
def Gz:aA:=aj Tryz.f175 _
def tH:aA:=aj Tryz.f176 _
def wm:aA:=aj Tryz.f177 _
def nB:aA:=⟨3,3,[],
 .skip,
 (some .add64)⟩
def nw:aA:=⟨3,3,[],
 .skip,
 (some .sub64)⟩
def jF:aA:=aj Tryz.f169 _
def BG:aA:=aj Tryz.f184 _
def yW:aA:=aj Tryz.f183 _
def lv:aA:=aj Tryz.f197 _
def yX:aA:=aj Tryz.f198 _
def BD:aA:=aj Tryz.f200 _
def BE:aA:=aj Tryz.f199 _
def yH:aA:=aj Tryz.f201 _
def dM:aA:=aj Tryz.f203 _
def dH:aA:=aj Tryz.f202 _
def c_P_rows_form_put:aA:=aj Tryz.f204 _
def yI:aA:=aj Tryz.f205 _
def vX:aA:=aj Tryz.f207 _
def rN:aA:=aj Tryz.f206 _
def tz:aA:=aj Tryz.f108 _
def bQ:aA:=aj Tryz.f191 _
def vW:aA:=aj Tryz.f192 _
def ny:aA:=aj Tryz.f194 _
def By:aA:=aj Tryz.f195 _
def yL:aA:=aj Tryz.f196 _
def jG:aA:=aj Tryz.f193 _
def c_sat_Signs:aA:=aj Tryz.f219 _
def BF:aA:=aj Tryz.f220 _
def yD:aA:=aj Tryz.f221 _
def rK:aA:=aj Tryz.f222 _
def tF:aA:=aj Tryz.f223 _
def dF:aA:=⟨3,3,[],
 .skip,
 (some (.insert 1 24 af))⟩
def tC:aA:=aj Tryz.f225 _
def rL:aA:=aj Tryz.f226 _
def tD:aA:=aj Tryz.f228 _
def rQ:aA:=aj Tryz.f218 _
def C5:aA:=aj Tryz.f236 _
def tt:aA:=aj Tryz.f227 _
def oZ:aA:=aj Tryz.f238 _
def tM:aA:=aj Tryz.f241 _
def C7:aA:=aj Tryz.f242 _
def oY:aA:=aj Tryz.f237 _
def tP:aA:=aj Tryz.f244 _
def BC:aA:=aj Tryz.f245 _
def gE:aA:=aj Tryz.f246 _
def Gx:aA:=aj Tryz.f247 _
def jI:aA:=aj Tryz.f248 _
def ky:aA:=aj Tryz.f249 _
def kz:aA:=aj Tryz.f250 _
def BB:aA:=aj Tryz.f252 _
def Bx:aA:=aj Tryz.f251 _
def eh:aA:=aj Tryz.f253 _
def nA:aA:=aj Tryz.f254 _
def nz:aA:=⟨1,25,[(2,none)],
 .seq (.region [
 ⟨(some 2),.mv (.c (.int .i64 0)),none⟩]) <|
 .seq (.seq (.region [
 ⟨(some 3),.mv (.t 0),none⟩,
 ⟨(some 4),.bin .geq .int (.t 3) (.c (.int .u64 4294967296)),none⟩]) <|
 .cond (.t 4)
 (.seq (.region [
  ⟨(some 5),.mv (.t 0),none⟩,
  ⟨(some 6),.bin .shr .int (.t 5) (.c (.int .u64 32)),none⟩,
  ⟨(some 0),.mv (.t 6),none⟩]) <|
 .region [
  ⟨(some 2),.mv (.c (.int .i64 32)),none⟩])
 (.skip)) <|
 .seq (.seq (.region [
 ⟨(some 7),.mv (.t 0),none⟩,
 ⟨(some 8),.bin .geq .int (.t 7) (.c (.int .u64 65536)),none⟩]) <|
 .cond (.t 8)
 (.seq (.region [
  ⟨(some 9),.mv (.t 0),none⟩,
  ⟨(some 10),.bin .shr .int (.t 9) (.c (.int .u64 16)),none⟩,
  ⟨(some 0),.mv (.t 10),none⟩]) <|
 .region [
  ⟨(some 11),.mv (.t 2),none⟩,
  ⟨(some 12),.bin .add .int (.t 11) (.c (.int .i64 16)),none⟩,
  ⟨(some 2),.mv (.t 12),none⟩])
 (.skip)) <|
 .seq (.seq (.region [
 ⟨(some 13),.mv (.t 0),none⟩,
 ⟨(some 14),.bin .geq .int (.t 13) (.c (.int .u64 256)),none⟩]) <|
 .cond (.t 14)
 (.seq (.region [
  ⟨(some 15),.mv (.t 0),none⟩,
  ⟨(some 16),.bin .shr .int (.t 15) (.c (.int .u64 8)),none⟩,
  ⟨(some 0),.mv (.t 16),none⟩]) <|
 .region [
  ⟨(some 17),.mv (.t 2),none⟩,
  ⟨(some 18),.bin .add .int (.t 17) (.c (.int .i64 8)),none⟩,
  ⟨(some 2),.mv (.t 18),none⟩])
 (.skip)) <|
 .seq (.region [
 ⟨(some 19),.mv (.t 2),none⟩,
 ⟨(some 20),.mv (.t 0),none⟩,
 ⟨(some 21),.conv .u8 (.t 20),none⟩,
 ⟨(some 22),.indexStr (.c (.str ⟨#[0,1,2,2,3,3,3,3,4,4,4,4,4,4,4,4,5,5,5,5,5,5,5,5,5,5,5,5,5,5,5,5,6,6,6,6,6,6,6,6,6,6,6,6,6,6,6,6,6,6,6,6,6,6,6,6,6,6,6,6,6,6,6,6,7,7,7,7,7,7,7,7,7,7,7,7,7,7,7,7,7,7,7,7,7,7,7,7,7,7,7,7,7,7,7,7,7,7,7,7,7,7,7,7,7,7,7,7,7,7,7,7,7,7,7,7,7,7,7,7,7,7,7,7,7,7,7,7,8,8,8,8,8,8,8,8,8,8,8,8,8,8,8,8,8,8,8,8,8,8,8,8,8,8,8,8,8,8,8,8,8,8,8,8,8,8,8,8,8,8,8,8,8,8,8,8,8,8,8,8,8,8,8,8,8,8,8,8,8,8,8,8,8,8,8,8,8,8,8,8,8,8,8,8,8,8,8,8,8,8,8,8,8,8,8,8,8,8,8,8,8,8,8,8,8,8,8,8,8,8,8,8,8,8,8,8,8,8,8,8,8,8,8,8,8,8,8,8,8,8,8,8,8,8,8,8]⟩)) (.t 21),none⟩,
 ⟨(some 23),.conv .i64 (.t 22),none⟩,
 ⟨(some 24),.bin .add .int (.t 19) (.t 23),none⟩,
 ⟨(some 2),.mv (.t 24),none⟩]) <|
 .ret,
 none⟩
def yM:aA:=aj Tryz.f255 _
def dr:aA:=aj Tryz.f256 _
structure Code (tab:Nat->Option aA):Prop where
 q0:tab dz=some c_facetroomlaw23_ImageBack
 q1:tab fk=some jq
 q2:tab fT=some jH
 q3:tab ib=some lq
 q4:tab fj=some jp
 q5:tab lz=some ww
 q6:tab fd=some jj
 q7:tab ko=some yQ
 q8:tab xf=some CY
 q9:tab eB=some ir
 q10:tab AD=some Gw
 q11:tab ic=some lu
 q12:tab dy=some gG
 q13:tab oR=some C6
 q14:tab AI=some GD
 q15:tab fh=some jm
 q16:tab fg=some jl
 q17:tab kQ=some qw
 q18:tab nW=some tK
 q19:tab cP=some eR
 q20:tab tY=some Bp
 q21:tab xd=some CV
 q22:tab fe=some jk
 q23:tab ng=some yJ
 q24:tab ri=some yP
 q25:tab eP=some rR
 q26:tab io=some c_image_moved
 q27:tab pL=some wt
 q28:tab gO=some wq
 q29:tab rm=some yU
 q30:tab mA=some rP
 q31:tab pG=some wg
 q32:tab gN=some vZ
 q33:tab fO=some jC
 q34:tab fm=some js
 q35:tab eE=some tO
 q36:tab kr=some yS
 q37:tab oi=some c_dual_points
 q38:tab rk=some yT
 q39:tab AH=some GA
 q40:tab pH=some wh
 q41:tab AF=some Gy
 q42:tab pB=some vS
 q43:tab j9=some tu
 q44:tab nN=some tx
 q45:tab pD=some vV
 q46:tab mo=some Br
 q47:tab dx=some gF
 q48:tab b9=some db
 q49:tab mw=some rM
 q50:tab xo=some C4
 q51:tab qW=some yF
 q52:tab sA=some CW
 q53:tab qV=some yE
 q54:tab qX=some yG
 q55:tab fD=some qv
 q56:tab fl=some jr
 q57:tab eD=some tN
 q58:tab mB=some BA
 q59:tab rl=some c_dual_cons
 q60:tab re=some yK
 q61:tab fP=some jD
 q62:tab dV=some gX
 q63:tab bN=some cN
 q64:tab dU=some gW
 q65:tab rj=some yR
 q66:tab rr=some c_cone_Gens
 q67:tab bL=some cL
 q68:tab jQ=some o0
 q69:tab pM=some wx
 q70:tab cq=some eU
 q71:tab rp=some yV
 q72:tab pI=some Bv
 q73:tab nh=some yN
 q74:tab nM=some tw
 q75:tab xc=some CU
 q76:tab cy=some dG
 q77:tab qT=some yC
 q78:tab py=some vQ
 q79:tab kP=some qq
 q80:tab xm=some C3
 q81:tab qS=some yB
 q82:tab iU=some vU
 q83:tab dS=some gV
 q84:tab bM=some cM
 q85:tab dR=some gU
 q86:tab ui=some Bu
 q87:tab pC=some vT
 q88:tab dQ=some gT
 q89:tab dO=some gS
 q90:tab b7=some da
 q91:tab mC=some c_cone_checked
 q92:tab rq=some yY
 q93:tab ur=some BH
 q94:tab cQ=some c_P_cone_under_add
 q95:tab mz=some rO
 q96:tab nT=some tG
 q97:tab dg=some dj
 q98:tab i8=some rU
 q99:tab bY=some cY
 q100:tab gu=some rT
 q101:tab gt=some rS
 q102:tab aV=some bD
 q103:tab aU=some bC
 q104:tab cu=some fI
 q105:tab ia=some lp
 q106:tab nV=some tJ
 q107:tab xh=some C0
 q108:tab xg=some CZ
 q109:tab cX=some eT
 q110:tab bZ=some cZ
 q111:tab bg=some bU
 q112:tab fQ=some jE
 q113:tab ly=some vY
 q114:tab fV=some jJ
 q115:tab iF=some c_P_cone_under_cut
 q116:tab ie=some c_P_cone_under_fold
 q117:tab nR=some tE
 q118:tab iD=some mO
 q119:tab tZ=some Bs
 q120:tab xe=some CX
 q121:tab pK=some wn
 q122:tab rh=some yO
 q123:tab xl=some C2
 q124:tab ul=some Bz
 q125:tab AG=some Gz
 q126:tab nU=some tH
 q127:tab pJ=some wm
 q128:tab iZ=some nB
 q129:tab iV=some nw
 q130:tab fR=some jF
 q131:tab pP=some BG
 q132:tab kv=some yW
 q133:tab eJ=some lv
 q134:tab ni=some yX
 q135:tab pN=some BD
 q136:tab pO=some BE
 q137:tab nf=some yH
 q138:tab cE=some dM
 q139:tab cz=some dH
 q140:tab fX=some c_P_rows_form_put
 q141:tab qY=some yI
 q142:tab pF=some vX
 q143:tab my=some rN
 q144:tab nO=some tz
 q145:tab aZ=some bQ
 q146:tab pE=some vW
 q147:tab iW=some ny
 q148:tab uk=some By
 q149:tab rf=some yL
 q150:tab fS=some jG
 q151:tab qZ=some c_sat_Signs
 q152:tab uq=some BF
 q153:tab qU=some yD
 q154:tab mp=some rK
 q155:tab nS=some tF
 q156:tab cx=some dF
 q157:tab nP=some tC
 q158:tab mr=some rL
 q159:tab nQ=some tD
 q160:tab gq=some rQ
 q161:tab xp=some C5
 q162:tab nL=some tt
 q163:tab eO=some oZ
 q164:tab oh=some tM
 q165:tab xq=some C7
 q166:tab jP=some oY
 q167:tab oj=some tP
 q168:tab uo=some BC
 q169:tab dw=some gE
 q170:tab AE=some Gx
 q171:tab fU=some jI
 q172:tab gw=some ky
 q173:tab gy=some kz
 q174:tab um=some BB
 q175:tab uj=some Bx
 q176:tab cJ=some eh
 q177:tab iY=some nA
 q178:tab iX=some nz
 q179:tab rg=some yM
 q180:tab bc=some dr
end Go.Proofs.YteaefaohjlmjdaaGreat.Ev
namespace Go.Proofs.YteaefaohjlmjdaaGreat.Nn
abbrev B:Nat:=18446744073709551616
def val:List Nat->Nat
 | []=>0
 | a :: l=>a+B*val l
def Lim (l:List Nat):Prop:=∀ a∈l,a<B
def My (l:List Nat):Prop:=l.getLast? ≠ some 0
def Lim.nil:Lim []:=fun a h=>by cases h
def Lim.cons {a:Nat} {l:List Nat} (h:a<B) (hl:Lim l):Lim (a :: l):=fun b hb=>by
 rcases VA.1 hb with rfl | hb
 ·exact h
 ·exact hl b hb
def Lim.head {a:Nat} {l:List Nat} (h:Lim (a :: l)):a<B:=h a (Vh ..)
def Lim.tail {a:Nat} {l:List Nat} (h:Lim (a :: l)):Lim l:=fun b hb=>h b (Vd _ hb)
def Lim.append {l m:List Nat} (h:Lim l) (h':Lim m):Lim (l++m):=fun b hb=>by
 rcases Vu.1 hb with hb | hb
 ·exact h b hb
 ·exact h' b hb
def Lim.take {l:List Nat} (h:Lim l) (n:Nat):Lim (l.take n):=fun b hb=>h b (Xh hb)
def Lim.drop {l:List Nat} (h:Lim l) (n:Nat):Lim (l.drop n):=fun b hb=>h b (XN hb)
def Lim.replicate (n:Nat):Lim (List.replicate n 0):=fun b hb=>by
 rw [XS hb]; decide
def Lim.at {l:List Nat} (h:Lim l) (i:Nat):l.getD i 0<B:=by
 rw [U5];cases hi:l[i]? with
 | none=>show 0<B; decide
 | some a=>exact h a (Vo hi)
def po:∀ (l m:List Nat),val (l++m)=val l+B^l.length*val m
 | [],m=>by simp [val]
 | a :: l,m=>by
  simp only [Xf,val,po l m,VT,VJ];rw [Wa,<- VU,Vt (B^l.length) B];omega
def wM:∀ {l:List Nat},Lim l->val l<B^l.length
 | [],_=>by simp [val]
 | a :: l,h=>by
  have ih:=wM h.tail;have ha:=h.head;simp only [val,VT,VJ]
  have:B*(val l+1)<=B*B^l.length:=Xo B ih
  rw [Vt (B^l.length) B];rw [Wa] at this;omega
def fK (n:Nat):val (List.replicate n 0)=0:=by
 induction n with
 | zero=>rfl
 | succ n ih=>simp [WA,val,ih]
def jL (l:List Nat) (a:Nat):val (l++[a])=val l+B^l.length*a:=by
 rw [po]; simp [val]
def I9:∀ {l m:List Nat},Lim l->Lim m->l.length=m.length->val l=val m->l=m
 | [],[],_,_,_,_=>rfl
 | [],_ :: _,_,_,h,_=>by simp at h
 | _ :: _,[],_,_,h,_=>by simp at h
 | a :: l,b :: m,h1,h2,h,e=>by
  have ha:=h1.head;have hb:=h2.head;simp only [val] at e;have e1:a=b:=by
   have:(a+B*val l) % B=(b+B*val m) % B:=by rw [e]
   rw [XI,XI,VV ha,VV hb] at this;exact this
  subst e1;have e2:val l=val m:=Zn (by decide) (Nat.add_left_cancel e);rw [I9 h1.tail h2.tail (by simpa using h) e2]
def zh {l:List Nat} (hn:My l) (hne:l≠[]):B^(l.length-1)<=val l:=by
 rcases Xb l with rfl | ⟨l',a,rfl⟩
 ·exact absurd rfl hne
 ·rw [Xc] at *;rw [jL];have ha:a≠0:=fun e=>hn (by rw [e]; simp)
  have:B^l'.length*1<=B^l'.length*a:=Xo _ zO
  simp only [Vr,List.length_singleton,Xe];omega
def Qm {l m:List Nat} (h1:Lim l) (h2:Lim m) (n1:My l) (n2:My m) (e:val l=val m):l=m:=by
 have key:∀ {l m:List Nat},Lim l->My m->val l=val m->m.length<=l.length:=by
  intro l m h1 n2 e;by_cases hm:m=[]
  ·subst hm; simp
  ·have g1:=wM h1;have g2:=zh n2 hm
   apply Xw
   intro hlt
   have:B^l.length<=B^(m.length-1):=Vx (by decide) zO
   omega
 exact I9 h1 h2 (Xs (key h2 n1 e.symm) (key h1 n2 e)) e
def ag (n:Nat):List Nat:=if h:n=0 then [] else n % B :: ag (n / B)
 termination_by n
 decreasing_by exact YZ zO (by decide)
theorem cK:ag 0=[]:=by unfold ag; rfl
def jS {n:Nat} (h:n≠0):ag n=n % B :: ag (n / B):=by rw [ag,dif_neg h]
def bH (n:Nat):val (ag n)=n:=by
 induction n using Nat.strongRecOn with
 | _ n ih =>
  by_cases h:n=0
  ·subst h; rw [cK]; rfl
  ·rw [jS h];simp only [val];rw [ih _ (YZ zO (by decide))]
   have:=Y0 n B
   omega
def bo (n:Nat):Lim (ag n):=by
 induction n using Nat.strongRecOn with
 | _ n ih =>
  by_cases h:n=0
  ·subst h; rw [cK]; exact Lim.nil
  ·rw [jS h];exact Lim.cons (V4 _ (by decide)) (ih _ (YZ zO (by decide)))
def dt (n:Nat):My (ag n):=by
 induction n using Nat.strongRecOn with
 | _ n ih =>
  by_cases h:n=0
  ·subst h; rw [cK]; simp [My]
  ·rw [jS h];have ih:=ih _ (YZ zO (by decide:1<B));unfold My at ih ⊢;by_cases h2:n / B=0
   ·rw [h2,cK]
    have:n % B=n:=VV (by
     rcases Y4 n B with h | h
     ·exact h
     ·have:=Nat.div_pos h (by decide:0<B); omega)
    rw [this];simp [h]
   ·rw [jS h2] at ih ⊢;rw [List.getLast?_cons_cons]; exact ih
def xA {l:List Nat} (h:Lim l) (n:My l):ag (val l)=l:=Qm (bo _) h (dt _) n (bH _)
def bi {n k:Nat} (h:n<B^k):(ag n).length<=k:=by
 by_cases h0:ag n=[]
 ·rw [h0]; simp
 ·have g:=zh (dt n) h0;rw [bH] at g
  apply Xw
  intro hlt
  have:B^k<=B^((ag n).length-1):=Vx (by decide) zO
  omega
def ip (n:Nat):n<B^(ag n).length:=by
 have:=wM (bo n)
 rw [bH] at this; exact this
def limbs_nil {n:Nat}:ag n=[] ↔ n=0:=by
 constructor
 ·intro h
  have:=bH n
  rw [h] at this
  simpa [val] using this.symm
 ·rintro rfl; exact cK
def eF (l:List Nat):List Nat:=(l.reverse.dropWhile (· == 0)).reverse
def dY (l:List Nat):eF (l++[0])=eF l:=by simp [eF]
def iS {l:List Nat} {a:Nat} (h:a≠0):eF (l++[a])=l++[a]:=by simp [eF,h]
theorem wN:eF []=[]:=rfl
def zJ:∀ (n:Nat) (l:List Nat),l.length=n->Lim l->eF l=ag (val l)
 | 0,l,hl,_=>by
  have:l=[]:=V6 hl
  subst this;rw [wN]; show []=ag 0; rw [cK]
 | n+1,l,hl,h=>by
  rcases Xb l with rfl | ⟨l',a,rfl⟩
  ·simp at hl
  ·rw [Xc] at *;have hl':l'.length=n:=by simpa using hl
   have hlim:Lim l':=fun x hx=>h x (WF _ hx);by_cases ha:a=0
   ·subst ha;rw [dY,zJ n l' hl' hlim,jL]; simp
   ·rw [iS ha,xA h];unfold My;simp [ha]
def eA {l:List Nat} (h:Lim l):eF l=ag (val l):=zJ _ l rfl h
end Go.Proofs.YteaefaohjlmjdaaGreat.Nn
namespace Go.Proofs.YteaefaohjlmjdaaGreat.Ev
open Go Nn
abbrev Lb (H:Heap) (v:AV) (l:List Nat):Prop:=BR cj ae H v l
abbrev bJ (H:Heap) (v:AV) (n:Nat):Prop:=Lb H v (ag n)
def Sm (n:Nat):Prop:=(ag n).length<1099511627776
section
variable {tab:Nat->Option aA} {H:Heap} {s:AV} {l:List Nat}
def fp (hs:Lb H s l) {i:Nat} (hi:i<l.length):aX H none (au s i)=some (.int .u64 (l.getD i 0:Nat)):=by
 obtain ⟨c,hc,h⟩:=SlV.at1 hs (i:=i) (a:=l.getD i 0) (by simp [hi,U5]);rw [h,hc]
def oP (C:Code tab) (hw:Wf H) (hs:Lb H s l) (hbig:l.length<4611686018427387904) :
  Ans tab (.fn nh [s]) H fun v H'=>v=.int .i64 (if l.getLast? = some 0 then 8 else 0)/\Kp H H':=by
 refine cR C.q73 zU fun T hl g0=>?_;rcases Xb l with rfl | ⟨l',a,rfl⟩
 ·have hle:lenV s=some (.int .i64 0):=hs.lenV;refine zW (aE hl g0 hle) ?_;exact ⟨rfl,zK⟩
 ·rw [Xc] at *;have hle:lenV s=some (.int .i64 ((l'.length:Int)+1)):=by have:=hs.lenV; simpa using this
  have hwr:IntKind.i64.wrap ((l'.length:Int)+1-1)=(l'.length:Int):=by rw [wrap_i64] <;> simp at hbig <;> omega
  have hpos:(0:Int)<(l'.length:Int)+1:=zO;have hi:=SlV.idx1 hs .i64 l'.length (by simp);have hld:aX H none (au s l'.length)=some (.int .u64 (a:Nat)):=by rw [fp hs (by simp)]; simp
  refine zW (fy hl g0 hle hwr hpos hi hld) ?_;refine iteH.split (fun h=>?_) fun h=>?_
  ·refine zW (aD hl g0) ?_;exact ⟨by rw [if_pos]; simp; omega,zK⟩
  ·refine zW (aD hl g0) ?_;exact ⟨by rw [if_neg]; simp; omega,zK⟩
def qR (C:Code tab) (hw:Wf H) {ls:List (List Nat)} {ty:Nat} (hs:BR (tk (bS cj) ae) ty H s ls) (hbig:ls.length<4611686018427387904) (hc:∀ c∈ls,c.length<4611686018427387904/\c.getLast? ≠ some 0) :
  Ans tab (.fn nU [s]) H fun v H'=>v=.int .i64 0/\Kp H H':=by
 refine cR C.q126 zU fun T hl g0=>?_;refine zW (aE hl g0 hs.lenV) ?_;refine aq H [] (fun _ _ _=>True) (a:=0) (N:=ls.length) rfl (by refine zW (aD hl g0) ?_; rfl) (zV (aD hl g0)) (Vj _) zO (by simp only [U4,hl]; rfl) rfl (fun _ _ _ _ h=>h) zK trivial ?_ ?_
 ·intro j T1 H1 _ hj hl1 hi1 hs1 hk1 _;have w1:=hk1.wf;have le_hk1:=hk1.le;have t6:ad T1 6=s:=(hs1.at_ 6 zU).trans (zV (aD hl g0));obtain ⟨c,hcr,hld⟩:=SlV.at1 (hs.mono hk1.sub) (U7 hj);have hix:=SlV.idx1 hs .i64 j hj;have hcc:=hc _ (U9 hj);simp only [U4,hl] at hl1;refine zW (bA hl1 t6 hi1 hix hld) ?_;refine AnsH.eq (oP C zF hcr hcc.1) fun H2 h2=>?_;rw [if_neg hcc.2];refine zW hl1 ?_;have k2:Kp H H2:=Kp.trans zK h2;have le_k2:=k2.le;exact zK
 ·intro T1 H1 hl1 hs1 hk1 _;simp only [U4,hl] at hl1;refine zW hl1 ?_;exact zK
def qi (C:Code tab) (hw:Wf H) (hs:Lb H s l):Ans tab (.fn cu [s]) H fun v H'=>Lb H' v l/\Kp H H':=by
 refine cR C.q104 zU fun T hl g0=>?_;obtain ⟨v',e,hr⟩:=hs.clip .i64 .i64;have e':cw 1 s none (some (.int .i64 (l.length:Int))) (some (.int .i64 (l.length:Int)))=some v':=e;refine zW (aQ hl g0 hs.lenV e') ?_;exact ⟨hr.mono (Sub.bump H _),zK⟩
def uZ (C:Code tab) (hw:Wf H) (hs:Lb H s l) (hbig:l.length<4611686018427387904) :
  Ans tab (.fn pI [s]) H fun v H'=>Lb H' v (eF l)/\Kp H H':=by
 refine cR C.q72 zU fun T hl g0=>?_;refine zW (aD hl g0) ?_;refine cm H [0] (fun k vs H'=>∃ v,vs=[v]/\Lb H' v (l.take k)/\eF (l.take k)=eF l/\k<=l.length) l.length (by simp only [U4]; exact hl) rfl zK ⟨s,by exact zV (aD hl g0),by rw [VD]; exact hs,by rw [VD],Vb _⟩ ?_;rintro k T1 H1 hl1 hs1 hk1 ⟨v,hv,hr,ht,hk⟩;have w1:=hk1.wf;have le_hk1:=hk1.le;simp only [Ve,Vk,Vg,and_true] at hv;rcases Xb (l.take k) with h0 | ⟨l',a,h0⟩
 ·rw [h0] at hr ht;have hle:lenV v=some (.int .i64 0):=hr.lenV;refine zW (aE hl1 hv hle) ?_;refine AnsH.use (qi C zF (hr.mono (Sub.bump H1 _))) ?_;rintro v2 H2 ⟨h1,h2⟩;have k2:Kp H H2:=Kp.trans zK h2;have le_k2:=k2.le;rw [<- ht];refine zW hl1 ?_;exact ⟨h1,zK⟩
 ·rw [Xc] at h0;have hk1':k=l'.length+1:=by have:=congrArg List.length h0; simp at this; omega
  have hl':l.take l'.length=l':=by
   have:=congrArg (List.take l'.length) h0
   rw [Xn,Wi zO] at this
   simpa using this
  rw [h0] at hr ht;have hle:lenV v=some (.int .i64 ((l'.length:Int)+1)):=by have:=hr.lenV; simpa using this
  have hpos:(0:Int)<(l'.length:Int)+1:=zO;have hix:=SlV.idx1 hr .i64 l'.length (by simp);have hld:aX H1 none (au v l'.length)=some (.int .u64 (a:Nat)):=by rw [fp hr (by simp)]; simp
  have hwr:IntKind.i64.wrap ((l'.length:Int)+1-1)=(l'.length:Int):=by rw [wrap_i64] <;> omega
  refine zW (fy hl1 hv hle hpos hix hld hwr) ?_;refine iteH.split (fun ha=>?_) fun ha=>?_
  ·obtain ⟨v',e,hr'⟩:=hr.hi .i64 l'.length (by simp);have e':cw 1 v none (some (.int .i64 (l'.length:Int))) none=some v':=e;have ha0:a=0:=zO;subst ha0;refine zW (bA hl1 hv hle hwr e') ?_;refine ⟨zK,l'.length,zO,v',rfl,?_,?_,zO⟩
   ·rw [hl'];have h3:Lb H1 v' l':=by simpa using hr'
    exact h3.mono (Sub.bump H1 _)
   ·rw [hl',<- ht,dY]
  ·have ha':a≠0:=zO;refine zW (aD hl1 hv) ?_;refine AnsH.use (qi C zF (hr.mono (Sub.bump H1 _))) ?_;rintro v2 H2 ⟨h1,h2⟩;have k2:Kp H H2:=Kp.trans zK h2;have le_k2:=k2.le;rw [iS ha'] at ht;rw [<- ht];refine zW hl1 ?_;exact ⟨h1,zK⟩
def Id (C:Code tab) (hw:Wf H) {n:Nat} (hn:n<B):Ans tab (.fn AF [.int .u64 (n:Int)]) H fun v H'=>bJ H' v n/\Sm n/\Kp H H':=by
 refine cR C.q41 zU fun T hl g0=>?_;refine zW (aD hl g0) ?_;have k1:Kp H ((H.up 5).put (H.next+2) (.cells [.int .u64 (n:Int)] ae true)):=zK;have le_k1:=k1.le;have hs:Lb ((H.up 5).put (H.next+2) (.cells [.int .u64 (n:Int)] ae true)) (.own (H.next+2) 0 1 1 1 true) [n] :=
  (show Own (bS cj) ae H _ _ true _ [n] from ⟨_,rfl,ap _ _ _,Cells.one ⟨_,rfl,rfl⟩,zO⟩).sl
 refine AnsH.use (uZ C k1.wf hs (by simp)) ?_;rintro v H2 ⟨h1,h2⟩;have e:eF [n]=ag n:=by rw [eA (Lim.cons hn Lim.nil)]; simp [val]
 rw [e] at h1;refine zW (aD hl g0) ?_;refine ⟨h1,?_,k1.trans h2⟩
 have:=bi (n:=n) (k:=1) (by simpa using hn)
 unfold Sm; omega
def eW (C:Code tab) (hw:Wf H) (hs:Lb H s l) (b:Bool) :
  Ans tab (.fn pB [.bool b,s]) H fun v H'=>v=.agg [.bool (b && decide (0<l.length)),s]/\Kp H H':=by
 refine bB C.q42 zU fun T hl g0 g1=>?_;have o1:=hs.one;cases b
 ·refine zW (aQ hl g0 g1 hs.lenV) ?_;exact zK
 ·refine zW (aQ hl g0 g1 hs.lenV) ?_;exact zK
end
def dq (f:Nat->Nat->Nat->Nat × Nat) (a b:List Nat):Nat->List Nat × Nat
 | 0=>([],0)
 | k+1=>((dq f a b k).1++[(f (a.getD k 0) (b.getD k 0) (dq f a b k).2).1],(f (a.getD k 0) (b.getD k 0) (dq f a b k).2).2)
def gR (f:Nat->Nat->Nat->Nat × Nat) (a b:List Nat):∀ k,(dq f a b k).1.length=k
 | 0=>rfl
 | k+1=>by simp [dq,gR f a b k]
section
variable {tab:Nat->Option aA} {H:Heap}
def Lh (C:Code tab) (hw:Wf H) {sa sb:AV} (ha:One sa) (hb:One sb) :
  Ans tab (.fn rf [sa,sb]) H fun v H'=>v=.fn (.func gq) [] [.ptr H.next 0,.ptr (H.next+1) 0]/\H'.get H.next=some (.cells [sa] aI true)/\H'.get (H.next+1)=some (.cells [sb] aI true)/\H.next+2<=H'.next/\Kp H H':=by
 refine bB C.q149 zU fun T hl g0 g1=>?_;refine zW (aE hl g0 g1) ?_;exact ⟨zO,zK⟩
def B0 (C:Code tab) {H0:Heap} {lb ba bb:Nat} {a b:List Nat} {sa sb:AV} (J:Nat->Heap->Prop) (hla:a.length<4611686018427387904) (hlb:b.length<4611686018427387904) {M:Nat} (hM:M=max a.length b.length)
  (hk:Kp H0 H) (h0:J 0 H) (hup:∀ k H m,J k H->J k (H.up m)) (hA:∀ k H,J k H->H.get ba=some (.cells [sa] aI true)/\Lb H sa a/\H.get bb=some (.cells [sb] aI true)/\Lb H sb b)
  (hr:∀ k H,k<M->Kp H0 H->J k H->Ans tab (.round lb [.int .u64 (a.getD k 0:Nat),.int .u64 (b.getD k 0:Nat)]) H fun v H'=>v=.bool true/\Kp H0 H'/\J (k+1) H') :
  Ans tab (.ent gq [.loopv lb,.ptr ba 0,.ptr bb 0]) H fun _ H'=>Kp H0 H'/\J M H':=by
 refine Ux C.q160 zU fun T hl g0 g1 g2=>?_;obtain ⟨q1,q2,q3,q4⟩:=hA _ _ h0;have hmax:Lj (.int .i64 (a.length:Int)) (.int .i64 (b.length:Int))=some (.int .i64 (M:Int)):=by rw [Eb]; congr 2; split <;> omega
 refine zW (jW hl g0 g1 g2 q1 q3 q2.lenV q4.lenV hmax) ?_;refine aq H0 [] (fun j _ H'=>J j H') (a:=0) (N:=M) rfl (by refine zW (aQ hl g0 g1 g2) ?_; rfl) (zV (aQ hl g0 g1 g2)) (Vj _) zO (by simp only [U4,hl]; rfl) rfl (fun j _ H' m h=>hup _ _ _ h) zK (hup _ _ _ h0) ?_ ?_
 ·intro j T1 H1 _ hj hl1 hi1 hs1 hk1 hJ;simp only [U4,hl] at hl1;have t0:ad T1 0=.loopv lb:=(hs1.at_ 0 zU).trans (zV (aD hl g0));have t1:ad T1 1=.ptr ba 0:=(hs1.at_ 1 zU).trans (zV (bA hl g0 g1 g2 g1));have t2:ad T1 2=.ptr bb 0:=(hs1.at_ 2 zU).trans (zV (bA hl g0 g1 g2 g2));obtain ⟨q1,q2,q3,q4⟩:=hA _ _ hJ;have gz:∀ (l:List Nat),¬ j<l.length->l.getD j 0=0:=fun l h=>by rw [U5,VI zO]; rfl
  have hround:∀ m,Ans tab (.round lb [.int .u64 (a.getD j 0:Nat),.int .u64 (b.getD j 0:Nat)]) (H1.up m) fun v H'=>v=.bool true/\Kp H0 H'/\J (j+1) H':=fun m=>hr j _ hj (hk1.up m) (hup _ _ _ hJ);refine zW (jW hl1 t0 t1 t2 hi1 q1 q3 q2.lenV q4.lenV) ?_;refine iteH.split (fun h1=>?_) fun h1=>?_
  ·have x1:=SlV.idx1 q2 .i64 j h1;have d1:=fp q2 h1;refine zW (iO hl1 t0 t1 t2 hi1 q1 q3 q2.lenV q4.lenV x1 d1) ?_;refine iteH.split (fun h2=>?_) fun h2=>?_
   ·have x2:=SlV.idx1 q4 .i64 j h2;have d2:=fp q4 h2;refine zW (iO hl1 t0 t1 t2 hi1 q1 q3 q2.lenV q4.lenV x2 d2) ?_;refine AnsH.eq (hround _) fun H2 ⟨k2,j2⟩=>?_;refine zW hl1 ?_;exact ⟨zK,j2⟩
   ·rw [gz b h2] at hround;refine zW (fy hl1 t0 t1 t2 hi1 q1 q3) ?_;refine AnsH.eq (hround _) fun H2 ⟨k2,j2⟩=>?_;refine zW hl1 ?_;exact ⟨zK,j2⟩
  ·rw [gz a h1] at hround;refine zW (jW hl1 t0 t1 t2 hi1 q1 q3 q2.lenV q4.lenV) ?_;refine iteH.split (fun h2=>?_) fun h2=>?_
   ·have x2:=SlV.idx1 q4 .i64 j h2;have d2:=fp q4 h2;refine zW (iO hl1 t0 t1 t2 hi1 q1 q3 q2.lenV q4.lenV x2 d2) ?_;refine AnsH.eq (hround _) fun H2 ⟨k2,j2⟩=>?_;refine zW hl1 ?_;exact ⟨zK,j2⟩
   ·rw [gz b h2] at hround;refine zW (fy hl1 t0 t1 t2 hi1 q1 q3) ?_;refine AnsH.eq (hround _) fun H2 ⟨k2,j2⟩=>?_;refine zW hl1 ?_;exact ⟨zK,j2⟩
 ·intro T1 H1 hl1 hs1 hk1 hJ;refine zW hl1 ?_;exact ⟨hk1,hJ⟩
def pw {f:Src} {ps:List Nat} {asg body:ACode} {T:Tm} {Q:Ex->Tm->Heap->Prop} {fi:Nat} {args:List AV} (hf:iA (f.ev T) [.loopv H.next]=some (.fn fi args))
  (h:Ans tab (.ent fi args) ((H.up 1).put H.next (.loop T ps asg body .ready none)) fun _ H2 =>
   (H2.get H.next=some (.loop T ps asg body .ready none)/\Q .nrm T (H2.kill H.next))\/(H2.get H.next=some (.loop T ps asg body .done (some .ret))/\Q .ret T (H2.kill H.next)) \/
   (∃ id,H2.get H.next=some (.loop T ps asg body .done (some (.exit id)))/\Q (.exit id) T (H2.kill H.next))):rangeH tab f ps asg body () () T H Q ():=rangeH.use hf h
def AC (C:Code tab) (hw:Wf H) {sa sb:AV} {a b:List Nat} (ha:Lb H sa a) (hb:Lb H sb b) (hla:a.length<4398046511104) (hlb:b.length<4398046511104) (la:Lim a) (lmb:Lim b) {fi:Nat} {f:Nat->Nat->Nat->Nat × Nat}
  (hg:∀ H x y c,x<B->y<B->c<=1->Ans tab (.fn fi [.int .u64 (x:Nat),.int .u64 (y:Nat),.int .u64 (c:Nat)]) H fun v H'=>v=.tup [.int .u64 ((f x y c).1:Nat),.int .u64 ((f x y c).2:Nat)]/\H'=H) (hc1:∀ x y c,x<B->y<B->c<=1->(f x y c).2<=1) :
  Ans tab (.fn pJ [sa,sb,.fn (.func fi) [] []]) H fun v H'=>∃ o,v=.tup [o,.int .u64 ((dq f a b (max a.length b.length)).2:Nat)]/\Bl (bS cj) ae H H' o (dq f a b (max a.length b.length)).1/\Kp H H':=by
 refine kS C.q127 zU fun T hl g0 g1 g2=>?_;refine zW (aQ hl g0 g1 g2) ?_;have k1:Kp H ((((H.up 6).put H.next (.cells [.fn (.func fi) [] []] aH true)).put (H.next+1) (.cells [.nilSl] aI true)).put (H.next+1+1) (.cells [.int .u64 0] ae true)):=zK;have le_k1:=k1.le;refine AnsH.use (Lh C k1.wf ha.one hb.one) ?_;rintro v H2 ⟨rfl,b1,b2,hn2,hk2⟩;have k2:=k1.trans hk2;have p5:H2.get H.next=some (.cells [.fn (.func fi) [] []] aH true):=hk2.get (cH)
 have p6:H2.get (H.next+1)=some (.cells [.nilSl] aI true):=hk2.get (cH);have p7:H2.get (H.next+1+1)=some (.cells [.int .u64 0] ae true):=hk2.get (cH);have hn1:((((H.up 6).put H.next (.cells [.fn (.func fi) [] []] aH true)).put (H.next+1) (.cells [.nilSl] aI true)).put (H.next+1+1) (.cells [.int .u64 0] ae true)).next=H.next+6:=rfl
 rw [hn1] at b1 b2 hn2 ⊢;refine zW (aQ hl g0 g1 g2) ?_;refine pw (fi:=gq) (args:=[.loopv H2.next,.ptr (H.next+6) 0,.ptr (H.next+6+1) 0]) (by refine zW (aQ hl g0 g1 g2) ?_; rfl) ?_
 generalize he:Ent.loop _ _ _ _ _ _=e0
 have k3:Kp H ((H2.up 1).put H2.next e0):=zK;have le_k3:=k3.le;refine (B0 C (H0:=H) (a:=a) (b:=b) (sa:=sa) (sb:=sb) (M:=max a.length b.length) (fun k H'=>H'.get H2.next=some e0/\H'.get H.next=some (.cells [.fn (.func fi) [] []] aH true) /\
   (∃ o,H'.get (H.next+1)=some (.cells [o] aI true)/\Bl (bS cj) ae H H' o (dq f a b k).1/\∀ n,o ≠ .own (H.next+1+1) 0 n n 1 false)/\H'.get (H.next+1+1)=some (.cells [.int .u64 ((dq f a b k).2:Nat)] ae true)/\(dq f a b k).2<=1 /\
   H'.get (H.next+6)=some (.cells [sa] aI true)/\H'.get (H.next+6+1)=some (.cells [sb] aI true)/\Lb H' sa a/\Lb H' sb b) zO zO rfl k3
  ⟨by exact cH,by exact zV p5,⟨.nilSl,by exact zV p6,Bl.nil,fun n h=>by cases h⟩,by refine zW p7 ?_; rfl,Vj _,by exact zV b1,by exact zV b2,ha.mono k3.sub,hb.mono k3.sub⟩ (fun _ _ _ h=>h) (fun k H' h=>⟨h.2.2.2.2.2.1,h.2.2.2.2.2.2.2.1,h.2.2.2.2.2.2.1,h.2.2.2.2.2.2.2.2⟩) ?_).mono ?_
 ·rintro k H1 hk hk1 ⟨j0,j5,⟨o,j6,jo,jn⟩,j7,j7',ja,jb,-,-⟩;rw [<- he] at j0;refine qc j0 rfl ?_;refine zW (iy hl g0 g1 g2 j0 j5 j6 j7) ?_;refine AnsH.eq (hg _ _ _ _ (la.at k) (lmb.at k) j7') fun H3 e3=>?_;subst e3;have hlt:=hk1.wf _ _ j0;have hle:=hk1.le;have hz:=hc1 _ _ _ (la.at k) (lmb.at k) j7';refine zW (iy hl g0 g1 g2 j0 j5 j6 j7) ?_
  generalize he2:Ent.loop _ _ _ _ LoopState.busy none=e2
  generalize hzz:f (a.getD k 0) (b.getD k 0) (dq f a b k).2=z
  have k4:Kp H (((H1.up 13).put H2.next e2).put (H.next+2) (.cells [.int .u64 (z.2:Nat)] ae true)):=zK;have le_k4:=k4.le;have q1:Bl (bS cj) ae H (((H1.up 13).put H2.next e2).put (H.next+2) (.cells [.int .u64 (z.2:Nat)] ae true)) o (dq f a b k).1 :=
   (Bl.put (show Bl _ _ _ (H1.up 13) _ _ from jo) (jo.ne j0 fun cs h=>by cases h) (SubT.nil _ _)).put jn (SubT.nil _ _)
  have hlen:=gR f a b k;obtain ⟨n,H4,e1,q2,k5,hn4,hp⟩:=q1.push (ty2:=ae) (bytes:=8) (id:=H1.next+16) (id2:=H1.next+15) (k:=5) (cs:=[.int .u64 (z.1:Nat)]) (a:=z.1) (fun h=>by cases h) k4 ⟨_,rfl,rfl⟩
   (by show H1.next+13<=_; omega) (by show _<H1.next+13+5; omega) (by show H1.next+13<=_; omega) (by show _<H1.next+13+5; omega) zO zO zO
  have e1':dI ((((H1.up 18).put H2.next e2).put (H.next+2) (.cells [.int .u64 (z.2:Nat)] ae true)).put (H1.next+15) (.cells [.int .u64 (z.1:Nat)] ae true)) (H1.next+16) 1 8 ae o (.own (H1.next+15) 0 1 1 1 true)=some (.own (H1.next+16) 0 n n 1 false,H4):=e1;have r6:H4.get (H.next+1)=some (.cells [o] aI true):=hp (H.next+1) (.cells [o] aI true) (zV j6) (q1.ne (e:=.cells [o] aI true) (zV j6) fun cs h=>by injection h with _ h2; exact absurd h2 zU);refine zW (dL hl g0 g1 g2 e1' r6) ?_;have ty1:∀ {o':AV} {cs:List AV},Ent.cells [o'] aI true ≠ .cells cs ae true:=fun h=>by injection h with _ h2; exact absurd h2 zU
  have r0:H4.get H2.next=some e2:=hp H2.next e2 (cH) (q1.ne (e:=e2) (cH) fun cs h=>by rw [<- he2] at h; cases h)
  have r5:H4.get H.next=some (.cells [.fn (.func fi) [] []] aH true):=hp H.next _ (zV j5) (q1.ne (e:=.cells [.fn (.func fi) [] []] aH true) (zV j5) fun cs h=>by injection h with _ h2; exact absurd h2 zU)
  have r7:H4.get (H.next+2)=some (.cells [.int .u64 (z.2:Nat)] ae true):=hp (H.next+2) _ (cH) jn;have ra:H4.get (H.next+6)=some (.cells [sa] aI true):=hp (H.next+6) (.cells [sa] aI true) (zV ja) (q1.ne (e:=.cells [sa] aI true) (zV ja) fun cs=>ty1);have rb:H4.get (H.next+7)=some (.cells [sb] aI true):=hp (H.next+7) (.cells [sb] aI true) (zV jb) (q1.ne (e:=.cells [sb] aI true) (zV jb) fun cs=>ty1);have hn4':H4.next=H1.next+18:=hn4
  have k6:Kp H ((H4.put (H.next+1) (.cells [.own (H1.next+16) 0 n n 1 false] aI true)).put H2.next e0):=zK;have le_k6:=k6.le;rw [uQ];refine zW (fy he2 he r0 r5 r7 ra rb) ?_;refine ⟨k6,⟨_,rfl,?_,fun n' h=>by injection h; omega⟩,?_,?_,ha.mono k6.sub,hb.mono k6.sub⟩
  ·have:(dq f a b (k+1)).1=(dq f a b k).1++[z.1]:=by rw [<- hzz]; rfl
   rw [this];exact (q2.put (fun n' h=>by injection h; omega) (SubT.nil _ _)).put (fun n' h=>by injection h; omega) (SubT.nil _ _)
  ·rw [<- hzz]; rfl
  ·have:(dq f a b (k+1)).2=z.2:=by rw [<- hzz]; rfl
   rw [this,<- hzz]; exact hz
 ·rintro _ H' ⟨hk',j0,j5,⟨o,j6,jo,jn⟩,j7,j7',-⟩;have hlt:=hk'.wf _ _ j0;refine .inl ⟨j0,?_⟩;refine zW (dL hl g0 g1 g2 j6 j7) ?_;exact ⟨o,rfl,jo.kill (jo.ne j0 fun cs h=>by rw [<- he] at h; cases h) (SubT.nil _ _),zK⟩
end
def cS (l:List Nat) (k:Nat):val (l.take (k+1))=val (l.take k)+B^k*l.getD k 0:=by
 by_cases h:k<l.length
 ·rw [Vi h,jL,VC,Wi (W0 h)];simp [U5,h]
 ·rw [VF zO,VF zO,U5,VI zO]
  simp
def eQ (x y c:Nat):Nat × Nat:=((x+y+c) % B,(x+y+c) / B)
def jg (x y c:Nat):Nat × Nat:=((x+B-y-c) % B,if x<y+c then 1 else 0)
def zl (x y c:Nat) (hx:x<B) (hy:y<B) (hc:c<=1):(eQ x y c).2<=1:=by
 simp only [eQ,B] at *; omega
def vJ (x y c:Nat):(jg x y c).2<=1:=by
 unfold jg; simp only; split <;> omega
def zj {f:Nat->Nat->Nat->Nat × Nat} {a b:List Nat} (la:Lim a) (lb:Lim b) (h:∀ x y c,x<B->y<B->c<=1->(f x y c).2<=1):∀ k,(dq f a b k).2<=1
 | 0=>Vj _
 | k+1=>h _ _ _ (la.at k) (lb.at k) (zj la lb h k)
def AR {f:Nat->Nat->Nat->Nat × Nat} {a b:List Nat} (h:∀ x y c,(f x y c).1<B):∀ k,Lim (dq f a b k).1
 | 0=>Lim.nil
 | k+1=>(AR h k).append (Lim.cons (h _ _ _) Lim.nil)
def Kg {a b:List Nat}:∀ k,val (dq eQ a b k).1+B^k*(dq eQ a b k).2=val (a.take k)+val (b.take k)
 | 0=>by simp [dq,val]
 | k+1=>by
  have ih:=Kg (a:=a) (b:=b) k;rw [cS,cS];simp only [dq,jL,gR]
  generalize dq eQ a b k=r at ih ⊢
  generalize a.getD k 0=x
  generalize b.getD k 0=y
  simp only [eQ];have e:=Wj (x+y+r.2) B
  have:B^(k+1)*((x+y+r.2) / B)=B^k*(B*((x+y+r.2) / B)):=by rw [VJ,VU]
  rw [this]
  generalize B*((x+y+r.2) / B)=q at *
  generalize (x+y+r.2) % B=m at *
  have:B^k*(x+y+r.2)=B^k*q+B^k*m:=by rw [<- e,Wa]
  rw [Wa,Wa] at this;omega
def Jd {a b:List Nat} (la:Lim a) (lb:Lim b):∀ k,val (dq jg a b k).1+val (b.take k)=val (a.take k)+B^k*(dq jg a b k).2
 | 0=>by simp [dq,val]
 | k+1=>by
  have ih:=Jd la lb k;have hc:(dq jg a b k).2<=1:=zj la lb (fun x y c _ _ _=>vJ x y c) k;rw [cS,cS];simp only [dq,jL,gR];have hx:=la.at k;have hy:=lb.at k
  generalize dq jg a b k=r at ih hc ⊢
  generalize a.getD k 0=x at *
  generalize b.getD k 0=y at *
  have key:(jg x y r.2).1+y+r.2=x+B*(jg x y r.2).2:=by
   clear ih;simp only [jg,B] at *;split <;> omega
  have:B^(k+1)*(jg x y r.2).2=B^k*(B*(jg x y r.2).2):=by rw [VJ,VU]
  rw [this]
  have:=congrArg (B^k * ·) key
  simp only [Wa] at this
  generalize B^k*(B*(jg x y r.2).2)=q at *
  generalize B^k*(jg x y r.2).1=m at *
  omega
section
variable {tab:Nat->Option aA} {H:Heap}
def iN (C:Code tab) (H:Heap) (x y c:Nat) (_:x<B) (_:y<B) (hc:c<=1):Ans tab (.fn iZ [.int .u64 (x:Nat),.int .u64 (y:Nat),.int .u64 (c:Nat)]) H fun v H'=>v=.tup [.int .u64 ((eQ x y c).1:Nat),.int .u64 ((eQ x y c).2:Nat)]/\H'=H :=
 zn C.q128 rfl rfl (v:=.tup [.int .u64 ((eQ x y c).1:Nat),.int .u64 ((eQ x y c).2:Nat)]) (H':=H) (by
  show (if c<=1 then _ else _)=_;rw [if_pos hc]; rfl) ⟨rfl,rfl⟩
def xQ (C:Code tab) (H:Heap) (x y c:Nat) (_:x<B) (_:y<B) (hc:c<=1):Ans tab (.fn iV [.int .u64 (x:Nat),.int .u64 (y:Nat),.int .u64 (c:Nat)]) H fun v H'=>v=.tup [.int .u64 ((jg x y c).1:Nat),.int .u64 ((jg x y c).2:Nat)]/\H'=H :=
 zn C.q129 rfl rfl (v:=.tup [.int .u64 ((jg x y c).1:Nat),.int .u64 ((jg x y c).2:Nat)]) (H':=H) (by
  show (if c<=1 then _ else _)=_;rw [if_pos hc]; rfl) ⟨rfl,rfl⟩
def B2 {H H1:Heap} {b ty t1:Nat} {α:Type} {E:fw α} {x y:AV} {l m:List α} (hx:SlV E t1 H x l) (hy:SlV E t1 H y m) (hs:Sub H H1) (hg:H1.get b=some (.cells [x,y] ty true)):BR (tk E t1) ty H1 (.own b 0 2 2 1 true) [l,m] :=
 ⟨[x,y],Rd.own hg rfl (Vb _),fun _ _ _ _ _ _ e=>by cases e; exact ⟨_,_,hg⟩,rfl,fun i a hi=>by
  match i with
  | 0=>simp at hi; subst hi; exact ⟨x,rfl,hx.mono hs⟩
  | 1=>simp at hi; subst hi; exact ⟨y,rfl,hy.mono hs⟩
  | i+2=>simp at hi⟩
def St {H H1:Heap} {b ty t1:Nat} {α:Type} {E:fw α} {x:AV} {l:List α} (hx:SlV E t1 H x l) (hs:Sub H H1) (hg:H1.get b=some (.cells [x] ty true)):BR (tk E t1) ty H1 (.own b 0 1 1 1 true) [l] :=
 ⟨[x],Rd.own hg rfl (Vb _),fun _ _ _ _ _ _ e=>by cases e; exact ⟨_,_,hg⟩,rfl,fun i a hi=>by
  match i with
  | 0=>simp at hi; subst hi; exact ⟨x,rfl,hx.mono hs⟩
  | i+1=>simp at hi⟩
def tj (a b:List Nat):a.take (max a.length b.length)=a:=VF zO
def qG (a b:List Nat):b.take (max a.length b.length)=b:=VF zO
def Ju (C:Code tab) (hw:Wf H) {sa sb:AV} {x y:Nat} (ha:bJ H sa x) (hb:bJ H sb y) (hx:Sm x) (hy:Sm y) :
  Ans tab (.fn xh [sa,sb]) H fun v H'=>∃ o,v=.tup [o,.int .i64 0]/\bJ H' o (x+y)/\Kp H H':=by
 refine bB C.q107 zU fun T hl g0 g1=>?_;have oa:=ha.one;have ob:=hb.one;unfold Sm at hx hy;refine zW (aE hl g0 g1) ?_;have k1:Kp H ((H.up 7).put (H.next+4) (.cells [sa,sb] aI true)):=zK;have le_k1:=k1.le;refine AnsH.eq (qR C k1.wf (B2 ha hb k1.sub (ap _ _ _)) (by simp) fun c hc=>?_) fun H2 hk2=>?_
 ·simp at hc;rcases hc with rfl | rfl
  ·exact ⟨zO,dt x⟩
  ·exact ⟨zO,dt y⟩
 have k2:=k1.trans hk2;have w2:=k2.wf;refine zW (aE hl g0 g1) ?_;refine AnsH.use (AC C zF (ha.mono (k2.up _).sub) (hb.mono (k2.up _).sub) zO zO (bo x) (bo y) (f:=eQ) (iN C) zl) ?_;rintro v H3 ⟨o,rfl,ho,hk3⟩;obtain ⟨k3,_,w3⟩:=zT H zK hk3;have hlen:=gR eQ (ag x) (ag y) (max (ag x).length (ag y).length);have hval:=Kg (a:=ag x) (b:=ag y) (max (ag x).length (ag y).length);rw [tj,qG,bH,bH] at hval;have hlim:Lim (dq eQ (ag x) (ag y) (max (ag x).length (ag y).length)).1:=AR (fun x y c=>V4 _ zU) _;have hle:=zj (bo x) (bo y) zl (max (ag x).length (ag y).length)
 generalize dq eQ (ag x) (ag y) (max (ag x).length (ag y).length)=r at *
 refine zW (aE hl g0 g1) ?_;obtain ⟨n,H4,e1,q2,k5,hn4,-⟩:=ho.push (ty2:=ae) (bytes:=8) (id:=H3.next+3) (id2:=H3.next+2) (k:=7) (cs:=[.int .u64 (r.2:Nat)]) (a:=r.2) (fun h=>by cases h) hk3 ⟨_,rfl,rfl⟩ zO zO zO zO zO zO zO;have e1':dI ((H3.up 7).put (H3.next+2) (.cells [.int .u64 (r.2:Nat)] ae true)) (H3.next+3) 1 8 ae o (.own (H3.next+2) 0 1 1 1 true)=some (.own (H3.next+3) 0 n n 1 false,H4):=e1;refine zW (aQ hl g0 g1 e1') ?_;have w4:=k5.wf;refine AnsH.use (uZ C zF q2.sl zS) ?_;rintro v H5 ⟨h5,hk5⟩;have k7:Kp H H5:=((k2.up _).trans k5).trans hk5;have le_k7:=k7.le;have e:eF (r.1++[r.2])=ag (x+y):=by
  rw [eA (hlim.append (Lim.cons (by unfold B; omega) Lim.nil)),jL,hlen,hval]
 rw [e] at h5;refine zW (aE hl g0 g1) ?_;exact ⟨v,rfl,h5,k7⟩
def DZ (C:Code tab) (hw:Wf H) {sa sb:AV} {x y:Nat} (ha:bJ H sa x) (hb:bJ H sb y) (hx:Sm x) (hy:Sm y) :
  Ans tab (.fn xg [sa,sb]) H fun v H'=>Kp H H'/\if y<=x then ∃ o,v=.tup [o,.int .i64 0]/\bJ H' o (x-y) else v=.tup [.nilSl,.int .i64 10]:=by
 refine bB C.q108 zU fun T hl g0 g1=>?_;have oa:=ha.one;have ob:=hb.one;unfold Sm at hx hy;refine zW (aE hl g0 g1) ?_;have k1:Kp H ((H.up 7).put (H.next+4) (.cells [sa,sb] aI true)):=zK;have le_k1:=k1.le;refine AnsH.eq (qR C k1.wf (B2 ha hb k1.sub (ap _ _ _)) (by simp) fun c hc=>?_) fun H2 hk2=>?_
 ·simp at hc;rcases hc with rfl | rfl
  ·exact ⟨zO,dt x⟩
  ·exact ⟨zO,dt y⟩
 have k2:=k1.trans hk2;have w2:=k2.wf;refine zW (aE hl g0 g1) ?_;refine AnsH.use (AC C zF (ha.mono (k2.up _).sub) (hb.mono (k2.up _).sub) zO zO (bo x) (bo y) (f:=jg) (xQ C) fun x y c _ _ _=>vJ x y c) ?_;rintro v H3 ⟨o,rfl,ho,hk3⟩;obtain ⟨k3,_,w3⟩:=zT H zK hk3;have hlen:=gR jg (ag x) (ag y) (max (ag x).length (ag y).length);have hval:=Jd (bo x) (bo y) (max (ag x).length (ag y).length);rw [tj,qG,bH,bH] at hval;have hlim:Lim (dq jg (ag x) (ag y) (max (ag x).length (ag y).length)).1:=AR (fun x y c=>V4 _ zU) _;have hle:=zj (bo x) (bo y) (fun x y c _ _ _=>vJ x y c) (max (ag x).length (ag y).length);have hlt:=wM hlim;rw [hlen] at hlt
 generalize dq jg (ag x) (ag y) (max (ag x).length (ag y).length)=r at *
 refine zW (aE hl g0 g1) ?_;refine iteH.split (fun h=>?_) fun h=>?_
 ·have h1:r.2=1:=zO;rw [h1] at hval
  have:¬ y<=x:=zO
  refine zW (aQ hl g0 g1 this) ?_;exact zK
 ·have h1:r.2=0:=zO;rw [h1] at hval;have hyx:y<=x:=zO;refine zW (aE hl g0 g1) ?_;refine AnsH.use (uZ C zF (ho.sl.mono (Sub.bump H3 _)) zO) ?_;rintro v H5 ⟨h5,hk5⟩;obtain ⟨k7,_,_⟩:=zT H zK hk5;have e:eF r.1=ag (x-y):=by
   rw [eA hlim]; congr 1; omega
  rw [e] at h5;refine zW (aE hl g0 g1) ?_;exact ⟨k7,by rw [if_pos hyx]; exact ⟨v,rfl,h5⟩⟩
end
section
variable {tab:Nat->Option aA} {H:Heap} {s:AV} {l:List Nat}
def gJ (C:Code tab) (hw:Wf H) (hs:Lb H s l) (hbig:l.length<1099511627776):Ans tab (.fn cq [s]) H fun v H'=>Lb H' v l/\Kp H H':=by
 refine cR C.q70 zU fun T hl g0=>?_;rcases hs.nilcase with ⟨rfl,rfl⟩ | hne
 ·have e:bV .eql .sl .nilSl .nilSl=some (.bool true):=rfl;refine zW (aE hl g0 e) ?_;exact ⟨SlV.nil _ _ _,zK⟩
 ·have ef:cG ([]:List AV) []=some []:=rfl;refine zW (aQ hl g0 hne ef) ?_;have k1:Kp H ((H.up 7).put (H.next+3) (.cells [] ae true)):=zK;have le_k1:=k1.le;have h0:SlV (bS cj) ae ((H.up 7).put (H.next+3) (.cells [] ae true)) (.own (H.next+3) 0 0 0 1 true) ([]:List Nat) :=
   (show Own (bS cj) ae H _ (H.next+3) true _ [] from ⟨_,rfl,ap _ _ _,Cells.nil _ _,zO⟩).sl
  obtain ⟨v',H2,e1,h2,hk2,hn2,hs2,-⟩:=SlV.app (l:=[]) (id:=H.next+5) (bytes:=8) h0 k1 (hs.mono k1.sub) zO (by show _<H.next+7; omega) (by rw [az zO]; exact hw.fresh (b:=H.next+5) zO) zS zS;have e1':dI ((H.up 7).put (H.next+3) (.cells [] ae true)) (H.next+5) 1 8 ae (.own (H.next+3) 0 0 0 1 true) s=some (v',H2):=e1;refine zW (aE hl g0 e1') ?_;exact ⟨h2,hk2⟩
def intE:fw Int where
 sz:=2
 tys:=[ae]
 R H cs z:=∃ v,cs=[.bool (decide (z<0)),v]/\bJ H v z.natAbs
 pos:=zO
 len:=by rintro H cs z ⟨v,rfl,h⟩; exact ⟨rfl,by simp [h.one.2]; rfl⟩
 mono:=by rintro H H' cs z hs ⟨v,rfl,h⟩; exact ⟨v,rfl,h.monoT hs⟩
def IntV (H:Heap) (v:AV) (z:Int):Prop:=∃ w,v=.agg [.bool (decide (z<0)),w]/\bJ H w z.natAbs
def dJ (z:Int):Prop:=Sm z.natAbs
def IntV.mono {H H':Heap} (hs:Sub H H') {v:AV} {z:Int} (h:IntV H v z):IntV H' v z:=by
 obtain ⟨w,rfl,h⟩:=h; exact ⟨w,rfl,h.mono hs⟩
def bI (n:Nat):(0<(ag n).length) ↔ n≠0:=by
 rw [Z0];exact not_congr limbs_nil
def eM (C:Code tab) (hw:Wf H) {v:AV} {z:Int} (hv:IntV H v z) (hz:dJ z):Ans tab (.fn j9 [v]) H fun v H'=>v=.int .i64 0/\Kp H H':=by
 obtain ⟨w,rfl,hn⟩:=hv;unfold dJ Sm at hz;have ow:=hn.one;refine cR C.q43 zU fun T hl g0=>?_;refine zW (aD hl g0) ?_;have k1:Kp H ((H.up 16).put H.next (.cells [.bool (decide (z<0)),w] aa true)):=zK;have le_k1:=k1.le;refine AnsH.eq (oP C k1.wf (hn.mono k1.sub) zO) fun H2 hk2=>?_;rw [if_neg (dt _)];have k2:=k1.trans hk2;have b0:H2.get H.next=some (.cells [.bool (decide (z<0)),w] aa true):=hk2.get (ap _ _ _)
 refine zW (aE hl g0 @b0) ?_;refine iteH.split (fun h=>?_) fun h=>?_
 ·have:¬ (ag z.natAbs).length=0:=by have:=(bI z.natAbs).2 zO; omega
  have e:decide (((ag z.natAbs).length:Int)=0)=false:=by simp; intro h; rw [h] at this; exact this rfl
  refine zW (dL hl g0 @b0 hn.lenV h e) ?_;exact zK
 ·refine zW (aQ hl g0 @b0 h) ?_;exact zK
def je {ty:Nat} {v:AV} {l:List Int} (hs:SlV intE ty H v l) {i:Nat} (hi:i<l.length):∃ w,bJ H w (l[i]).natAbs/\aX H (some 2) (au v (i*2))=some (.agg [.bool (decide (l[i]<0)),w])/\aX H none (au v (i*2))=some (.bool (decide (l[i]<0)))/\aX H none (au v (i*2+1))=some w:=by
 obtain ⟨cs,⟨w,rfl,hn⟩,-,h1,h2⟩:=hs.at (U7 hi);exact ⟨w,hn,h2,h1 0 _ rfl,h1 1 _ rfl⟩
def JF {H1:Heap} {b ty:Nat} {x y:Int} {p q:AV} (hx:bJ H p x.natAbs) (hy:bJ H q y.natAbs) (hs:Sub H H1) (hg:H1.get b=some (.cells [.bool (decide (x<0)),p,.bool (decide (y<0)),q] ty true)):SlV intE ty H1 (.own b 0 2 2 2 true) [x,y] :=
 ⟨_,Rd.own hg rfl (Vb _),fun _ _ _ _ _ _ e=>by cases e; exact ⟨_,_,hg⟩,rfl,fun i a hi=>by
  match i with
  | 0=>simp at hi; subst hi; exact ⟨p,rfl,hx.mono hs⟩
  | 1=>simp at hi; subst hi; exact ⟨q,rfl,hy.mono hs⟩
  | i+2=>simp at hi⟩
def gI (C:Code tab) (hw:Wf H) {v:AV} {ls:List Int} {ty:Nat} (hs:SlV intE ty H v ls) (hbig:ls.length<4611686018427387904) (hc:∀ z∈ls,dJ z) :
  Ans tab (.fn kP [v]) H fun v H'=>v=.int .i64 0/\Kp H H':=by
 refine cR C.q79 zU fun T hl g0=>?_;refine zW (aE hl g0 hs.lenV) ?_;refine aq H [] (fun _ _ _=>True) (a:=0) (N:=ls.length) rfl (by refine zW (aD hl g0) ?_; rfl) (zV (aD hl g0)) (Vj _) zO (by simp only [U4,hl]; rfl) rfl (fun _ _ _ _ h=>h) zK trivial ?_ ?_
 ·intro j T1 H1 _ hj hl1 hi1 hs1 hk1 _;have w1:=hk1.wf;have le_hk1:=hk1.le;have t6:ad T1 6=v:=(hs1.at_ 6 zU).trans (zV (aD hl g0));obtain ⟨w,hn,hld,-,-⟩:=je (hs.mono hk1.sub) hj;have hix:cI 2 v (.int .i64 (j:Int))=some (au v (j*2)):=SlV.idx hs .i64 j hj;have hcc:=hc _ (U9 hj);have ow:=hn.one;simp only [U4,hl] at hl1;refine zW (bA hl1 t6 hi1 hix hld) ?_;have hle:=hk1.le;refine AnsH.eq (eM C zF ⟨w,rfl,hn.mono (zG H1)⟩ hcc) fun H2 hk2=>?_;obtain ⟨k2,_,_⟩:=zT H zK hk2;refine zW hl1 ?_;exact zK
 ·intro T1 H1 hl1 hs1 hk1 _;simp only [U4,hl] at hl1;refine zW hl1 ?_;exact zK
def oS {w:AV} {n:Nat} (b:Bool) (h:bJ H w n):IntV H (.agg [.bool (b && decide (0<(ag n).length)),w]) (if b then -(n:Int) else n):=by
 refine ⟨w,?_,?_⟩
 ·have:=bI n
  congr 3;cases b
  ·simp
  ·simp only [Z5,if_true];by_cases h0:n=0
   ·simp [h0,cK]
   ·have h1:=this.2 h0;simp [h1]; omega
 ·cases b
  ·simpa using h
  ·simpa using h
def Cf (C:Code tab) (hw:Wf H) {v:AV} {z:Int} (hv:IntV H v z) (hz:dJ z):Ans tab (.fn qU [v]) H fun v H'=>∃ r,v=.tup [r,.int .i64 0]/\IntV H' r (-z)/\Kp H H':=by
 obtain ⟨w,rfl,hn⟩:=hv;have ow:=hn.one;refine cR C.q153 zU fun T hl g0=>?_;refine zW (aD hl g0) ?_;refine AnsH.eq (eM C zF ⟨w,rfl,hn.mono (zG H)⟩ hz) fun H2 hk2=>?_;obtain ⟨k2,_,_⟩:=zT H zK hk2;have b0:H2.get H.next=some (.cells [.bool (decide (z<0)),w] aa true):=hk2.get (cH)
 have b1:H2.get (H.next+1)=some (.cells [.bool false,.nilSl] aa true):=hk2.get (cH);refine zW (aD hl g0) ?_;refine aF ?_;refine zD (aQ hl g0 @b0 b1) ?_;unfold dJ Sm at hz;have w2:=k2.wf;refine AnsH.use (gJ C zF (hn.mono (zG H)) zO) ?_;rintro v3 H3 ⟨h3,hk3⟩;obtain ⟨k3,_,w3⟩:=zT H zK hk3;refine zD (aQ hl g0 @b0 b1) ?_;refine AnsH.use (eW C zF h3 _) ?_;rintro v4 H4 ⟨rfl,hk4⟩;obtain ⟨k4,_,_⟩:=zT H zK hk4;have o3:=h3.one;have c0:H3.get H.next=some (.cells [.bool (decide (z<0)),w] aa true):=hk3.get b0
 have d1:H4.get (H.next+1)=some (.cells [.bool false,.nilSl] aa true):=hk4.get (hk3.get b1);refine zD (dL hl g0 @b0 b1 c0 d1) ?_;have lt1:=k4.wf _ _ d1;refine ⟨_,rfl,?_,zK⟩;have hm:=oS (!decide (z<0)) ((h3.mono (Kp.sub (H:=H3) (Kp.trans zK hk4))).monoT (SubT.put_ty (e:=.cells [.bool (!decide (z<0) && decide (0<(ag z.natAbs).length)),v3] aa true) d1 zU));have e:(if (!decide (z<0))=true then -((z.natAbs:Nat):Int) else ((z.natAbs:Nat):Int)) = -z:=by
  by_cases h:z<0 <;> simp [h] <;> omega
 rw [e] at hm;exact hm
end
section
variable {tab:Nat->Option aA} {H:Heap}
def OK (x y:Int):(decide (x<0) == decide (y<0))=decide ((x<0)=(y<0)):=by
 by_cases hx:x<0 <;> by_cases hy:y<0 <;> simp [hx,hy]
def Ce (C:Code tab) (hw:Wf H) {a b:AV} {x y:Int} (ha:IntV H a x) (hb:IntV H b y) (hx:dJ x) (hy:dJ y):Ans tab (.fn qS [a,b]) H fun v H'=>IntV H' v (x+y)/\Kp H H':=by
 obtain ⟨p,rfl,hp⟩:=ha;obtain ⟨q,rfl,hq⟩:=hb;have op:=hp.one;have oq:=hq.one;refine bB C.q81 zU fun T hl g0 g1=>?_;refine zW (aE hl g0 g1) ?_;have fin:∀ (H3:Heap) (k3:Kp H H3) (bb:Bool) (o:AV) (n:Nat) (z:Int),H3.get (H.next+2)=some (.cells [.bool false,.nilSl] aa true)->Lb H3 o (ag n)->(if bb then -(n:Int) else n)=z ->
   IntV (H3.put (H.next+2) (.cells [.bool (bb && decide (0<(ag n).length)),o] aa true)) (.agg [.bool (bb && decide (0<(ag n).length)),o]) z/\Kp H (H3.put (H.next+2) (.cells [.bool (bb && decide (0<(ag n).length)),o] aa true)):=by
  intro H3 k3 bb o n z d1 ho hz;have lt1:=k3.wf _ _ d1;refine ⟨?_,zK⟩;rw [<- hz];exact oS bb (ho.monoT (SubT.put_ty d1 zU))
 refine iteH.split (fun h=>?_) fun h=>?_
 ·rw [OK] at h;simp only [decide_eq_true_eq,eq_iff_iff] at h;refine zW (aE hl g0 g1) ?_;refine AnsH.use (Ju C zF (hp.mono (zG H)) (hq.mono (zG H)) hx hy) ?_;rintro v H2 ⟨o,rfl,ho,hk2⟩;obtain ⟨k2,_,w2⟩:=zT H zK hk2;have b0:H2.get H.next=some (.cells [.bool (decide (x<0)),p] aa true):=hk2.get (cH)
  have b2:H2.get (H.next+2)=some (.cells [.bool false,.nilSl] aa true):=hk2.get (cH);refine zW (aQ hl g0 g1 @b0) ?_;refine AnsH.use (eW C zF (ho.mono (zG H2)) _) ?_;rintro v3 H3 ⟨rfl,hk3⟩;obtain ⟨k3,_,_⟩:=zT H zK hk3;have o3:=ho.one;have d1:=hk3.get (b:=H.next+2) b2;refine zW (aQ hl g0 g1 d1) ?_;refine fin H3 k3 _ _ _ _ d1 (ho.mono (Kp.sub (H:=H2) (Kp.trans zK hk3))) ?_;by_cases h1:x<0 <;> simp [h1] <;> omega
 ·rw [OK] at h;simp only [decide_eq_true_eq,eq_iff_iff] at h;refine zW (aE hl g0 g1) ?_;refine AnsH.use (DZ C zF (hp.mono (zG H)) (hq.mono (zG H)) hx hy) ?_;rintro v H2 ⟨hk2,hr⟩;obtain ⟨k2,_,w2⟩:=zT H zK hk2;have b0:H2.get H.next=some (.cells [.bool (decide (x<0)),p] aa true):=hk2.get (cH)
  have b1:H2.get (H.next+1)=some (.cells [.bool (decide (y<0)),q] aa true):=hk2.get (cH);have b2:H2.get (H.next+2)=some (.cells [.bool false,.nilSl] aa true):=hk2.get (cH);by_cases hle:y.natAbs<=x.natAbs
  ·rw [if_pos hle] at hr;obtain ⟨o,rfl,ho⟩:=hr;refine zW (aQ hl g0 g1 @b0) ?_;refine AnsH.use (eW C zF (ho.mono (zG H2)) _) ?_;rintro v3 H3 ⟨rfl,hk3⟩;obtain ⟨k3,_,_⟩:=zT H zK hk3;have o3:=ho.one;have d1:=hk3.get (b:=H.next+2) b2;refine zW (aQ hl g0 g1 d1) ?_;refine fin H3 k3 _ _ _ _ d1 (ho.mono (Kp.sub (H:=H2) (Kp.trans zK hk3))) ?_;by_cases h1:x<0 <;> simp [h1] <;> omega
  ·rw [if_neg hle] at hr;subst hr;refine zW (bA hl g0 g1 @b0 b1) ?_;refine AnsH.use (DZ C zF (hq.mono (zG H)) (hp.mono (zG H)) hy hx) ?_;rintro v H3 ⟨hk3,hr⟩;rw [if_pos zO] at hr;obtain ⟨o,rfl,ho⟩:=hr;obtain ⟨k3,_,w3⟩:=zT H zK hk3;have c1:=hk3.get (b:=H.next+1) b1;have c2:=hk3.get (b:=H.next+2) b2;refine zW (aQ hl g0 g1 @c1) ?_;refine AnsH.use (eW C zF (ho.mono (zG H3)) _) ?_;rintro v4 H4 ⟨rfl,hk4⟩;obtain ⟨k4,_,_⟩:=zT H zK hk4;have o3:=ho.one;have d1:=hk4.get (b:=H.next+2) c2;refine zW (aQ hl g0 g1 d1) ?_;refine fin H4 k4 _ _ _ _ d1 (ho.mono (Kp.sub (H:=H3) (Kp.trans zK hk4))) ?_;by_cases h1:y<0 <;> simp [h1] <;> omega
def ik (x:Int):Int:=if x<0 then -1 else if x=0 then 0 else 1
def zt (C:Code tab) (hw:Wf H) {a:AV} {x:Int} (ha:IntV H a x):Ans tab (.fn py [a]) H fun v H'=>v=.int .i64 (ik x)/\Kp H H':=by
 obtain ⟨p,rfl,hp⟩:=ha;have op:=hp.one;refine cR C.q78 zU fun T hl g0=>?_;have hlen:decide (((ag x.natAbs).length:Int)=0)=decide (x=0):=by
  have:=bI x.natAbs
  by_cases h:x=0
  ·subst h; simp [cK]
  ·have h1:=this.2 zO; simp [h]; intro h2; rw [h2] at h1; simp at h1
 refine zW (aQ hl g0 hp.lenV hlen) ?_;refine iteH.split (fun h=>?_) fun h=>?_
 ·have hx:x=0:=by
   by_cases h1:x=0
   ·exact h1
   ·simp [h1] at h
  subst hx;refine zW (aD hl g0) ?_;exact ⟨rfl,zK⟩
 ·have hx:x≠0:=fun h1=>by subst h1; simp at h
  refine zW (aD hl g0) ?_;refine iteH.split (fun h=>?_) fun h=>?_
  ·refine zW (aD hl g0) ?_;exact ⟨by simp [ik,h],zK⟩
  ·refine zW (aD hl g0) ?_;exact ⟨by simp [ik,h,hx],zK⟩
def pg (C:Code tab) (hw:Wf H) {a:AV} {x:Int} (ha:IntV H a x) (hx:dJ x):Ans tab (.fn pC [a]) H fun v H'=>v=.tup [.int .i64 (ik x),.int .i64 0]/\Kp H H':=by
 obtain ⟨p,rfl,hp⟩:=ha;have op:=hp.one;refine cR C.q87 zU fun T hl g0=>?_;refine zW (aD hl g0) ?_;refine AnsH.eq (eM C zF ⟨p,rfl,hp.mono (zG H)⟩ hx) fun H2 hk2=>?_;obtain ⟨k2,_,w2⟩:=zT H zK hk2;have b0:=hk2.get (b:=H.next) (e:=.cells [.bool (decide (x<0)),p] aa true) (cH);refine zW (aE hl g0 @b0) ?_;refine AnsH.eq (zt C zF ⟨p,rfl,hp.mono (zG H)⟩) fun H3 hk3=>?_;obtain ⟨k3,_,_⟩:=zT H zK hk3;refine zW (aD hl g0) ?_;exact zK
def Ci (C:Code tab) (hw:Wf H) {a b:AV} {x y:Int} (ha:IntV H a x) (hb:IntV H b y) (hx:dJ x) (hy:dJ y):Ans tab (.fn qX [a,b]) H fun v H'=>∃ r,v=.tup [r,.int .i64 0]/\IntV H' r (x+y)/\Kp H H':=by
 obtain ⟨p,rfl,hp⟩:=ha;obtain ⟨q,rfl,hq⟩:=hb;have op:=hp.one;have oq:=hq.one;refine bB C.q54 zU fun T hl g0 g1=>?_;refine zW (aE hl g0 g1) ?_;refine AnsH.eq (gI C zF (JF (x:=x) (y:=y) (H:=H) hp hq (zG H) (by refine uH ?_; rfl)) (by simp) fun z hz=>?_) fun H2 hk2=>?_
 ·simp at hz; rcases hz with rfl | rfl <;> assumption
 obtain ⟨k2,_,w2⟩:=zT H zK hk2;have b0:=hk2.get (b:=H.next) (e:=.cells [.bool (decide (x<0)),p] aa true) (cH);have b1:=hk2.get (b:=H.next+1) (e:=.cells [.bool (decide (y<0)),q] aa true) (cH);have b2:=hk2.get (b:=H.next+2) (e:=.cells [.bool false,.nilSl] aa true) (cH);refine zW (bA hl g0 g1 @b0 b1) ?_;refine AnsH.use (Ce C zF ⟨p,rfl,hp.mono (zG H)⟩ ⟨q,rfl,hq.mono (zG H)⟩ hx hy) ?_;rintro v H3 ⟨⟨r,rfl,hr⟩,hk3⟩;obtain ⟨k3,_,_⟩:=zT H zK hk3;have o3:=hr.one;have d2:=hk3.get (b:=H.next+2) b2;have lt2:=k3.wf _ _ d2;refine zW (aQ hl g0 g1 d2) ?_;exact ⟨_,rfl,⟨r,rfl,hr.monoT (SubT.put_ty d2 zU)⟩,zK⟩
def Kz (C:Code tab) (hw:Wf H) {a b:AV} {x y:Int} (ha:IntV H a x) (hb:IntV H b y) (hx:dJ x) (hy:dJ y):Ans tab (.fn qT [a,b]) H fun v H'=>∃ r,v=.tup [r,.int .i64 0]/\IntV H' r (x-y)/\Kp H H':=by
 obtain ⟨p,rfl,hp⟩:=ha;obtain ⟨q,rfl,hq⟩:=hb;have op:=hp.one;have oq:=hq.one;refine bB C.q77 zU fun T hl g0 g1=>?_;refine zW (aE hl g0 g1) ?_;refine AnsH.eq (gI C zF (JF (x:=x) (y:=y) (H:=H) hp hq (zG H) (by refine uH ?_; rfl)) (by simp) fun z hz=>?_) fun H2 hk2=>?_
 ·simp at hz; rcases hz with rfl | rfl <;> assumption
 obtain ⟨k2,_,w2⟩:=zT H zK hk2;have b0:=hk2.get (b:=H.next) (e:=.cells [.bool (decide (x<0)),p] aa true) (cH);have b1:=hk2.get (b:=H.next+1) (e:=.cells [.bool (decide (y<0)),q] aa true) (cH);have b2:=hk2.get (b:=H.next+2) (e:=.cells [.bool false,.nilSl] aa true) (cH);refine zW (aE hl g0 g1) ?_;refine aF ?_;refine zD (bA hl g0 g1 @b0 b1) ?_;refine AnsH.use (eW C zF (hq.mono (zG H)) _) ?_;rintro v3 H3 ⟨rfl,hk3⟩;obtain ⟨k3,_,w3⟩:=zT H zK hk3;have hm:=oS (!decide (y<0)) (hq.mono k3.sub);have e:(if (!decide (y<0))=true then -((y.natAbs:Nat):Int) else ((y.natAbs:Nat):Int)) = -y:=by
  by_cases h:y<0 <;> simp [h] <;> omega
 rw [e] at hm;have hny:dJ (-y):=by unfold dJ at *; rwa [Yj]
 refine zD (bA hl g0 g1 @b0 b1) ?_;refine AnsH.use (Ce C zF ⟨p,rfl,hp.mono (zG H)⟩ hm hx hny) ?_;rintro v H4 ⟨⟨r,rfl,hr⟩,hk4⟩;obtain ⟨k4,_,_⟩:=zT H zK hk4;have o3:=hr.one;have c0:=hk3.get (b:=H.next) b0;have d2:=hk4.get (b:=H.next+2) (hk3.get (b:=H.next+2) b2);have lt2:=k4.wf _ _ d2;refine zD (fy hl g0 g1 @b0 b1 c0 d2) ?_;refine ⟨_,rfl,⟨r,?_,hr.monoT (SubT.put_ty d2 zU)⟩,zK⟩;rw [Int.sub_eq_add_neg]
def N9 (x y:Nat) (hx:x<B) (hy:y<B) :
  ((x / 4294967296*(y / 4294967296) % B+((x / 4294967296*(y % 4294967296) % B+(x % 4294967296*(y % 4294967296) % B) / 4294967296) % B) / 4294967296) % B+((((x / 4294967296*(y % 4294967296) % B+(x % 4294967296*(y % 4294967296) % B) / 4294967296) % B) % 4294967296+x % 4294967296*(y / 4294967296) % B) % B) / 4294967296) % B=x*y / B:=by
 have e:x*y=(x / 4294967296*4294967296+x % 4294967296)*(y / 4294967296*4294967296+y % 4294967296):=by
  rw [Yp,Yp]
 have h1:x / 4294967296<4294967296:=by unfold B at hx; omega
 have h2:y / 4294967296<4294967296:=by unfold B at hy; omega
 have h3:x % 4294967296<4294967296:=zO;have h4:y % 4294967296<4294967296:=zO
 generalize x / 4294967296=x1 at *
 generalize y / 4294967296=y1 at *
 generalize x % 4294967296=x0 at *
 generalize y % 4294967296=y0 at *
 have b1:x1*y1<=4294967295*4294967295:=Wq zO zO;have b2:x1*y0<=4294967295*4294967295:=Wq zO zO;have b3:x0*y1<=4294967295*4294967295:=Wq zO zO;have b4:x0*y0<=4294967295*4294967295:=Wq zO zO;have e2:x*y=x1*y1*18446744073709551616+(x1*y0)*4294967296+(x0*y1)*4294967296+x0*y0:=by rw [e]; grind
 rw [e2];clear e e2 hx hy h1 h2 h3 h4
 generalize x1*y1=p at *
 generalize x1*y0=q at *
 generalize x0*y1=r at *
 generalize x0*y0=t at *
 simp only [B];omega
def pZ (C:Code tab) (hw:Wf H) {x y:Nat} (hx:x<B) (hy:y<B):Ans tab (.fn iW [.int .u64 (x:Nat),.int .u64 (y:Nat)]) H fun v H'=>v=.tup [.int .u64 ((x*y / B:Nat):Int),.int .u64 ((x*y % B:Nat):Int)]/\Kp H H':=by
 refine bB C.q147 zU fun T hl g0 g1=>?_;have e:=N9 x y hx hy;simp only [B] at e;refine zW (aQ hl g0 g1 e) ?_;exact zK
end
end Go.Proofs.YteaefaohjlmjdaaGreat.Ev
