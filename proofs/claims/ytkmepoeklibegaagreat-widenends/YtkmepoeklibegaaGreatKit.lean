/- A part. -/
import Derived.Test.YtkmepoeklibegaaGreatA0
import Derived.Test.YtkmepoeklibegaaGreatEvDraw5
import Derived.Test.YtkmepoeklibegaaGreatProg
set_option linter.all false
namespace Go.Proofs.YtkmepoeklibegaaGreat.Ev
open Go
def Heap.up (H:Heap) (k:Nat):Heap:={ H with next:=H.next+k }
def S7 (H:Heap) (a b:Nat):(H.up a).up b=H.up (a+b):=by simp [Heap.up,Wx]
theorem Sa (H:Heap) (b k:Nat) (e:Ent):(H.put b e).up k=(H.up k).put b e:=rfl
theorem Qr (H:Heap) (b k:Nat):(H.kill b).up k=(H.up k).kill b:=rfl
theorem cO (H:Heap) (k:Nat):(H.up k).next=H.next+k:=rfl
theorem next_put (H:Heap) (b:Nat) (e:Ent):(H.put b e).next=H.next:=rfl
theorem next_kill (H:Heap) (b:Nat):(H.kill b).next=H.next:=rfl
theorem Ss (H:Heap) (k b:Nat):(H.up k).get b=H.get b:=rfl
def ap (H:Heap) (b:Nat) (e:Ent):(H.put b e).get b=some e:=by rw [FD,if_pos rfl]
def al {H:Heap} {b c:Nat} {e:Ent} (h:c≠b):(H.put b e).get c=H.get c:=by rw [FD,if_neg h]
def cC {H:Heap} {b c:Nat} (h:c≠b):(H.kill b).get c=H.get c:=by rw [Lj,if_neg h]
structure Kp (H H':Heap):Prop where
 wf0:Wf H
 wf:Wf H'
 le:H.next<=H'.next
 same:∀ b,b<H.next->H'.get b=H.get b
def Kp.sub {H H':Heap} (h:Kp H H'):Sub H H':=⟨h.le,fun b e hb=>(h.same b (h.wf0 b e hb)).trans hb⟩
def Kp.refl {H:Heap} (h:Wf H):Kp H H:=⟨h,h,Vo _,fun _ _=>rfl⟩
def Kp.up {H H':Heap} (h:Kp H H') (k:Nat):Kp H (H'.up k):=⟨h.wf0,h.wf.bump k,VB h.le (VV _ _),h.same⟩
def Kp.trans {H H' H'':Heap} (h:Kp H H') (h':Kp H' H''):Kp H H'':=⟨h.wf0,h'.wf,VB h.le h'.le,fun b hb=>(h'.same b (VF hb h.le)).trans (h.same b hb)⟩
def Kp.get {H H':Heap} (h:Kp H H') {b:Nat} {e:Ent} (hb:H.get b=some e):H'.get b=some e:=h.sub.get b e hb
def Kp.put {H H':Heap} (h:Kp H H') {b:Nat} {e:Ent} (h1:H.next<=b) (h2:b<H'.next):Kp H (H'.put b e):=⟨h.wf0,h.wf.put h2 e,h.le,fun c hc=>by rw [al zO]; exact h.same c hc⟩
def Kp.kill {H H':Heap} (h:Kp H H') {b:Nat} (h1:H.next<=b):Kp H (H'.kill b):=⟨h.wf0,h.wf.kill b,h.le,fun c hc=>by rw [cC zO]; exact h.same c hc⟩
def Kp.old {H H':Heap} (h:Kp H H') {b:Nat} {e:Ent} (hb:H.get b=some e):b<H.next:=h.wf0 b e hb
def Kp.free {H H':Heap} (h:Kp H H') {b:Nat} (h1:b<H.next) (h2:H.get b=none):H'.get b=none:=(h.same b h1).trans h2
def Jv (os:List Eo):List Nat:=os.filterMap (·.dst)
def fQ:ACode->List Nat
 | .region os=>Jv os
 | .draw ds _=>ds.filterMap (·.dst)
 | .drawF ds _ l _=>(ds++[l]).filterMap (·.dst)
 | .seq a b=>fQ a++fQ b
 | .cond _ a b=>fQ a++fQ b
 | .block _ a=>fQ a
 | .loop a=>fQ a
 | .scope a=>fQ a
 | _=>[]
def wB (res:List (Nat × Option (Option Nat))) (Q:AV->Heap->Prop) (x:Ex) (T:Tm) (H:Heap):Prop:=(x=.nrm\/x=.ret)/\∃ v,cr T H res=some v/\Q v H
def Nz {res:List (Nat × Option (Option Nat))} {Q:AV->Heap->Prop} {T:Tm} {H:Heap}:wB res Q .nrm T H=gu (cr T H res) (fun v=>Q v H) ():=by
 unfold wB gu gY;cases cr T H res <;> simp
def Ny {res:List (Nat × Option (Option Nat))} {Q:AV->Heap->Prop} {T:Tm} {H:Heap}:wB res Q .ret T H=gu (cr T H res) (fun v=>Q v H) ():=by
 unfold wB gu gY;cases cr T H res <;> simp
def uE (H:Heap) (v:AV):Option (Option Nat)->Option AV
 | none=>some v
 | some k=>match v with
  | .ptr b o=>aW H k (.ptr b o)
  | _=>none
theorem KL (H:Heap) (v:AV):uE H v none=some v:=rfl
theorem NA (H:Heap) (b o:Nat) (k:Option Nat):uE H (.ptr b o) (some k)=aW H k (.ptr b o):=rfl
def j9 (T:Tm) (H:Heap) (r:Nat × Option (Option Nat)):oH T H r=uE H (aa T r.1) r.2:=by
 obtain ⟨n,k⟩:=r;cases k with
 | none=>rfl
 | some k=>simp only [oH,uE]; cases aa T n <;> rfl
def RS (a b:Option AV):Option AV:=a.bind fun a=>b.bind fun b=>some (.tup [a,b])
def RR (a b c:Option AV):Option AV:=a.bind fun a=>b.bind fun b=>c.bind fun c=>some (.tup [a,b,c])
theorem Kn (a b:AV):RS (some a) (some b)=some (.tup [a,b]):=rfl
theorem Km (a b c:AV):RR (some a) (some b) (some c)=some (.tup [a,b,c]):=rfl
theorem R5 (T:Tm) (H:Heap):cr T H []=some (.tup []):=rfl
def R4 (T:Tm) (H:Heap) (r:Nat) (k:Option (Option Nat)):cr T H [(r,k)]=uE H (aa T r) k:=by
 show (List.mapM (oH T H) [(r,k)]).bind _=_;rw [<- j9 T H (r,k)];simp only [WY,ZR];cases oH T H (r,k) <;> rfl
def R3 (T:Tm) (H:Heap) (r s:Nat) (k l:Option (Option Nat)):cr T H [(r,k),(s,l)]=RS (uE H (aa T r) k) (uE H (aa T s) l):=by
 show (List.mapM (oH T H) [(r,k),(s,l)]).bind _=_;rw [<- j9 T H (r,k),<- j9 T H (s,l)];simp only [WY,ZR,RS];cases oH T H (r,k) <;> cases oH T H (s,l) <;> rfl
def Nv (T:Tm) (H:Heap) (r s t:Nat) (k l m:Option (Option Nat)):cr T H [(r,k),(s,l),(t,m)]=RR (uE H (aa T r) k) (uE H (aa T s) l) (uE H (aa T t) m):=by
 show (List.mapM (oH T H) [(r,k),(s,l),(t,m)]).bind _=_;rw [<- j9 T H (r,k),<- j9 T H (s,l),<- j9 T H (t,m)];simp only [WY,ZR,RR];cases oH T H (r,k) <;> cases oH T H (s,l) <;> cases oH T H (t,m) <;> rfl
section
variable {tab:Nat->Option au} {f n:Nat} {res:List (Nat × Option (Option Nat))} {body:ACode} {H:Heap} {Q:AV->Heap->Prop}
def Ua (a:tab f=some ⟨0,n,res,body,none⟩) (h:∀ T:Tm,T.length=n->WC tab false body T H (wB res Q)):Ans tab (.fn f []) H Q :=
 pa a rfl rfl (Vz _) fun T hl g=>h T hl
def dg {a:AV} (b:tab f=some ⟨1,n,res,body,none⟩) (hn:1<=n) (h:∀ T:Tm,T.length=n->aa T 0=a->WC tab false body T H (wB res Q)):Ans tab (.fn f [a]) H Q :=
 pa b rfl rfl hn fun T hl g=>h T hl (g 0 (by simp))
def bC {a b:AV} (c:tab f=some ⟨2,n,res,body,none⟩) (hn:2<=n) (h:∀ T:Tm,T.length=n->aa T 0=a->aa T 1=b->WC tab false body T H (wB res Q)):Ans tab (.fn f [a,b]) H Q :=
 pa c rfl rfl hn fun T hl g=>h T hl (g 0 (by simp)) (g 1 (by simp))
def mN {a b c:AV} (d:tab f=some ⟨3,n,res,body,none⟩) (hn:3<=n) (h:∀ T:Tm,T.length=n->aa T 0=a->aa T 1=b->aa T 2=c->WC tab false body T H (wB res Q)):Ans tab (.fn f [a,b,c]) H Q :=
 pa d rfl rfl hn fun T hl g=>h T hl (g 0 (by simp)) (g 1 (by simp)) (g 2 (by simp))
def Qw {a b c d:AV} (e:tab f=some ⟨4,n,res,body,none⟩) (hn:4<=n) (h:∀ T:Tm,T.length=n->aa T 0=a->aa T 1=b->aa T 2=c->aa T 3=d->WC tab false body T H (wB res Q)):Ans tab (.fn f [a,b,c,d]) H Q :=
 pa e rfl rfl hn fun T hl g=>h T hl (g 0 (by simp)) (g 1 (by simp)) (g 2 (by simp)) (g 3 (by simp))
def SA {a b:AV} (c:tab f=some ⟨2,n,res,body,none⟩) (hn:2<=n) (h:∀ T:Tm,T.length=n->aa T 0=a->aa T 1=b->WC tab false body T H (wB res Q)):Ans tab (.ent f [a,b]) H Q :=
 Bp c rfl rfl hn fun T hl g=>h T hl (g 0 (by simp)) (g 1 (by simp))
def Uf {a b c:AV} (d:tab f=some ⟨3,n,res,body,none⟩) (hn:3<=n) (h:∀ T:Tm,T.length=n->aa T 0=a->aa T 1=b->aa T 2=c->WC tab false body T H (wB res Q)):Ans tab (.ent f [a,b,c]) H Q :=
 Bp d rfl rfl hn fun T hl g=>h T hl (g 0 (by simp)) (g 1 (by simp)) (g 2 (by simp))
end
theorem Ue (a:AV) (l:List AV):FK 0 (.tup (a :: l))=some a:=rfl
theorem Ud (a b:AV) (l:List AV):FK 1 (.tup (a :: b :: l))=some b:=rfl
theorem Uc (a b c:AV) (l:List AV):FK 2 (.tup (a :: b :: c :: l))=some c:=rfl
theorem Sx (off b o:Nat):AD off (.ptr b o)=some (.ptr b (o+off)):=rfl
theorem Lw (k:Option Nat) (off:Nat) (cs:List AV):DX k off (.agg cs)=bz cs off k:=rfl
theorem Qd (b o:Nat):Ac (.ptr b o)=some (.ptr b o):=rfl
theorem Sf (f:Nat) (a c:List AV):Ac (.fn (.func f) a c)=some (.fn (.func f) a c):=rfl
def Ig (neg:Bool) (n:Nat):AV->AV->Option AV
 | .agg a,.agg b=>(match n with | 0=>FO a b | n+1=>rj (n+1) a b).map fun r=>.bool (if neg then !r else r)
 | _,_=>none
def Mv {tab:Nat->Option au} (ev:Src->AV) (H:Heap) (id:Nat) (Q:AV->Heap->Prop) (neg:Bool) (n:Nat) (x y:Src):lJ tab ev H id (.eqAgg neg n x y) Q=gu (Ig neg n (ev x) (ev y)) (fun v=>Q v H) ():=by
 rw [bT,dU tab ev H id Q (o:=.eqAgg neg n x y) (v:=Ig neg n (ev x) (ev y)) (fun f a e=>by cases e) (by simp only [aN]; cases ev x <;> cases ev y <;> rfl) rfl]; rfl
def Tx (len size:Nat) (k:Option Nat) (v i:AV):Option AV:=aN (fun s=>match s with | .t 0=>v | _=>i) (.indexAgg len size k (.t 0) (.t 1))
def Er {tab:Nat->Option au} (ev:Src->AV) (H:Heap) (id:Nat) (Q:AV->Heap->Prop) (len size:Nat) (k:Option Nat) (x i:Src):lJ tab ev H id (.indexAgg len size k x i) Q=gu (Tx len size k (ev x) (ev i)) (fun v=>Q v H) ():=by
 rw [bT,dU tab ev H id Q (o:=.indexAgg len size k x i) (v:=Tx len size k (ev x) (ev i)) (fun f a e=>by cases e) (by simp only [aN,Tx]) rfl]; rfl
theorem T8 (k:IntKind) (a b:AV):Tx 2 1 none (.agg [a,b]) (.int k 0)=some a:=rfl
theorem TZ (k:IntKind) (a b:AV):Tx 2 1 none (.agg [a,b]) (.int k 1)=some b:=rfl
theorem Sz (a b c d:Bool):Ig false 0 (.agg [.bool a,.bool b]) (.agg [.bool c,.bool d])=some (.bool (a == c && b == d)):=rfl
theorem RO (k:IntKind) (n:Int):RP .neg (.int k n)=some (.int k (k.wrap (0-n))):=rfl
section
variable (a b:Nat)
def LZ (x y:Int):ca .add .int (.int .i64 x) (.int .i64 y)=some (.int .i64 (IntKind.i64.wrap (x+y))):=Ef _ _ _
def LT (x y:Int):ca .sub .int (.int .i64 x) (.int .i64 y)=some (.int .i64 (IntKind.i64.wrap (x-y))):=JI _ _ _
def LW (x y:Int):ca .mul .int (.int .i64 x) (.int .i64 y)=some (.int .i64 (IntKind.i64.wrap (x*y))):=JJ _ _ _
def LY:ca .add .int (.int .u64 (a:Int)) (.int .u64 (b:Int))=some (.int .u64 (((a+b) % 18446744073709551616:Nat):Int)):=by
 rw [Ef,kj]; congr 2
def xw:ca .mul .int (.int .u64 (a:Int)) (.int .u64 (b:Int))=some (.int .u64 (((a*b) % 18446744073709551616:Nat):Int)):=by
 rw [JJ,kj]; congr 2
def xv (h:b<=18446744073709551616):ca .sub .int (.int .u64 (a:Int)) (.int .u64 (b:Int))=some (.int .u64 (((a+18446744073709551616-b) % 18446744073709551616:Nat):Int)):=by
 rw [JI,kj]; congr 2; omega
def Ir:ca .and .int (.int .u64 (a:Int)) (.int .u64 4294967295)=some (.int .u64 ((a % 4294967296:Nat):Int)):=by
 have e:(BitVec.ofInt 64 (a:Int) &&& BitVec.ofInt 64 4294967295).toNat=a % 4294967296:=by
  rw [BitVec.toNat_and];have h1:(BitVec.ofInt 64 (a:Int)).toNat=a % 2^64:=by simp
  have h2:(BitVec.ofInt 64 4294967295).toNat=2^32-1:=by decide
  rw [h1,h2,Nat.and_two_pow_sub_one_eq_mod];omega
 show some (AV.int .u64 (IntKind.u64.wrap ((BitVec.ofInt 64 (a:Int) &&& BitVec.ofInt 64 4294967295).toNat:Nat)))=_;rw [e,gy zO zO]
def UR {k:IntKind} (hb:b<64):ca .shr .int (.int .u64 (a:Int)) (.int k (b:Int))=some (.int .u64 ((a / 2^b:Nat):Int)):=by
 show kK .shr .u64 (a:Int) (b:Int)=_;unfold kK;rw [if_neg zO];have h1:Nat.min (b:Int).toNat IntKind.u64.bits=b:=by
  have:IntKind.u64.bits=64:=rfl
  rw [this,Xq]; exact WG zO
 simp only [h1];congr 2;rw [Zx _ (Xl (Int.pow_pos zO))]
 simp
def LU:ca .shr .int (.int .u64 (a:Int)) (.int .u64 32)=some (.int .u64 ((a / 4294967296:Nat):Int)):=UR a 32 zO
end
theorem Hj (T:Tm) (t:Nat) (v:AV) (r:List (Nat × AV)):oI T ((t,v) :: r)=oI (T.set t v) r:=rfl
theorem KP (T:Tm):oI T []=T:=rfl
def mI (v:AV) (w:Bool) (P Q:Prop) (_:GA P) (_:GA Q):Prop:=match v with
 | .bool b=>if b=w then P else Q
 | .tup []=>Q
 | _=>False
theorem FC (b w:Bool) (P Q:Prop):mI (.bool b) w P Q () ()=iteH (b=w) P Q () ():=rfl
theorem HW (w:Bool) (P Q:Prop):mI (.tup []) w P Q () ()=Q:=rfl
section
variable {tab:Nat->Option au} {rd:Bool} {T:Tm} {H:Heap}
def JW {Q:Tm->Heap->Prop} {id:Nat} (d:Option Nat) (o:AOp) (t:Nat) (w:Bool) (os:List Eo):El tab id (⟨d,o,some (t,w)⟩ :: os) T H Q =
  mI (aa T t) w (lJ tab (Src.ev T) H id o fun v H'=>El tab (id+1) os (putT T d v) H' Q) (El tab (id+1) os (putT T d (.tup [])) H Q) () ():=by
 rw [yX,bT];have a:cg T (some (t,w))=match aa T t with | .bool b=>some (b == w) | .tup []=>some false | _=>none:=by
  unfold aa;rw [Vh];cases h:T[t]? with
  | none=>simp only [cg,h]; rfl
  | some v =>
   simp only [cg,h,WX];cases v with
   | tup vs=>cases vs <;> rfl
   | _=>rfl
 conv=>lhs; unfold xF
 simp only [a,mI];cases aa T t with
 | bool b=>cases b <;> cases w <;> rfl
 | tup vs=>cases vs <;> rfl
 | _=>rfl
def GC {Q:Ex->Tm->Heap->Prop} (ops:List Eo):WC tab rd (.region ops) T H Q=R8 H.next (H.up ops.length) (fun id H'=>El tab id ops T H' (Q .nrm)) ():=JZ ops
theorem Im (P Q:Prop):JC (.bool true) P Q () ()=P:=rfl
theorem F2 (P Q:Prop):JC (.bool false) P Q () ()=Q:=rfl
end
def Og (id id1 i n c k:Nat) (body:ACode):ACode :=
 .block id (.loop (.seq (.region [⟨some c,.bin .lss .int (.t i) (.t n),none⟩]) (.seq (.cond (.t c) .skip (.exit id)) (.seq (.block id1 body)
  (.region [⟨some k,.bin .add .int (.t i) (.c (.int .i64 1)),none⟩,⟨some i,.mv (.t k),none⟩])))))
def ON (id:Nat) (c:ACode):ACode:=.block id (.loop c)
def iG:ACode->Bool
 | .rangeM ..=>false
 | .scopeL ..=>false
 | .seq a b=>iG a && iG b
 | .cond _ a b=>iG a && iG b
 | .block _ a=>iG a
 | .loop a=>iG a
 | .scope a=>iG a
 | _=>true
structure Same (D:List Nat) (T T':Tm):Prop where
 len:T'.length=T.length
 at_:∀ s,s ∉ D->aa T' s=aa T s
def Same.refl (D:List Nat) (T:Tm):Same D T T:=⟨rfl,fun _ _=>rfl⟩
def Same.trans {D a:List Nat} {T T' b:Tm} (h:Same D T T') (h':Same a T' b):Same (D++a) T b :=
 ⟨h'.len.trans h.len,fun s hs=>(h'.at_ s fun h1=>hs (W3 _ h1)).trans (h.at_ s fun h1=>hs (WH _ h1))⟩
def Same.wide {D a:List Nat} {T T':Tm} (h:Same D T T') (hd:∀ s,s∈D->s∈a):Same a T T':=⟨h.len,fun s hs=>h.at_ s fun h1=>hs (hd s h1)⟩
def lV (T:Tm) (i j:Nat) (v:AV) (h:i≠j):aa (T.set i v) j=aa T j:=by
 unfold aa;rw [Vh,Vh,XF];rw [if_neg h]
def Lk (T:Tm) (i j:Nat) (v:AV):aa (T.set i v) j=if i=j then (if i<T.length then v else .undef) else aa T j:=by
 by_cases h:i<T.length
 ·rw [uY T i j v h]; simp [h]
 ·unfold aa;rw [List.set_eq_of_length_le zO];by_cases a:i=j
  ·subst a; rw [Vh,VS zO]; simp [h]
  ·simp [a]
theorem OH:((0:Nat):Int)=0:=rfl
def Same.put (T:Tm) (d:Option Nat) (v:AV):Same d.toList T (putT T d v):=by
 cases d with
 | none=>exact Same.refl _ _
 | some d=>exact ⟨by simp [putT],fun s hs=>lV T d s v fun e=>hs (by simp [e])⟩
def Ca {cal:oy}:∀ (os:List Eo) (id:Nat) (T:Tm) (H:Heap) (T':Tm) (H':Heap),yF cal id os T H=some (T',H')->Same (Jv os) T T'
 | [],id,T,H,T',H',h=>by cases h; exact Same.refl _ _
 | o :: os,id,T,H,T',H',h=>by
  have key:∀ v a,yF cal (id+1) os (putT T o.dst v) a=some (T',H')->Same (Jv (o :: os)) T T':=fun v a h1=>by
   refine ((Same.put T o.dst v).trans (Ca os _ _ _ _ _ h1)).wide fun s hs=>?_;unfold Jv at hs ⊢;cases hd:o.dst with
   | none=>rw [ZS hd]; simpa [hd] using hs
   | some d=>rw [ZT hd]; simpa [hd] using hs
  unfold yF at h;split at h
  ·split at h
   ·exact key _ _ h
   ·cases h
  ·exact key _ _ h
  ·cases h
def xN:∀ (ds:List jv) (vs:List AV) (T:Tm),Same (ds.filterMap (·.dst)) T (gD T ds vs)
 | [],vs,T=>by cases vs <;> exact Same.refl _ _
 | d :: ds,[],T=>⟨rfl,fun _ _=>rfl⟩
 | d :: ds,v :: vs,T=>by
  refine ((Same.put T d.dst v).trans (xN ds vs _)).wide fun s hs=>?_;cases hd:d.dst with
  | none=>rw [ZS hd]; simpa [hd] using hs
  | some a=>rw [ZT hd]; simpa [hd] using hs
def Cj {D:List Nat} {body:Tm->Heap->Option (Ex × Tm × Heap)} (hb:∀ T H x T' H',body T H=some (x,T',H')->Same D T T') :
  ∀ (n:Nat) (T:Tm) (H:Heap) (x:Ex) (T':Tm) (H':Heap),Av body n T H=some (x,T',H')->Same D T T'
 | 0,_,_,_,_,_,h=>by cases h
 | n+1,T,H,x,T',H',h=>by
  unfold Av at h;split at h
  ·rename_i T1 a h1;exact ((hb _ _ _ _ _ h1).trans (Cj hb n _ _ _ _ _ h)).wide fun s hs=>by simpa using hs
  ·exact hb _ _ _ _ _ h
def dN {cal:oy} {m:Nat} {rd:Bool}:∀ (c:ACode) (T:Tm) (H:Heap) (x:Ex) (T':Tm) (H':Heap),iG c=true->aI cal m rd c T H=some (x,T',H')->Same (fQ c) T T'
 | .skip,T,H,x,T',H',_,h=>by cases h; exact Same.refl _ _
 | .exit _,T,H,x,T',H',_,h=>by cases h; exact Same.refl _ _
 | .goto _,T,H,x,T',H',_,h=>by cases h; exact Same.refl _ _
 | .ret,T,H,x,T',H',_,h=>by cases h; exact Same.refl _ _
 | .region os,T,H,x,T',H',_,h=>by
  simp only [aI] at h;split at h
  ·rename_i h1; cases h; exact Ca _ _ _ _ _ _ h1
  ·cases h
 | .draw ds late,T,H,x,T',H',_,h=>by
  simp only [aI] at h;split at h
  ·rename_i h1;cases h;unfold FQ at h1;split at h1
   ·cases h1
   ·split at h1
    ·cases h1; exact xN _ _ _
    ·cases h1
  ·cases h
 | .drawF ..,T,H,x,T',H',_,h=>by cases h
 | .seq a b,T,H,x,T',H',hp,h=>by
  simp only [iG,VU] at hp;simp only [aI] at h;split at h
  ·rename_i T1 d h1;exact (dN a _ _ _ _ _ hp.1 h1).trans (dN b _ _ _ _ _ hp.2 h)
  ·exact (dN a _ _ _ _ _ hp.1 h).wide fun s hs=>WH _ hs
 | .cond c a b,T,H,x,T',H',hp,h=>by
  simp only [iG,VU] at hp;simp only [aI] at h;split at h
  ·exact (dN a _ _ _ _ _ hp.1 h).wide fun s hs=>WH _ hs
  ·exact (dN b _ _ _ _ _ hp.2 h).wide fun s hs=>W3 _ hs
  ·cases h
 | .block id a,T,H,x,T',H',hp,h=>by
  simp only [aI] at h;split at h
  ·rename_i h1;split at h
   ·cases h; exact dN a _ _ _ _ _ hp h1
   ·cases h; exact dN a _ _ _ _ _ hp h1
  ·exact dN a _ _ _ _ _ hp h
 | .loop a,T,H,x,T',H',hp,h=>by
  simp only [aI] at h;exact Cj (fun T H x T' H' h1=>dN a _ _ _ _ _ hp h1) _ _ _ _ _ _ h
 | .scope a,T,H,x,T',H',hp,h=>by
  simp only [aI] at h;split at h
  ·cases h
  ·exact dN a _ _ _ _ _ hp h
 | .rangeFunc f ps e body,T,H,x,T',H',_,h=>by
  have:T'=T:=by
   simp only [aI] at h;split at h
   ·cases h
   ·split at h
    ·split at h
     ·split at h
      ·cases h; rfl
      ·split at h <;> first | (cases h; rfl) | cases h
      ·cases h
     ·cases h
    ·cases h
  subst this; exact Same.refl _ _
 | .rangeM ..,T,H,x,T',H',hp,h=>by cases hp
 | .scopeL ..,T,H,x,T',H',hp,h=>by cases hp
def WB (tab:Nat->Option au) (rd:Bool) (c:ACode) (T:Tm) (H:Heap) (Q:Ex->Tm->Heap->Prop):Prop:=∃ x T' H',O9 tab rd c T H x T' H'/\Q x T' H'
section
variable {tab:Nat->Option au} {rd:Bool}
def WC.wb {c:ACode} {T:Tm} {H:Heap} {Q:Ex->Tm->Heap->Prop} (h:WC tab rd c T H Q):WB tab rd c T H Q:=eH c T H Q h.run
def WB.same {c:ACode} {T:Tm} {H:Heap} {Q:Ex->Tm->Heap->Prop} (h:WB tab rd c T H Q) (hp:iG c=true):WB tab rd c T H fun x T' H'=>Same (fQ c) T T'/\Q x T' H':=by
 obtain ⟨x,T',H',⟨N,g⟩,a⟩:=h;exact ⟨x,T',H',⟨N,g⟩,dN c _ _ _ _ _ hp (g N N (Vo _) (Vo _)),a⟩
def WB.mono {c:ACode} {T:Tm} {H:Heap} {Q a:Ex->Tm->Heap->Prop} (h:WB tab rd c T H Q) (b:∀ x T' H',Q x T' H'->a x T' H'):WB tab rd c T H a:=by
 obtain ⟨x,T',H',hb,h⟩:=h;exact ⟨x,T',H',hb,b _ _ _ h⟩
def zd {a b:ACode} {T:Tm} {H:Heap} {Q:Ex->Tm->Heap->Prop} (h:WB tab rd a T H fun x T' H'=>match x with | .nrm=>WB tab rd b T' H' Q | x=>Q x T' H'):WB tab rd (.seq a b) T H Q:=by
 obtain ⟨x,T1,e,⟨c,d⟩,h1⟩:=h;by_cases hx:x=.nrm
 ·subst hx;obtain ⟨y,T2,H2,⟨f,g⟩,h2⟩:=h1;refine ⟨y,T2,H2,⟨c+f,fun m n hm hn=>?_⟩,h2⟩;simp only [aI,d m n zO zO];exact g m n zO zO
 ·refine ⟨x,T1,e,⟨c,fun m n hm hn=>?_⟩,?_⟩
  ·simp only [aI,d m n hm hn]
   all_goals (cases x <;> first | rfl | exact absurd rfl hx)
  ·cases x <;> first | exact h1 | exact absurd rfl hx
def PL {c:Src} {a b:ACode} {T:Tm} {H:Heap} {Q:Ex->Tm->Heap->Prop} {v:Bool} (hc:c.ev T=.bool v) (h:if v=true then WB tab rd a T H Q else WB tab rd b T H Q):WB tab rd (.cond c a b) T H Q:=by
 cases v with
 | true =>
  obtain ⟨x,T1,d,⟨e,f⟩,h1⟩:=h;exact ⟨x,T1,d,⟨e,fun m n hm hn=>by simp only [aI,hc]; exact f m n hm hn⟩,h1⟩
 | false =>
  obtain ⟨x,T1,d,⟨e,f⟩,h1⟩:=h;exact ⟨x,T1,d,⟨e,fun m n hm hn=>by simp only [aI,hc]; exact f m n hm hn⟩,h1⟩
def MO {id:Nat} {a:ACode} {T:Tm} {H:Heap} {Q:Ex->Tm->Heap->Prop} (h:WB tab rd a T H (ui id Q)):WB tab rd (.block id a) T H Q:=by
 obtain ⟨x,T1,b,⟨c,d⟩,h1⟩:=h;cases x with
 | exit e =>
  simp only [ui] at h1;by_cases hi:e=id
  ·rw [if_pos hi] at h1;exact ⟨.nrm,T1,b,⟨c,fun m n hm hn=>by simp only [aI,d m n hm hn,if_pos hi]⟩,h1⟩
  ·rw [if_neg hi] at h1;exact ⟨.exit e,T1,b,⟨c,fun m n hm hn=>by simp only [aI,d m n hm hn,if_neg hi]⟩,h1⟩
 | nrm=>exact ⟨_,T1,b,⟨c,fun m n hm hn=>by simp only [aI,d m n hm hn]⟩,h1⟩
 | goto l=>exact ⟨_,T1,b,⟨c,fun m n hm hn=>by simp only [aI,d m n hm hn]⟩,h1⟩
 | ret=>exact ⟨_,T1,b,⟨c,fun m n hm hn=>by simp only [aI,d m n hm hn]⟩,h1⟩
def PJ {T:Tm} {H:Heap} {Q:Ex->Tm->Heap->Prop} (h:Q .nrm T H):WB tab rd .skip T H Q:=⟨.nrm,T,H,⟨0,fun _ _ _ _=>rfl⟩,h⟩
def PK {i:Nat} {T:Tm} {H:Heap} {Q:Ex->Tm->Heap->Prop} (h:Q (.exit i) T H):WB tab rd (.exit i) T H Q:=⟨.exit i,T,H,⟨0,fun _ _ _ _=>rfl⟩,h⟩
def C2 {body:ACode} {Q:Ex->Tm->Heap->Prop} (Inv:Nat->Tm->Heap->Prop)
  (hr:∀ k T H,Inv k T H->WB tab rd body T H (HI Inv k Q)):∀ (k:Nat) (T:Tm) (H:Heap),Inv k T H->WB tab rd (.loop body) T H Q:=by
 have key:∀ (k:Nat) (T:Tm) (H:Heap),Inv k T H->∃ x T' H',Q x T' H'/\∃ N,∀ m n j,N<=m->N<=n->N<=j->Av (aI (lu tab eZ m n) m rd body) j T H=some (x,T',H'):=by
  intro k
  induction k using Nat.strongRecOn with
  | _ k o =>
   intro T H a;obtain ⟨x,T1,c,⟨d,e⟩,h1⟩:=hr k T H a;by_cases hx:x=.nrm
   ·subst hx;obtain ⟨p,l,i⟩:=h1;obtain ⟨y,T2,H2,b,f,h⟩:=o p l T1 c i;refine ⟨y,T2,H2,b,d+f+1,fun m n j hm hn hj=>?_⟩;obtain ⟨j',rfl⟩:∃ j',j=j'+1:=⟨j-1,zO⟩
    unfold Av;rw [e m n zO zO];exact h m n j' zO zO zO
   ·refine ⟨x,T1,c,by cases x <;> first | exact h1 | exact absurd rfl hx,d+1,fun m n j hm hn hj=>?_⟩;obtain ⟨j',rfl⟩:∃ j',j=j'+1:=⟨j-1,zO⟩
    unfold Av;rw [e m n zO zO];cases x <;> first | rfl | exact absurd rfl hx
 intro k T H a;obtain ⟨x,T',H',b,N,g⟩:=key k T H a;exact ⟨x,T',H',⟨N,fun m n hm hn=>g m n m hm hn hm⟩,b⟩
def WB.wcLoop {id:Nat} {body:ACode} {T:Tm} {H:Heap} {Q:Ex->Tm->Heap->Prop} (h:WB tab rd (.loop body) T H (ui id Q)):WC tab rd (.block id (.loop body)) T H Q:=by
 rw [Et];exact ⟨h⟩
def Lv (id id1:Nat) (P:Tm->Heap->Prop) (Q:Ex->Tm->Heap->Prop) (x:Ex) (T:Tm) (H:Heap):Prop:=match x with
 | .nrm=>P T H
 | .exit e=>if e=id1 then P T H else if e=id then Q .nrm T H else Q (.exit e) T H
 | x=>Q x T H
section
variable {id id1:Nat} {P:Tm->Heap->Prop} {Q:Ex->Tm->Heap->Prop} {T:Tm} {H:Heap}
theorem Oi:Lv id id1 P Q .nrm T H=P T H:=rfl
theorem Oh:Lv id id1 P Q .ret T H=Q .ret T H:=rfl
theorem Lt (l:Nat):Lv id id1 P Q (.goto l) T H=Q (.goto l) T H:=rfl
theorem Lu (e:Nat):Lv id id1 P Q (.exit e) T H=iteH (e=id1) (P T H) (iteH (e=id) (Q .nrm T H) (Q (.exit e) T H) () ()) () ():=rfl
end
def Q6 (L i n c k:Nat) (D a:List Nat):Bool :=
 decide (i<L) && decide (n<L) && decide (c<L) && decide (k<L) && i != n && i != c && i != k && n != c && n != k && c != k && !D.contains i && !D.contains n && a.all fun s=>s != i && s != c && s != k
def am {id id1 i n c k:Nat} {body:ACode} {T:Tm} {H:Heap} {Q:Ex->Tm->Heap->Prop} {L a N:Nat} (H0:Heap) (d:List Nat) (P:Nat->List AV->Heap->Prop)
  (hl:T.length=L) (ha:aa T i=.int .i64 (a:Int)) (hn:aa T n=.int .i64 (N:Int)) (O:a<=N) (hN:N<9223372036854775807) (w:Q6 L i n c k (fQ body) d=true) (hp:iG body=true)
  (E:∀ j vs H m,P j vs H->P j vs (H.up m))
  (U:Kp H0 H) (h0:P a (d.map (aa T)) H)
  (hb:∀ j T1 b,a<=j->j<N->T1.length=L->aa T1 i=.int .i64 (j:Int)->Same (i :: c :: k :: fQ body) T T1->Kp H0 b->P j (d.map (aa T1)) b ->
   WC tab rd body T1 b (Lv id id1 (fun T2 H2=>Kp H0 H2/\P (j+1) (d.map (aa T2)) H2) Q))
  (he:∀ T1 b,T1.length=L->Same (i :: c :: k :: fQ body) T T1->Kp H0 b->P N (d.map (aa T1)) b->Q .nrm T1 b) :
  WC tab rd (Og id id1 i n c k body) T H Q:=by
 have ah:=w;simp only [Q6,VU,decide_eq_true_eq,bne_iff_ne,ne_eq,Wy,VJ] at w;obtain ⟨⟨⟨⟨⟨⟨⟨⟨⟨⟨⟨⟨o1,o2⟩,o3⟩,o4⟩,o5⟩,o6⟩,o7⟩,o8⟩,o9⟩,ai⟩,F⟩,G⟩,ae⟩:=w;have I:i ∉ fQ body:=fun h=>by rw [Xd.2 h] at F; cases F
 have J:n ∉ fQ body:=fun h=>by rw [Xd.2 h] at G; cases G
 have ab:n ∉ i :: c :: k :: fQ body:=by
  simp only [VK,not_or]; exact ⟨fun h=>o5 h.symm,o8,o9,J⟩
 have C:∀ {T1 T2:Tm},(∀ s,s≠i->s≠c->s≠k->aa T2 s=aa T1 s)->d.map (aa T2)=d.map (aa T1):=fun h=>by
  refine Xb fun s hs=>?_;obtain ⟨⟨q1,q2⟩,q3⟩:=ae s hs;exact h s q1 q2 q3
 unfold Og;refine WB.wcLoop ?_;refine C2 (fun r T1 b=>∃ j,r=N-j/\a<=j/\j<=N/\T1.length=L/\aa T1 i=.int .i64 (j:Int)/\Same (i :: c :: k :: fQ body) T T1/\Kp H0 b/\P j (d.map (aa T1)) b) ?_ (N-a) T H ⟨a,rfl,Vo _,O,hl,ha,Same.refl _ _,U,h0⟩;rintro r T1 b ⟨j,rfl,R,ag,X,A,D,V,K⟩;have Z:aa T1 n=.int .i64 (N:Int):=(D.at_ n ab).trans hn;refine zd (WC.wb ?_);rw [GC];simp only [Dm,yZ,CV,GD,Sy,A,Z,JK,wF,iM];have B:Kp H0 (b.up 1):=V.up 1;have t:P j (d.map (aa (T1.set c (.bool (decide ((j:Int)<(N:Int))))))) (b.up 1):=by
  rw [C (T1:=T1) fun s q1 q2 q3=>lV _ _ _ _ (Ne.symm q2)];exact E _ _ _ _ K
 have p:Same (i :: c :: k :: fQ body) T (T1.set c (.bool (decide ((j:Int)<(N:Int))))) :=
  (D.trans (Same.put T1 (some c) (.bool (decide ((j:Int)<(N:Int)))))).wide fun s hs=>by
   rcases VE.1 hs with hs | hs
   ·exact hs
   ·simp only [Zy,Wl] at hs; subst hs; simp
 have o:(T1.set c (.bool (decide ((j:Int)<(N:Int))))).length=L:=by simp [X]
 have u:aa (T1.set c (.bool (decide ((j:Int)<(N:Int))))) i=.int .i64 (j:Int):=by rw [lV _ _ _ _ (Ne.symm o6)]; exact A
 have z:aa (T1.set c (.bool (decide ((j:Int)<(N:Int))))) c=.bool (decide ((j:Int)<(N:Int))):=by
  rw [uY _ _ _ _ zO,if_pos rfl]
 generalize af:T1.set c (.bool (decide ((j:Int)<(N:Int))))=T2 at t p o u z ⊢
 refine zd (PL (v:=decide ((j:Int)<(N:Int))) z ?_);by_cases hj:j<N
 ·have e1:decide ((j:Int)<(N:Int))=true:=by simp; omega
  rw [if_pos e1];refine PJ ?_;refine zd (MO ?_);refine (((hb j T2 (b.up 1) R hj o u p B t).wb).same hp).mono ?_;rintro x g q ⟨y,f⟩;have fin:Kp H0 q/\P (j+1) (d.map (aa g)) q->WB tab rd (.region [⟨some k,.bin .add .int (.t i) (.c (.int .i64 1)),none⟩,⟨some i,.mv (.t k),none⟩]) g q (HI (fun r T1 b=>∃ j,r=N-j/\a<=j/\j<=N/\T1.length=L/\aa T1 i=.int .i64 (j:Int)/\Same (i :: c :: k :: fQ body) T T1/\Kp H0 b/\P j (d.map (aa T1)) b) (N-j) (ui id Q)):=by
   rintro ⟨W,M⟩;have S:aa g i=.int .i64 (j:Int):=(y.at_ i I).trans u;have Y:g.length=L:=y.len.trans o;have ad:IntKind.i64.wrap ((j:Int)+1)=((j+1:Nat):Int):=by rw [wrap_i64 zO zO]; simp
   refine WC.wb ?_;rw [GC];simp only [Dm,yZ,CV,GD,QU,IK,Sy,TD,S,Ef,wF,iM,ad];rw [uY _ _ _ _ zO,if_pos rfl,Fo];refine ⟨N-(j+1),zO,j+1,rfl,zO,zO,by simp [Y],?_,?_,W.up _,?_⟩
   ·rw [uY _ _ _ _ zS,if_pos rfl]
   ·refine ((p.trans y).trans ((Same.put g (some k) _).trans (Same.put _ (some i) _))).wide fun s hs=>?_;rcases VE.1 hs with hs | hs
    ·rcases VE.1 hs with hs | hs
     ·exact hs
     ·exact Vn _ (Vn _ (Vn _ hs))
    ·rcases VE.1 hs with hs | hs
     ·simp only [Zy,Wl] at hs; subst hs; simp
     ·simp only [Zy,Wl] at hs; subst hs; simp
   ·rw [C (T1:=g) fun s q1 q2 q3=>by rw [lV _ _ _ _ (Ne.symm q1),lV _ _ _ _ (Ne.symm q3)]];exact E _ _ _ _ M
  cases x with
  | nrm=>exact fin f
  | exit e =>
   simp only [Lv] at f;simp only [ui];by_cases h1:e=id1
   ·rw [if_pos h1] at f ⊢; exact fin f
   ·rw [if_neg h1] at f ⊢;simp only [HI,ui]; exact f
  | goto l=>exact f
  | ret=>exact f
 ·have e1:decide ((j:Int)<(N:Int))=false:=by simp; omega
  have:j=N:=zO
  subst this;rw [if_neg (by rw [e1]; simp)];refine PK ?_;show ui id Q (.exit id) T2 (b.up 1);simp only [ui,if_pos];exact he T2 (b.up 1) o p B t
def RF (id:Nat) (P:Tm->Heap->Prop) (Q:Ex->Tm->Heap->Prop) (x:Ex) (T:Tm) (H:Heap):Prop:=match x with
 | .nrm=>P T H
 | .exit e=>if e=id then Q .nrm T H else Q (.exit e) T H
 | x=>Q x T H
section
variable {id:Nat} {P:Tm->Heap->Prop} {Q:Ex->Tm->Heap->Prop} {T:Tm} {H:Heap}
theorem PF:RF id P Q .nrm T H=P T H:=rfl
theorem PE:RF id P Q .ret T H=Q .ret T H:=rfl
theorem MK (l:Nat):RF id P Q (.goto l) T H=Q (.goto l) T H:=rfl
theorem ML (e:Nat):RF id P Q (.exit e) T H=iteH (e=id) (Q .nrm T H) (Q (.exit e) T H) () ():=rfl
end
def cu {id:Nat} {c:ACode} {T:Tm} {H:Heap} {Q:Ex->Tm->Heap->Prop} {L:Nat} (H0:Heap) (f:List Nat) (P:Nat->List AV->Heap->Prop) (j:Nat)
  (hl:T.length=L) (hp:iG c=true) (p:Kp H0 H) (h0:P j (f.map (aa T)) H)
  (hb:∀ k T1 a,T1.length=L->Same (fQ c) T T1->Kp H0 a->P k (f.map (aa T1)) a->WC tab rd c T1 a (RF id (fun T2 H2=>Kp H0 H2/\∃ d,d<k/\P d (f.map (aa T2)) H2) Q)):WC tab rd (ON id c) T H Q:=by
 unfold ON;refine WB.wcLoop ?_;refine C2 (fun k T1 a=>T1.length=L/\Same (fQ c) T T1/\Kp H0 a/\P k (f.map (aa T1)) a) ?_ j T H ⟨hl,Same.refl _ _,p,h0⟩;rintro k T1 a ⟨g,h,q,m⟩;refine ((hb k T1 a g h q m).wb.same hp).mono ?_;rintro x T2 H2 ⟨i,b⟩;cases x with
 | nrm =>
  obtain ⟨r,d,o,n⟩:=b;exact ⟨d,o,i.len.trans g,(h.trans i).wide fun s hs=>by simpa using hs,r,n⟩
 | exit e=>exact b
 | goto l=>exact b
 | ret=>exact b
end
def TY (e:Option Ent) (k:Option Nat) (o:Nat):Option AV:=match e with
 | some (.cells cs _ _)=>bz cs o k
 | _=>none
def Sl (H:Heap) (k:Option Nat) (b o:Nat):aW H k (.ptr b o)=TY (H.get b) k o:=by
 simp only [aW,TY];cases H.get b with
 | none=>rfl
 | some e=>cases e <;> rfl
theorem Lg (cs:List AV) (ty:Nat) (rw:Bool) (k:Option Nat) (o:Nat):TY (some (.cells cs ty rw)) k o=bz cs o k:=rfl
def En (e:Option Ent) (n o:Nat) (v:AV):Option Ent:=match e with
 | some (.cells cs ty true)=>if v.cells.length=n/\o+n<=cs.length/\v.cells.all AV.one=true then some (.cells (cs.take o++v.cells++cs.drop (o+n)) ty true) else none
 | _=>none
def RV (H:Heap) (n b o:Nat) (v:AV):qw H n (.ptr b o) v=(En (H.get b) n o v).map fun e=>H.put b e:=by
 simp only [qw,En];split
 ·rename_i cs ty h;simp only [h];split <;> rfl
 ·rename_i h;split
  ·rename_i cs ty hg;exact absurd hg (h cs ty)
  ·rfl
def fits (v:AV) (n:Nat) (cs:List AV):Prop:=v.cells=cs/\cs.length=n/\cs.all AV.one=true
def km {cs vs:List AV} {ty n o:Nat} {v:AV} (h:fits v n vs) (a:o+n<=cs.length):En (some (.cells cs ty true)) n o v=some (.cells (cs.take o++vs++cs.drop (o+n)) ty true):=by
 obtain ⟨rfl,h2,h3⟩:=h;simp only [En];rw [if_pos ⟨h2,a,h3⟩]
theorem K5 {α β:Type} (f:α->β) (a:α):(some a).map f=some (f a):=rfl
theorem Ux (a:AV) (l:List AV):bz (a :: l) 0 none=some a:=rfl
theorem Uw (a b:AV) (l:List AV):bz (a :: b :: l) 1 none=some b:=rfl
theorem Uv (a b c:AV) (l:List AV):bz (a :: b :: c :: l) 2 none=some c:=rfl
theorem Kt (a b:AV):bz [a,b] 0 (some 2)=some (.agg [a,b]):=rfl
theorem S9 (a b c:AV):bz [a,b,c] 0 (some 3)=some (.agg [a,b,c]):=rfl
def One (v:AV):Prop:=v.cells=[v]/\v.one=true
def One.fits {v:AV} (h:One v):fits v 1 [v]:=⟨h.1,rfl,by simp [h.2]⟩
def aH (b:Bool):One (.bool b):=⟨rfl,rfl⟩
def aT (k:IntKind) (n:Int):One (.int k n):=⟨rfl,rfl⟩
def bS (f:Fn) (a b:List AV):One (.fn f a b):=⟨rfl,rfl⟩
def bk (b o:Nat):One (.ptr b o):=⟨rfl,rfl⟩
def bf:One .nilSl:=⟨rfl,rfl⟩
def bj (b o n c z:Nat) (x:Bool):One (.own b o n c z x):=⟨rfl,rfl⟩
def bX (cs:List AV) (n:Nat):One (.sl cs n):=⟨rfl,rfl⟩
def bp (b:Nat):One (.map b):=⟨rfl,rfl⟩
def Rd.one {H:Heap} {sz:Nat} {v:AV} {cells:List AV} (h:Rd H sz v cells):One v:=by
 obtain ⟨-,h1,n,hn,-⟩:=h;cases v <;> first | exact ⟨rfl,rfl⟩ | exact absurd rfl (h1 _) | (simp [gL] at hn; done)
def Gf {v:AV} (h:One v):gR v=some [v]:=by
 unfold gR; rw [h.1]; simp [h.2]
def Jr {a b:AV} (ha:One a) (hb:One b):fits (.agg [a,b]) 2 [a,b]:=⟨rfl,rfl,by simp [ha.2,hb.2]⟩
def TJ {a b:AV} (ha:One a) (hb:One b):gR (.agg [a,b])=some [a,b]:=by
 simp [gR,AV.cells,ha.2,hb.2]
def SH {x y a b:AV} (ha:One a) (hb:One b):iJ [x,y] [((0,1),a),((1,1),b)]=some (.agg [a,b]):=by
 simp [iJ,dj,ha.1,ha.2,hb.1,hb.2]
def TC {x a:AV} (ha:One a):dj [x] [((0,1),a)]=some [a]:=by simp [dj,ha.1,ha.2]
def TB {x y a b:AV} (ha:One a) (hb:One b):dj [x,y] [((0,1),a),((1,1),b)]=some [a,b]:=by simp [dj,ha.1,ha.2,hb.1,hb.2]
def TQ {cs:List AV} {ty o:Nat} {v:AV} (h:One v):En (some (.cells cs ty true)) 1 o v=if o<cs.length then some (.cells (cs.set o v) ty true) else none:=by
 simp only [En,h.1];by_cases a:o<cs.length
 ·rw [if_pos ⟨rfl,zO,by simp [h.2]⟩,if_pos a];congr 2;rw [X1,if_pos a]
  simp
 ·rw [if_neg (fun h=>a (by have:=h.2.1; omega)),if_neg a]
def TU {x y a b:AV} {ty:Nat} (ha:One a) (hb:One b):En (some (.cells [x,y] ty true)) 2 0 (.agg [a,b])=some (.cells [a,b] ty true):=by
 simp [En,AV.cells,ha.2,hb.2]
def TA {x y z a b c:AV} (ha:One a) (hb:One b) (hc:One c):dj [x,y,z] [((0,1),a),((1,1),b),((2,1),c)]=some [a,b,c]:=by simp [dj,ha.1,ha.2,hb.1,hb.2,hc.1,hc.2]
def St {p q r t a b c d:AV} (ha:One a) (hb:One b) (hc:One c) (hd:One d):dj [p,q,r,t] [((0,2),.agg [a,b]),((2,2),.agg [c,d])]=some [a,b,c,d]:=by
 simp [dj,AV.cells,ha.2,hb.2,hc.2,hd.2]
def Su {p q a b:AV} (ha:One a) (hb:One b):dj [p,q] [((0,2),.agg [a,b])]=some [a,b]:=by
 simp [dj,AV.cells,ha.2,hb.2]
theorem SI (z:List AV):iJ z []=some (.agg z):=rfl
def Sp {H H':Heap} {b:Nat} {e:Ent} (h1:H.next<=b) (h2:b<H'.next):Kp H (H'.put b e) ↔ Kp H H':=by
 refine ⟨fun h=>⟨h.wf0,fun c e' hc=>?_,h.le,fun c hc=>?_⟩,fun h=>h.put h1 h2⟩
 ·by_cases hb:c=b
  ·rw [hb]; exact h2
  ·exact h.wf c e' (by rw [al hb]; exact hc)
 ·have:=h.same c hc
  rwa [al zO] at this
def aX {H:Heap} {b:Nat} {e:Ent} (h:H.get b=none):Sub H (H.put b e):=(Sub.refl H).put h e
def Qq {H H':Heap} {b:Nat} (h1:H.next<=b) (h:Kp H H'):Kp H (H'.kill b) ↔ True:=⟨fun _=>trivial,fun _=>h.kill h1⟩
def Ts {H H':Heap} {k:Nat} (h:Kp H H'):Kp H (H'.up k) ↔ True:=⟨fun _=>trivial,fun _=>h.up k⟩
def So {H:Heap} {k:Nat} (h:Wf H):Kp H (H.up k) ↔ True:=⟨fun _=>trivial,fun _=>(Kp.refl h).up k⟩
def Qp {H:Heap} (h:Wf H):Kp H H ↔ True:=⟨fun _=>trivial,fun _=>Kp.refl h⟩
def RG {H:Heap} {b:Nat} {e:Ent} (h2:b<H.next):Wf (H.put b e) ↔ Wf H:=by
 refine ⟨fun h c e' hc=>?_,fun h=>h.put h2 e⟩;by_cases hb:c=b
 ·rw [hb]; exact h2
 ·exact h c e' (by rw [al hb]; exact hc)
def S0 {H:Heap} {k:Nat} (h:Wf H):Wf (H.up k) ↔ True:=⟨fun _=>trivial,fun _=>h.bump k⟩
def PG {H:Heap} {b:Nat} (h:Wf H):Wf (H.kill b) ↔ True:=⟨fun _=>trivial,fun _=>h.kill b⟩
structure Ldd (H:Heap) (k:Option Nat) (p w:AV):Prop where
 ld:aW H k p=some w
 put:∀ H' b e,H.next<=b->aW (H'.put b e) k p=aW H' k p
 kill:∀ H' b,H.next<=b->aW (H'.kill b) k p=aW H' k p
theorem N4 (H:Heap) (m:Nat) (k:Option Nat) (p:AV):aW (H.up m) k p=aW H k p:=rfl
def bU {H H':Heap} (h:Sub H H') {k:Option Nat} {p w:AV} (hl:aW H k p=some w):aW H' k p=some w:=by
 unfold aW at hl ⊢;split at hl
 ·split at hl
  ·rename_i hb;rw [h.get _ _ hb]; exact hl
  ·cases hl
 ·exact hl
 ·cases hl
def Ldd.of {H:Heap} (a:Wf H) {k:Option Nat} {p w:AV} (h:aW H k p=some w):Ldd H k p w:=by
 refine ⟨h,fun H' b e hb=>?_,fun H' b hb=>?_⟩
 all_goals
  cases p with
  | ptr c o =>
   have:c<H.next:=by
    simp only [aW] at h;split at h
    ·rename_i hc; exact a c _ hc
    ·cases h
   simp only [aW]
   first | rw [al zO] | rw [cC zO]
  | _=>rfl
def Ldd.mono {H H':Heap} (h:Kp H H') {k:Option Nat} {p w:AV} (hl:Ldd H k p w):Ldd H' k p w:=Ldd.of h.wf (bU h.sub hl.ld)
def SubT (tys:List Nat) (H H':Heap):Prop:=∀ b cs t r,t∈tys->H.get b=some (.cells cs t r)->H'.get b=some (.cells cs t r)
def Sub.t {H H':Heap} (h:Sub H H') (tys:List Nat):SubT tys H H':=fun b cs t r _ hb=>h.get b _ hb
def SubT.of {tys a:List Nat} {H H':Heap} (h:SubT tys H H') (hs:∀ t,t∈a->t∈tys):SubT a H H':=fun b cs t r c hb=>h b cs t r (hs t c) hb
def Uh (H:Heap) (ty:Nat) (v:AV):Prop:=∀ b off n c z x,v=.own b off n c z x->∃ cs r,H.get b=some (.cells cs ty r)
structure fO (α:Type) where
 sz:Nat
 tys:List Nat
 R:Heap->List AV->α->Prop
 pos:0<sz
 len:∀ {H cs a},R H cs a->cs.length=sz/\cs.all AV.one=true
 mono:∀ {H H' cs a},SubT tys H H'->R H cs a->R H' cs a
variable {α:Type}
def Cells (E:fO α) (H:Heap) (cells:List AV) (l:List α):Prop:=cells.length=l.length*E.sz/\∀ i a,l[i]? = some a->E.R H ((cells.drop (i*E.sz)).take E.sz) a
def SlV (E:fO α) (ty:Nat) (H:Heap) (v:AV) (l:List α):Prop:=∃ cells,Rd H E.sz v cells/\Uh H ty v/\Cells E H cells l
def Cells.mono {E:fO α} {H H':Heap} (h:SubT E.tys H H') {cells:List AV} {l:List α} (hc:Cells E H cells l):Cells E H' cells l:=⟨hc.1,fun i a hi=>E.mono h (hc.2 i a hi)⟩
def SlV.monoT {E:fO α} {ty:Nat} {H H':Heap} (h:SubT (ty :: E.tys) H H') {v:AV} {l:List α} (hs:SlV E ty H v l):SlV E ty H' v l:=by
 obtain ⟨cells,⟨h0,h1,n,h2,h3⟩,a,hc⟩:=hs;refine ⟨cells,⟨h0,h1,n,h2,?_⟩,fun b off n c z x e=>?_,hc.mono (h.of fun t a=>Vn _ a)⟩
 ·unfold aG at h3 ⊢;split at h3
  ·rename_i b off n' c sz ex;obtain ⟨cs,r,hb⟩:=a b off _ c sz ex rfl;rw [hb] at h3;rw [h b cs ty r (Vt ..) hb]; exact h3
  ·exact h3
  ·exact h3
  ·exact h3
  ·cases h3
 ·obtain ⟨cs,r,hb⟩:=a b off n c z x e;exact ⟨cs,r,h b cs ty r (Vt ..) hb⟩
def SlV.mono {E:fO α} {ty:Nat} {H H':Heap} (h:Sub H H') {v:AV} {l:List α} (hs:SlV E ty H v l):SlV E ty H' v l:=hs.monoT (h.t _)
def SlV.one {E:fO α} {ty:Nat} {H:Heap} {v:AV} {l:List α} (hs:SlV E ty H v l):One v:=by
 obtain ⟨cells,h1,h2⟩:=hs; exact h1.one
def SlV.nil (E:fO α) (ty:Nat) (H:Heap):SlV E ty H .nilSl []:=⟨[],Rd.nil H E.sz,(fun _ _ _ _ _ _ e=>by cases e),by simp,fun i a h=>by simp at h⟩
def SlV.lenV {E:fO α} {ty:Nat} {H:Heap} {v:AV} {l:List α} (hs:SlV E ty H v l):lenV v=some (.int .i64 (l.length:Int)):=by
 obtain ⟨cells,h1,-,h2⟩:=hs;exact Jf h1 h2.1 E.pos
def SlV.idx {E:fO α} {ty:Nat} {H:Heap} {v:AV} {l:List α} (hs:SlV E ty H v l) (k:IntKind) (i:Nat) (hi:i<l.length):cL E.sz v (.int k (i:Int))=some (aq v (i*E.sz)):=by
 obtain ⟨cells,h1,-,h2⟩:=hs
 have:=E.pos
 refine Qu h1 ?_ E.pos;rw [h2.1,<- W4];exact Vy _ hi
def Ly {H:Heap} {sz:Nat} {v:AV} {cells:List AV} (h:Rd H sz v cells) (hne:cells≠[]) (off o:Nat):AD off (aq v o)=some (aq v (o+off)):=by
 obtain ⟨-,h1,n,hn,a⟩:=h;cases v with
 | own b f m c s e=>simp [aq,AD,Wx]
 | sl cs m=>simp [aq,AD]
 | nilSl =>
  simp only [aG] at a;split at a
  ·cases a; exact absurd rfl hne
  ·cases a
 | str s=>exact absurd rfl (h1 _)
 | _=>simp [gL] at hn
def SlV.fa {E:fO α} {ty:Nat} {H:Heap} {v:AV} {l:List α} (hs:SlV E ty H v l) (hne:0<l.length) (off o:Nat):AD off (aq v o)=some (aq v (o+off)):=by
 obtain ⟨cells,h1,-,h2⟩:=hs;refine Ly h1 (fun h=>?_) off o
 have:=h2.1
 rw [h] at this
 have:=ZM hne E.pos
 simp at *;omega
def SlV.at {E:fO α} {ty:Nat} {H:Heap} {v:AV} {l:List α} (hs:SlV E ty H v l) {i:Nat} {a:α} (hi:l[i]? = some a):∃ cs,E.R H cs a/\cs.length=E.sz/\(∀ j c,cs[j]? = some c->aW H none (aq v (i*E.sz+j))=some c)/\aW H (some E.sz) (aq v (i*E.sz))=some (.agg cs):=by
 obtain ⟨cells,h1,-,h2⟩:=hs;have hlt:i<l.length:=(VA.1 hi).1;have b:i*E.sz+E.sz<=cells.length:=by rw [h2.1,<- W4]; exact Vy _ hlt
 have:=E.pos
 refine ⟨_,h2.2 i a hi,by simp; omega,fun j c hj=>?_,?_⟩
 ·refine h1.load (by simp) ?_;rw [VL] at hj;split at hj
  ·rw [VM] at hj
   simpa [bz] using hj
  ·cases hj
 ·refine h1.load zS ?_;simp only [bz];rw [if_pos b]
structure QT (α:Type) where
 tys:List Nat
 R:Heap->AV->α->Prop
 one:∀ {H v a},R H v a->One v
 mono:∀ {H H' v a},SubT tys H H'->R H v a->R H' v a
def bY (e:QT α):fO α where
 sz:=1
 tys:=e.tys
 R H cs a:=∃ v,cs=[v]/\e.R H v a
 pos:=zO
 len:=by rintro H cs a ⟨v,rfl,h⟩; exact ⟨rfl,by simp [(e.one h).2]⟩
 mono:=by rintro H H' cs a hs ⟨v,rfl,h⟩; exact ⟨v,rfl,e.mono hs h⟩
abbrev yY (e:QT α) (ty:Nat) (H:Heap) (v:AV) (l:List α):Prop:=SlV (bY e) ty H v l
def SlV.at1 {e:QT α} {ty:Nat} {H:Heap} {v:AV} {l:List α} (hs:yY e ty H v l) {i:Nat} {a:α} (hi:l[i]? = some a):∃ c,e.R H c a/\aW H none (aq v i)=some c:=by
 obtain ⟨cs,⟨c,rfl,hr⟩,-,h2,-⟩:=hs.at hi;refine ⟨c,hr,?_⟩
 have:=h2 0 c rfl
 simpa [bY] using this
def SlV.idx1 {e:QT α} {ty:Nat} {H:Heap} {v:AV} {l:List α} (hs:yY e ty H v l) (k:IntKind) (i:Nat) (hi:i<l.length):cL 1 v (.int k (i:Int))=some (aq v i):=by
 have:=SlV.idx hs k i hi
 simpa [bY] using this
def HP (k:IntKind):QT Int:=⟨[],fun _ v a=>v=.int k a,fun h=>h ▸ aT _ _,fun _ h=>h⟩
def cB:QT Nat:=⟨[],fun _ v a=>v=.int .u64 (a:Int),fun h=>h ▸ aT _ _,fun _ h=>h⟩
def sO (E:fO α) (ty:Nat):QT (List α):=⟨ty :: E.tys,SlV E ty,fun h=>h.one,fun h hs=>hs.monoT h⟩
def Cells.take {E:fO α} {H:Heap} {cells:List AV} {l:List α} (h:Cells E H cells l) {n:Nat} (hn:n<=l.length):Cells E H (cells.take (n*E.sz)) (l.take n):=by
 have hm:=Vy E.sz hn;refine ⟨by rw [VN,VN,h.1,WG hm,WG hn],fun i a hi=>?_⟩;rw [VL] at hi;split at hi
 ·rename_i b
  have:=h.2 i a hi
  have h1:i*E.sz+E.sz<=n*E.sz:=by rw [<- W4]; exact Vy _ b
  rw [List.drop_take,XE,WG zO];exact this
 ·cases hi
def Cells.drop {E:fO α} {H:Heap} {cells:List AV} {l:List α} (h:Cells E H cells l) (n:Nat):Cells E H (cells.drop (n*E.sz)) (l.drop n):=by
 refine ⟨by rw [WN,WN,h.1,Nat.sub_mul],fun i a hi=>?_⟩;rw [VM] at hi
 have:=h.2 _ a hi
 rw [List.drop_drop,<- Wq];exact this
def Cells.append {E:fO α} {H:Heap} {b c:List AV} {l1 l2:List α} (h1:Cells E H b l1) (h2:Cells E H c l2):Cells E H (b++c) (l1++l2):=by
 refine ⟨by rw [VC,VC,h1.1,h2.1,Wq],fun i a hi=>?_⟩;by_cases hlt:i<l1.length
 ·rw [VT hlt] at hi
  have:=h1.2 i a hi
  have d:i*E.sz+E.sz<=b.length:=by rw [h1.1,<- W4]; exact Vy _ hlt
  rw [List.drop_append_of_le_length zO,XP (by rw [WN]; omega)];exact this
 ·rw [We zO] at hi
  have:=h2.2 _ a hi
  have e:i*E.sz=b.length+(i-l1.length)*E.sz:=by rw [h1.1,<- Wq]; congr 1; omega
  rw [e,List.drop_append,Yr zO,Xv,Yj];exact this
def Cells.nil (E:fO α) (H:Heap):Cells E H [] []:=⟨by simp,fun i a h=>by simp at h⟩
def Cells.one {E:fO α} {H:Heap} {cs:List AV} {a:α} (h:E.R H cs a):Cells E H cs [a]:=by
 refine ⟨by simp [(E.len h).1],fun i b hi=>?_⟩;cases i with
 | zero=>simp at hi; subst hi; simp [<- (E.len h).1]; exact h
 | succ i=>simp at hi
def Cells.set {E:fO α} {H:Heap} {cells cs:List AV} {l:List α} (h:Cells E H cells l) {i:Nat} {a:α} (hi:i<l.length) (hr:E.R H cs a):Cells E H (cells.take (i*E.sz)++cs++cells.drop (i*E.sz+E.sz)) (l.set i a):=by
 have e:l.set i a=l.take i++[a]++l.drop (i+1):=by rw [X1,if_pos hi]; simp
 rw [e]
 have:=h.drop (i+1)
 rw [W4] at this;exact ((h.take (Xe hi)).append (Cells.one hr)).append this
def Cells.ones {E:fO α} {H:Heap} {cells:List AV} {l:List α} (h:Cells E H cells l):cells.all AV.one=true:=by
 rw [VJ];intro c hc;obtain ⟨j,hj,rfl⟩:=WF hc;have hp:=E.pos;have hlt:j / E.sz<l.length:=by
  apply Nat.div_lt_of_lt_mul
  rw [VG,<- h.1]; exact hj
 have:=(E.len (h.2 (j / E.sz) _ (Vk hlt))).2
 rw [VJ] at this;refine this _ ?_;have hm:j % E.sz<E.sz:=Wm _ hp;have e:=WI j E.sz;refine VD (i:=j % E.sz) ?_;rw [VL,if_pos hm,VM];rw [VG,e,Vk hj]
def rU {H:Heap} {ty sz:Nat} {v a:AV} {lo hi mx:Option AV} (d:Uh H ty v) (h:bW sz v lo hi mx=some a):Uh H ty a:=by
 intro b off n c z x e;subst e;cases v with
 | own b' g n' f j i =>
  have hb:b=b':=by
   simp only [bW,bL] at h;split at h
   ·cases h
   ·split at h
    ·simp only [Vj,Vf] at h;obtain ⟨m,-,h',-,l,-,h⟩:=h;split at h
     ·split at h <;> (cases h; rfl)
     ·cases h
    ·simp only [Vj,Vf] at h;obtain ⟨h',-,l,-,h⟩:=h;split at h
     ·split at h
      ·cases h; rfl
      ·split at h
       ·cases h; rfl
       ·cases h
     ·cases h
    ·cases h
  subst hb;exact d _ _ _ _ _ _ rfl
 | sl cs n' =>
  exfalso
  simp only [bW,bL] at h;split at h
  ·simp only [Vj,Vf] at h;obtain ⟨h',-,l,-,h⟩:=h;split at h <;> cases h
  ·simp only [Vj,Vf] at h;obtain ⟨m,-,h',-,l,-,h⟩:=h;split at h <;> cases h
  ·cases h
 | nilSl =>
  exfalso
  simp only [bW,bL] at h;split at h
  ·split at h <;> cases h
  ·split at h <;> cases h
  ·cases h
 | str s=>cases h
 | _=>cases h
def SlV.hi {E:fO α} {ty:Nat} {H:Heap} {v:AV} {l:List α} (hs:SlV E ty H v l) (k:IntKind) (n:Nat) (hn:n<=l.length):∃ a,bW E.sz v none (some (.int k (n:Int))) none=some a/\SlV E ty H a (l.take n):=by
 obtain ⟨cells,h1,b,h2⟩:=hs;obtain ⟨a,e,h⟩:=h1.hi (k:=k) (hi:=n) (by rw [h2.1]; exact Vy _ hn) E.pos;exact ⟨a,e,_,h,rU b e,h2.take hn⟩
def SlV.lo {E:fO α} {ty:Nat} {H:Heap} {v:AV} {l:List α} (hs:SlV E ty H v l) (k:IntKind) (n:Nat) (hn:n<=l.length):∃ a,bW E.sz v (some (.int k (n:Int))) none none=some a/\SlV E ty H a (l.drop n):=by
 obtain ⟨cells,h1,b,h2⟩:=hs;obtain ⟨a,e,h⟩:=h1.lo (k:=k) (lo:=n) (by rw [h2.1]; exact Vy _ hn) E.pos;exact ⟨a,e,_,h,rU b e,h2.drop n⟩
def SlV.clip {E:fO α} {ty:Nat} {H:Heap} {v:AV} {l:List α} (hs:SlV E ty H v l) (k j:IntKind):∃ a,bW E.sz v none (some (.int k (l.length:Int))) (some (.int j (l.length:Int)))=some a/\SlV E ty H a l:=by
 obtain ⟨cells,h1,b,h2⟩:=hs;obtain ⟨a,e,h⟩:=h1.clip (k:=k) (j:=j) h2.1 E.pos;exact ⟨a,e,_,h,rU b e,h2⟩
def Own (E:fO α) (ty:Nat) (H0 H:Heap) (b:Nat) (ex:Bool) (v:AV) (l:List α):Prop :=
 ∃ cells,v=.own b 0 l.length l.length E.sz ex/\H.get b=some (.cells cells ty true)/\Cells E H cells l/\H0.next<=b
def Own.sl {E:fO α} {ty:Nat} {H0 H:Heap} {b:Nat} {ex:Bool} {v:AV} {l:List α} (h:Own E ty H0 H b ex v l):SlV E ty H v l:=by
 obtain ⟨cells,rfl,hb,hc,-⟩:=h;exact ⟨cells,Rd.own hb hc.1 (Vo _),fun _ _ _ _ _ _ e=>by cases e; exact ⟨_,_,hb⟩,hc⟩
def Bl (E:fO α) (ty:Nat) (H0 H:Heap) (v:AV) (l:List α):Prop:=(v=.nilSl/\l=[])\/∃ b,Own E ty H0 H b false v l
def Bl.nil {E:fO α} {ty:Nat} {H0 H:Heap}:Bl E ty H0 H .nilSl []:=.inl ⟨rfl,rfl⟩
def Bl.sl {E:fO α} {ty:Nat} {H0 H:Heap} {v:AV} {l:List α} (h:Bl E ty H0 H v l):SlV E ty H v l:=by
 rcases h with ⟨rfl,rfl⟩ | ⟨b,h⟩
 ·exact SlV.nil E ty H
 ·exact h.sl
def Own.monoT {E:fO α} {ty:Nat} {H0 H H':Heap} (hs:SubT (ty :: E.tys) H H') {b:Nat} {ex:Bool} {v:AV} {l:List α} (h:Own E ty H0 H b ex v l):Own E ty H0 H' b ex v l:=by
 obtain ⟨cells,rfl,hb,hc,h0⟩:=h;exact ⟨cells,rfl,hs b _ _ _ (Vt ..) hb,hc.mono (hs.of fun t a=>Vn _ a),h0⟩
def Own.mono {E:fO α} {ty:Nat} {H0 H H':Heap} (hs:Sub H H') {b:Nat} {ex:Bool} {v:AV} {l:List α} (h:Own E ty H0 H b ex v l):Own E ty H0 H' b ex v l:=h.monoT (hs.t _)
def Bl.monoT {E:fO α} {ty:Nat} {H0 H H':Heap} (hs:SubT (ty :: E.tys) H H') {v:AV} {l:List α} (h:Bl E ty H0 H v l):Bl E ty H0 H' v l:=by
 rcases h with h | ⟨b,h⟩
 ·exact .inl h
 ·exact .inr ⟨b,h.monoT hs⟩
def Bl.mono {E:fO α} {ty:Nat} {H0 H H':Heap} (hs:Sub H H') {v:AV} {l:List α} (h:Bl E ty H0 H v l):Bl E ty H0 H' v l:=h.monoT (hs.t _)
def Bl.put {E:fO α} {ty:Nat} {H0 H:Heap} {v:AV} {l:List α} (h:Bl E ty H0 H v l) {b:Nat} {e:Ent} (hne:∀ n,v ≠ .own b 0 n n E.sz false) (hs:SubT E.tys H (H.put b e)):Bl E ty H0 (H.put b e) v l:=by
 rcases h with h | ⟨b',cells,rfl,hb,hc,h0⟩
 ·exact .inl h
 ·exact .inr ⟨b',cells,rfl,by rw [al (fun e1=>hne _ (by rw [e1]))]; exact hb,hc.mono hs,h0⟩
def Bl.kill {E:fO α} {ty:Nat} {H0 H:Heap} {v:AV} {l:List α} (h:Bl E ty H0 H v l) {b:Nat} (hne:∀ n,v ≠ .own b 0 n n E.sz false) (hs:SubT E.tys H (H.kill b)):Bl E ty H0 (H.kill b) v l:=by
 rcases h with h | ⟨b',cells,rfl,hb,hc,h0⟩
 ·exact .inl h
 ·exact .inr ⟨b',cells,rfl,by rw [cC (fun e1=>hne _ (by rw [e1]))]; exact hb,hc.mono hs,h0⟩
def SubT.nil (H H':Heap):SubT [] H H':=fun _ _ _ _ h=>by cases h
def SubT.put {tys:List Nat} {H:Heap} {b:Nat} {e:Ent} (h:∀ cs t r,t∈tys->H.get b≠some (.cells cs t r)):SubT tys H (H.put b e):=fun c cs t r a hc=>by
 rw [al (fun e1=>h cs t r a (by rw [<- e1]; exact hc))]; exact hc
def SubT.put_ty {tys:List Nat} {H:Heap} {b ty:Nat} {e:Ent} {cs:List AV} {r:Bool} (hb:H.get b=some (.cells cs ty r)) (c:ty ∉ tys):SubT tys H (H.put b e):=SubT.put fun d t f a h=>by
 rw [hb] at h; cases h; exact c a
def Bl.base {E:fO α} {ty:Nat} {H0 a H:Heap} (hs:H0.next<=a.next) {v:AV} {l:List α} (h:Bl E ty a H v l):Bl E ty H0 H v l:=by
 rcases h with h | ⟨b,cells,h1,h2,h3,c⟩
 ·exact .inl h
 ·exact .inr ⟨b,cells,h1,h2,h3,VB hs c⟩
def dr (H:Heap) (id size bytes ty:Nat) (x y:AV):Option (AV × Heap):=match gL y with
 | none=>none
 | some m=>match aG H size m y with
  | none=>none
  | some a=>cS H id size bytes ty x m a (match y with | .own b _ _ _ _ _=>some b | _=>none)
def Rt {tab:Nat->Option au} (ev:Src->AV) (H:Heap) (id:Nat) (Q:AV->Heap->Prop) (size bytes ty:Nat) (z:List AV) (x y:Src) :
  lJ tab ev H id (.append size bytes ty z x y) Q=gu (dr H id size bytes ty (ev x) (ev y)) (fun r=>Q r.1 r.2) ():=by rw [J3]; rfl
def I8 (H:Heap) (id ty size bytes:Nat) (z:List AV) (l c:AV):Option (AV × Heap):=match pb l,pb c with
 | some l,some c=>if l<=c/\bytes*c<=2^47/\c<2^63/\z.length=size then some (.own id 0 l c size true,H.put id (.cells ((List.replicate c z).flatten) ty true)) else none
 | _,_=>none
def SV {tab:Nat->Option au} (ev:Src->AV) (H:Heap) (id:Nat) (Q:AV->Heap->Prop) (ty size bytes:Nat) (z:List AV) (l c:Src) :
  lJ tab ev H id (.mksl ty size bytes z l c) Q=gu (I8 H id ty size bytes z (ev l) (ev c)) (fun r=>Q r.1 r.2) ():=by rw [Po]; rfl
def jd (H:Heap) (id ty size bytes:Nat) (z:List AV) (k j:IntKind) (n:Nat) (hb:bytes*n<=140737488355328) (hn:n<9223372036854775808) (a:z.length=size) :
  I8 H id ty size bytes z (.int k (n:Int)) (.int j (n:Int))=some (.own id 0 n n size true,H.put id (.cells ((List.replicate n z).flatten) ty true)):=by
 simp only [I8,fN];rw [if_pos ⟨Vo _,hb,hn,a⟩]
def rV {E:fO α} {H:Heap} {z:List AV} {a:α} (b:E.R H z a) (n:Nat):Cells E H (List.replicate n z).flatten (List.replicate n a):=by
 induction n with
 | zero=>exact Cells.nil E H
 | succ n c=>rw [Wk,Wk,X6]; exact (Cells.one b).append c
def Bl.app {E:fO α} {ty ty2 bytes id:Nat} {H0 H:Heap} {v w:AV} {l l2:List α} (h:Bl E ty H0 H v l) (K:ty ∉ E.tys) (g:Kp H0 H) (hy:SlV E ty2 H w l2) (f:H0.next<=id) (s:id<H.next) (F:H.get id=none)
  (hne:∀ b n,v=.own b 0 n n E.sz false->∀ off m c z x,w ≠ .own b off m c z x) (hb:(l.length+l2.length)*bytes<=70368744177664) (hl:l.length+l2.length<4611686018427387904) :
  ∃ k H',dr H id E.sz bytes ty v w=some (k,H')/\Bl E ty H0 H' k (l++l2)/\Kp H0 H'/\H'.next=H.next/\(∀ b e,H.get b=some e->(∀ n,v ≠ .own b 0 n n E.sz false)->H'.get b=some e)/\(0<l2.length->∃ n,k=.own id 0 n n E.sz false):=by
 obtain ⟨a,hr,M,hc⟩:=hy;obtain ⟨m,hm,G⟩:=hr.length;obtain ⟨-,-,m',u,C⟩:=hr;rw [hm] at u; cases u;have I:m=l2.length:=Xf E.pos (by rw [<- G,hc.1]);subst I;obtain ⟨fr,q⟩:∃ fr,(match w with | .own b _ _ _ _ _=>some b | _=>none)=fr:=⟨_,rfl⟩
 have A:dr H id E.sz bytes ty v w=cS H id E.sz bytes ty v l2.length a fr:=by
  unfold dr;rw [hm];simp only;rw [C];simp only;rw [q]
 rw [A];have J:=hc.ones;have i:∀ {b e},H.get b=some e->b≠id:=fun hb e1=>by rw [e1,F] at hb; cases hb
 rcases h with ⟨rfl,rfl⟩ | ⟨b,cells,rfl,d,hcl,o⟩
 ·by_cases h0:l2.length=0
  ·refine ⟨.nilSl,H,by simp only [cS]; rw [if_pos h0],.inl ⟨rfl,by simpa using h0⟩,g,rfl,fun b e hb _=>hb,fun h=>by omega⟩
  ·refine ⟨_,_,by simp only [cS]; rw [if_neg h0,if_pos ⟨by simpa using hb,by simpa using hl⟩],.inr ⟨id,a,by simp,ap _ _ _,?_,f⟩,g.put f s,rfl,fun b e hb _=>?_,fun _=>⟨_,rfl⟩⟩
   ·have:=hc.mono (H':=H.put id (.cells a ty true)) fun c cs t r _ p=>by rw [al (i p)]; exact p
    simpa using this
   ·rw [al (i hb)]; exact hb
 ·have L:b≠id:=i d;have D:fr≠some b:=by
   rw [<- q];cases w with
   | own b' off m c z x =>
    simp only [ne_eq,V4];intro e1; subst e1;exact hne _ _ rfl _ _ _ _ _ rfl
   | _=>simp
  simp only [cS,d];rw [if_pos ⟨trivial,hb,hl,trivial,by simp; exact X4 hcl.1.symm⟩];by_cases h0:l2.length=0
  ·rw [if_pos zO,if_pos h0];refine ⟨_,H,rfl,.inr ⟨b,cells,?_,d,?_,o⟩,g,rfl,fun b e hb _=>hb,fun h=>by omega⟩
   ·simp [h0]
   ·have:l2=[]:=VZ h0
    subst this; simpa using hcl
  ·rw [if_neg zO];simp only [Wo,if_false];rw [if_pos ⟨trivial,trivial,D,J⟩];have y:∀ c e,H.get c=some e->c≠b->((H.kill b).put id (.cells (cells.take (l.length*E.sz)++a) ty true)).get c=some e:=fun c e hc B=>by
    rw [al (i hc),cC B]; exact hc
   refine ⟨_,_,rfl,.inr ⟨id,_,by simp,ap _ _ _,?_,f⟩,(g.kill o).put f s,rfl,fun c e hc he=>y c e hc fun e1=>?_,fun _=>⟨_,rfl⟩⟩
   ·have hs:SubT E.tys H ((H.kill b).put id (.cells (cells.take (l.length*E.sz)++a) ty true)):=fun c cs t r j hc=>y c _ hc fun e1=>by
     subst e1;rw [d] at hc; cases hc;exact K j
    have j:cells.take (l.length*E.sz)=cells:=by rw [<- hcl.1,VO]
    rw [j] at hs ⊢;exact (hcl.mono hs).append (hc.mono hs)
   ·subst e1;exact he _ rfl
def Bl.push {E:fO α} {ty ty2 bytes id id2 k:Nat} {H0 H:Heap} {v:AV} {l:List α} {cs:List AV} {a:α} (h:Bl E ty H0 H v l) (A:ty ∉ E.tys) (d:Kp H0 H) (hr:E.R H cs a) (s:H.next<=id) (w:id<H.next+k) (t:H.next<=id2) (u:id2<H.next+k) (hne:id≠id2)
  (hb:(l.length+1)*bytes<=70368744177664) (hl:l.length+1<4611686018427387904) :
  ∃ n H',dr ((H.up k).put id2 (.cells cs ty2 true)) id E.sz bytes ty v (.own id2 0 1 1 E.sz true)=some (.own id 0 n n E.sz false,H')/\Bl E ty H0 H' (.own id 0 n n E.sz false) (l++[a])/\Kp H0 H'/\H'.next=H.next+k/\(∀ b e,H.get b=some e->(∀ n,v ≠ .own b 0 n n E.sz false)->H'.get b=some e):=by
 have C:=d.le;have i:∀ {c},H.next<=c->H.get c=none:=fun hc=>d.wf.fresh hc
 have g:Sub H ((H.up k).put id2 (.cells cs ty2 true)):=(Sub.bump H k).put (i t) _;have y:Kp H0 ((H.up k).put id2 (.cells cs ty2 true)):=(d.up k).put zO u;have hy:SlV E ty2 ((H.up k).put id2 (.cells cs ty2 true)) (.own id2 0 1 1 E.sz true) [a]:=by
  have:Own E ty2 H0 ((H.up k).put id2 (.cells cs ty2 true)) id2 true (.own id2 0 1 1 E.sz true) [a]:=⟨cs,rfl,ap _ _ _,Cells.one (E.mono (g.t _) hr),zO⟩
  exact this.sl
 obtain ⟨D,H',e1,e2,e3,j,o,p⟩:=(h.mono g).app (id:=id) (bytes:=bytes) A y hy zO w (by rw [al hne]; exact i s) (fun b n f off m c z x B=>by
  cases B;rcases h with ⟨h,-⟩ | ⟨b',cells,h,q,-⟩
  ·rw [h] at f; cases f
  ·rw [h] at f; cases f
   have:=d.wf _ _ q
   omega) hb hl
 obtain ⟨n,rfl⟩:=p (by simp);exact ⟨n,H',e1,e2,e3,j,fun b e r he=>o b e (g.get _ _ r) he⟩
def Bl.ne {E:fO α} {ty:Nat} {H0 H:Heap} {v:AV} {l:List α} (h:Bl E ty H0 H v l) {b:Nat} {e:Ent} (hb:H.get b=some e) (he:∀ cs,e ≠ .cells cs ty true) (n:Nat):v ≠ .own b 0 n n E.sz false:=by
 intro a;rcases h with ⟨h,-⟩ | ⟨b',cells,h,c,-⟩
 ·rw [h] at a; cases a
 ·rw [h] at a; cases a;rw [hb] at c; cases c;exact he _ rfl
def SlV.app {E:fO α} {ty ty2 bytes id b off:Nat} {H0 H:Heap} {w:AV} {l l2:List α} (h:SlV E ty H (.own b off l.length l.length E.sz true) l) (k:Kp H0 H) (hy:SlV E ty2 H w l2) (j:H0.next<=id) (u:id<H.next) (t:H.get id=none)
  (hb:(l.length+l2.length)*bytes<=70368744177664) (hl:l.length+l2.length<4611686018427387904) :
  ∃ f H',dr H id E.sz bytes ty (.own b off l.length l.length E.sz true) w=some (f,H')/\SlV E ty H' f (l++l2)/\Kp H0 H'/\H'.next=H.next/\Sub H H'/\(0<l2.length->Own E ty H0 H' id false f (l++l2)):=by
 obtain ⟨cells,A,p,hcl⟩:=h;obtain ⟨cs,D,hg⟩:=p _ _ _ _ _ _ rfl;obtain ⟨-,-,C,o,d⟩:=A;simp only [gL,V4] at o;subst o;simp only [aG,hg] at d;obtain ⟨a,hr,B,hc⟩:=hy;obtain ⟨m,hm,v⟩:=hr.length;obtain ⟨-,-,m',n,q⟩:=hr;rw [hm] at n; cases n;have y:m=l2.length:=Xf E.pos (by rw [<- v,hc.1]);obtain ⟨fr,r⟩:∃ fr,(match w with | .own b _ _ _ _ _=>some b | _=>none)=fr:=⟨_,rfl⟩
 subst y;have z:∀ {b e},H.get b=some e->b≠id:=fun hb e1=>by rw [e1,t] at hb; cases hb
 split at d
 ·rename_i i;cases d;have g:∀ fr,cS H id E.sz bytes ty (.own b off l.length l.length E.sz true) l2.length a fr=if l2.length=0 then some (.own b off l.length l.length E.sz true,H) else some (.own id 0 (l.length+l2.length) (l.length+l2.length) E.sz false,H.put id (.cells ((cs.drop off).take (l.length*E.sz)++a) ty true)):=fun fr=>by
   simp only [cS,hg];rw [if_pos ⟨trivial,hb,hl,trivial,i.2.2⟩];by_cases h0:l2.length=0
   ·rw [if_pos zO,if_pos h0,if_pos h0]
   ·rw [if_neg zO,if_neg h0]
    simp
  have e:∀ x,dr H id E.sz bytes ty x w=cS H id E.sz bytes ty x l2.length a fr:=fun x=>by
   unfold dr;rw [hm];simp only;rw [q];simp only;rw [r]
  by_cases h0:l2.length=0
  ·refine ⟨_,H,by rw [e,g,if_pos h0],?_,k,rfl,Sub.refl H,fun h=>by omega⟩
   have:l2=[]:=VZ h0
   subst this;rw [Wv];refine ⟨_,⟨Vo _,(fun s h=>by cases h),l.length,rfl,?_⟩,p,hcl⟩;simp only [aG,hg];rw [if_pos i]
  ·have hs:Sub H (H.put id (.cells ((cs.drop off).take (l.length*E.sz)++a) ty true)):=⟨Vo _,fun c e hc=>by rw [al (z hc)]; exact hc⟩
   refine ⟨_,_,by rw [e,g,if_neg h0],?_,k.put j u,rfl,hs,fun _=>⟨_,by rw [VC],ap _ _ _,(hcl.mono (hs.t _)).append (hc.mono (hs.t _)),j⟩⟩;refine ⟨(cs.drop off).take (l.length*E.sz)++a,Rd.own (ap _ _ _) ?_ (Vo _),fun _ _ _ _ _ _ e=>by cases e; exact ⟨_,_,ap _ _ _⟩,(hcl.mono (hs.t _)).append (hc.mono (hs.t _))⟩;rw [VC,hcl.1,hc.1,Wq]
 ·cases d
def SlV.nilcase {E:fO α} {ty:Nat} {H:Heap} {v:AV} {l:List α} (h:SlV E ty H v l):(v=.nilSl/\l=[])\/ca .eql .sl v .nilSl=some (.bool false):=by
 obtain ⟨cells,⟨-,h1,n,hn,a⟩,-,hc⟩:=h;cases v with
 | nilSl =>
  simp only [aG] at a;split at a
  ·cases a;refine .inl ⟨rfl,VZ ?_⟩
   have:=hc.1
   have hp:=E.pos;simp only [Xi] at this;rcases Nat.mul_eq_zero.1 this.symm with h | h
   ·exact h
   ·omega
  ·cases a
 | own b off n c z x=>exact .inr rfl
 | sl cs n=>exact .inr rfl
 | str s=>exact absurd rfl (h1 _)
 | _=>simp [gL] at hn
def aL (l:List Nat):List AV:=l.map fun a=>.int .u64 ((a:Nat):Int)
def oQ (l:List Nat):(aL l).length=l.length:=by simp [aL]
def Le (l:List Nat) (j a:Nat):(aL l).set j (.int .u64 (a:Int))=aL (l.set j a):=by simp [aL,YG]
def C9 {l:List Nat} {j:Nat} (h:j<l.length):bz (aL l) j none=some (.int .u64 ((l.getD j 0:Nat):Int)):=by
 simp [bz,aL,Vh,h]
def tT (H:Heap) (l:List Nat):Cells (bY cB) H (aL l) l:=by
 refine ⟨by simp [aL,bY],fun i a hi=>⟨.int .u64 (a:Int),?_,rfl⟩⟩;have hlt:=(VA.1 hi).1
 apply W0
 intro k;have e:(aL l)[i]? = some (.int .u64 (a:Int)):=by simp [aL,hi]
 simp only [bY,VL,VM,WT];cases k with
 | zero=>simpa using e
 | succ k=>simp
def mH (n:Nat):(List.replicate n [AV.int .u64 0]).flatten=aL (List.replicate n 0):=by
 induction n with
 | zero=>rfl
 | succ n a=>rw [Wk,X6,a]; rfl
def uR {H0 H:Heap} {b ty:Nat} {l:List Nat} {n:Nat} {ex:Bool} (hb:H.get b=some (.cells (aL l) ty true)) (h0:H0.next<=b) (hn:l.length=n):Own (bY cB) ty H0 H b ex (.own b 0 n n 1 ex) l:=⟨_,by rw [hn]; rfl,hb,tT H l,h0⟩
def nl {b off n c sz j:Nat} {x:Bool} {k:IntKind} (h:j<n):cL sz (.own b off n c sz x) (.int k (j:Int))=some (.ptr b (off+j*sz)):=by
 show aN _ (.indexAddr sz (.t 0) (.t 1))=_;simp [aN,fN,h]
theorem Je (b off n c sz:Nat) (x:Bool):lenV (.own b off n c sz x)=some (.int .i64 (n:Int)):=rfl
def Sr {α:Type} {a b:Nat} {x y:α} (h:a<b):(if a<b then x else y)=x:=if_pos h
def uq (o:AOp):Bool:=o.looks || o.isPure
section
variable (tab:Nat->Option au)
def MN (base:Nat) (T:Tm) (i:Nat) (d:jv) (s:DS) (K:DS->Prop):Prop:=match d.cls,d.looks with
 | 0,(k,adds) :: _=>uq d.op=true/\lJ tab (Src.ev T) (dH base s.Es (s.Cs.getD k default) adds) 0 d.op fun v _=>K ⟨s.Vs++[v],s.Cs,s.Es++[none]⟩
 | 1,_=>d.op.makes=true/\lJ tab (Src.ev T) (Heap.nil 0) (base+i) d.op fun v H'=>K ⟨s.Vs++[v],s.Cs,s.Es++[H'.get (base+i)]⟩
 | 2,[(k,adds)]=>lJ tab (Src.ev T) (dH base s.Es (s.Cs.getD k default) adds) (base+i) d.op fun v H'=>K ⟨s.Vs++[v],s.Cs++[H'],s.Es++[none]⟩
 | _,_=>False
def GI (base:Nat) (d:jv) (s:DS) (K:DS->Prop):Prop:=match d.cls,d.looks with
 | 2,[(k,adds)]=>K ⟨s.Vs++[.tup []],s.Cs++[dH base s.Es (s.Cs.getD k default) adds],s.Es++[none]⟩
 | 2,_=>False
 | _,_=>K ⟨s.Vs++[.tup []],s.Cs,s.Es++[none]⟩
def wd (base:Nat) (T0:Tm):Nat->List jv->DS->(DS->Prop)->Prop
 | _,[],s,Q=>Q s
 | i,d :: ds,s,Q=>match cg (cw T0 s.Vs d.uses) d.guard with
  | none=>False
  | some true=>MN tab base (cw T0 s.Vs d.uses) i d s fun s'=>wd base T0 (i+1) ds s' Q
  | some false=>GI base d s fun s'=>wd base T0 (i+1) ds s' Q
end
section
variable {tab:Nat->Option au}
def EC {base i:Nat} {T0:Tm} {d:jv} {s:DS} {K:DS->Prop} (c:cg (cw T0 s.Vs d.uses) d.guard=some true) (h:MN tab base (cw T0 s.Vs d.uses) i d s K) :
  ∃ s',K s'/\∃ N,∀ m n,N<=m->N<=n->jU (lu tab eZ m n) base T0 i d s=some s':=by
 obtain ⟨dst,op,guard,uses,cls,looks⟩:=d;simp only at c;unfold MN at h;simp only at h;split at h
 ·rename_i k adds r;obtain ⟨a,h⟩:=h;have h:=h.run;obtain ⟨v,H',b,N,g⟩:=l8 h;refine ⟨_,b,N,fun m n hm hn=>?_⟩;have g:=g m n hm hn;unfold jU;simp only [c];cases hp:aN (Src.ev (cw T0 s.Vs uses)) op with
  | some w =>
   have:Ab (lu tab eZ m n) (Src.ev (cw T0 s.Vs uses)) (dH base s.Es (s.Cs.getD k default) adds) 0 op=some (w,dH base s.Es (s.Cs.getD k default) adds):=by
    cases op <;> first | (simp only [Ab,hp]; done) | (simp [aN] at hp; done)
   rw [this] at g;cases g; rfl
  | none =>
   have hh:bg (Src.ev (cw T0 s.Vs uses)) (dH base s.Es (s.Cs.getD k default) adds) 0 op=some (v,H'):=by
    cases op <;> first | (simp only [Ab,hp] at g; exact g) | (simp [uq,AOp.looks,AOp.isPure] at a; done)
   have hl:op.looks=true:=by
    cases op <;> first | rfl | (simp [bg] at hh; done) | (simp [uq,AOp.looks,AOp.isPure] at a; done)
   simp only [hh,hl,if_true]
 ·obtain ⟨a,h⟩:=h;have h:=h.run;obtain ⟨v,H',b,N,g⟩:=l8 h;refine ⟨_,b,N,fun m n hm hn=>?_⟩;have g:=g m n hm hn;unfold jU;simp only [c,a,if_true];have hp:aN (Src.ev (cw T0 s.Vs uses)) op=none:=by cases op <;> first | rfl | (simp [AOp.makes] at a; done)
  have hh:bg (Src.ev (cw T0 s.Vs uses)) (Heap.nil 0) (base+i) op=some (v,H'):=by
   cases op <;> first | (simp only [Ab,hp] at g; exact g) | (simp [AOp.makes] at a; done)
  simp only [hh]
 ·have h:=h.run;obtain ⟨v,H',b,N,g⟩:=l8 h;refine ⟨_,b,N,fun m n hm hn=>?_⟩;have g:=g m n hm hn;unfold jU;simp only [c,g]
 ·exact h.elim
def C0 {cal:oy} {base i:Nat} {T0:Tm} {d:jv} {s:DS} {K:DS->Prop} (a:cg (cw T0 s.Vs d.uses) d.guard=some false) (h:GI base d s K):∃ s',K s'/\∀ cal,jU cal base T0 i d s=some s':=by
 obtain ⟨dst,op,guard,uses,cls,looks⟩:=d;simp only at a;unfold GI at h;simp only at h;split at h
 ·refine ⟨_,h,fun cal=>?_⟩;unfold jU; simp only [a]
 ·exact h.elim
 ·rename_i h1 h2;refine ⟨_,h,fun cal=>?_⟩;unfold jU;simp only [a]
def zb {base:Nat} {T0:Tm}:∀ (ds:List jv) (i:Nat) (s:DS) (Q:DS->Prop),wd tab base T0 i ds s Q->∃ s',Q s'/\∃ N,∀ m n,N<=m->N<=n->tX (lu tab eZ m n) base T0 i ds s=some s'
 | [],i,s,Q,h=>⟨s,h,0,fun _ _ _ _=>rfl⟩
 | d :: ds,i,s,Q,h=>by
  unfold wd at h;split at h
  ·exact h.elim
  ·rename_i f;obtain ⟨s1,h1,g,b⟩:=EC f h;obtain ⟨s2,e,a,c⟩:=zb ds _ _ _ h1;refine ⟨s2,e,g+a,fun m n hm hn=>?_⟩;unfold tX;rw [b m n zO zO];exact c m n zO zO
  ·rename_i f;obtain ⟨s1,h1,b⟩:=C0 (cal:=Tg) (i:=i) f h;obtain ⟨s2,e,a,c⟩:=zb ds _ _ _ h1;refine ⟨s2,e,a,fun m n hm hn=>?_⟩;unfold tX;rw [b];exact c m n hm hn
structure WD (tab:Nat->Option au) (base:Nat) (T0:Tm) (i:Nat) (ds:List jv) (s:DS) (Q:DS->Prop):Prop where
 run:wd tab base T0 i ds s Q
def CU:WD=wd:=by funext tab b T0 i ds s Q; exact propext ⟨fun h=>h.run,fun h=>⟨h⟩⟩
def AV.beq_refl':∀ v:AV,AV.beq v v=true:=by
 intro v
 induction v using AV.rec (motive_2:=fun l=>AV.beqs l l=true) with
 | undef=>rfl
 | bool b=>simp [AV.beq]
 | int k n=>simp [AV.beq]
 | str s=>simp [AV.beq]
 | nilPtr=>rfl
 | nilSl=>rfl
 | nilFn=>rfl
 | nilIf=>rfl
 | nilMap=>rfl
 | agg cs d=>simpa [AV.beq] using d
 | tup cs d=>simpa [AV.beq] using d
 | sl cs n d=>simpa [AV.beq] using d
 | dp cs n d=>simpa [AV.beq] using d
 | own b off n c sz ex=>simp [AV.beq]
 | ptr b off=>simp [AV.beq]
 | fn f a b e g=>simp [AV.beq,e,g]
 | ifc t v d=>simp [AV.beq,d]
 | map b=>simp [AV.beq]
 | loopv b=>simp [AV.beq]
 | nil=>rfl
 | cons a l e h=>simp [AV.beqs,e,h]
def ly (tab:Nat->Option au) (base:Nat) (T:Tm) (Cs:List Heap) (Es:List (Option Ent)) (op:AOp) (w:AV):List (Nat × List Nat)->Prop
 | []=>True
 | (k,adds) :: r=>lJ tab (Src.ev T) (dH base Es (Cs.getD k default) adds) 0 op (fun v _=>v=w)/\ly tab base T Cs Es op w r
def HJ (tab:Nat->Option au) (base:Nat) (T0:Tm) (Vs:List AV) (Cs:List Heap) (Es:List (Option Ent)) (i:Nat) (d:jv):Prop:=match d.cls with
 | 0=>match d.guard with
  | none=>uq d.op=true/\ly tab base (cw T0 Vs d.uses) Cs Es d.op (Vs.getD i .undef) d.looks
  | some p=>mI (aa (cw T0 Vs d.uses) p.1) p.2 (uq d.op=true/\ly tab base (cw T0 Vs d.uses) Cs Es d.op (Vs.getD i .undef) d.looks) True () ()
 | _+1=>True
def jR (tab:Nat->Option au) (base:Nat) (T0:Tm) (Vs:List AV) (Cs:List Heap) (Es:List (Option Ent)):Nat->List jv->Prop
 | _,[]=>True
 | i,d :: ds=>HJ tab base T0 Vs Cs Es i d/\jR tab base T0 Vs Cs Es (i+1) ds
def GJ (T:Tm) (t:Nat) (w:Bool):cg T (some (t,w))=match aa T t with | .bool b=>some (b == w) | .tup []=>some false | _=>none:=by
 unfold aa;rw [Vh];cases h:T[t]? with
 | none=>simp only [cg,h]; rfl
 | some v =>
  simp only [cg,h,WX];cases v with
  | tup vs=>cases vs <;> rfl
  | _=>rfl
def rg {base:Nat} {T:Tm} {Cs:List Heap} {Es:List (Option Ent)} {op:AOp} {w:AV} (a:uq op=true) (hp:aN (Src.ev T) op=none):∀ {looks:List (Nat × List Nat)},ly tab base T Cs Es op w looks->(looks.all fun p=>match bg (Src.ev T) (dH base Es (Cs.getD p.1 default) p.2) 0 op with | some (v,_)=>AV.beq v w | none=>false)=true
 | [],_=>rfl
 | (k,adds) :: r,h=>by
  obtain ⟨h1,h2⟩:=h;obtain ⟨v,H',rfl,N,g⟩:=l8 h1.run;have g:=g N N (Vo _) (Vo _);have hh:bg (Src.ev T) (dH base Es (Cs.getD k default) adds) 0 op=some (v,H'):=by
   cases op <;> first | (simp only [Ab,hp] at g; exact g) | (simp [uq,AOp.looks,AOp.isPure] at a; done)
  rw [List.all_cons,rg a hp h2];simp only [hh,AV.beq_refl',Bool.and_true]
def DF {base:Nat} {T0:Tm} {s:DS} {i:Nat} {d:jv} (h:HJ tab base T0 s.Vs s.Cs s.Es i d):kn base T0 s i d=true:=by
 obtain ⟨dst,op,g,us,c,looks⟩:=d;cases c with
 | succ c=>rfl
 | zero =>
  cases g with
  | none =>
   obtain ⟨a,h1⟩:=h;unfold kn;simp only [show cg (cw T0 s.Vs us) none=some true from rfl];cases hp:aN (Src.ev (cw T0 s.Vs us)) op with
   | some v=>rfl
   | none=>exact rg a hp h1
  | some p =>
   obtain ⟨t,w⟩:=p;unfold HJ mI at h;simp only at h;unfold kn;simp only [GJ];cases hg:aa (cw T0 s.Vs us) t with
   | bool b =>
    rw [hg] at h;simp only at h;by_cases hb:b=w
    ·rw [if_pos hb] at h;subst hb;simp only [beq_self_eq_true];cases hp:aN (Src.ev (cw T0 s.Vs us)) op with
     | some v=>rfl
     | none=>exact rg h.1 hp h.2
    ·have:(b == w)=false:=by simpa using hb
     simp only [this]
   | tup vs=>cases vs <;> rfl
   | _=>rw [hg] at h; exact h.elim
def uQ {base:Nat} {T0:Tm} {s:DS}:∀ (ds:List jv) (i:Nat),jR tab base T0 s.Vs s.Cs s.Es i ds->lP base T0 s i ds=true
 | [],i,_=>rfl
 | d :: ds,i,h=>by
  unfold lP;rw [uQ ds _ h.2,DF h.1]; rfl
def TE (tab:Nat->Option au) (base:Nat) (T0:Tm) (ds:List jv) (late:List Nat) (Q:Tm->Heap->Prop) (s:DS):Prop:=jR tab base T0 s.Vs s.Cs s.Es 0 ds/\Q (gD T0 ds s.Vs) (dH base s.Es (s.Cs.getLastD default) late)
def aM {rd:Bool} {ds:List jv} {late:List Nat} {T:Tm} {H:Heap} {Q:Ex->Tm->Heap->Prop} (h:WD tab H.next T 0 ds ⟨[],[H.up ds.length],[]⟩ (TE tab H.next T ds late (Q .nrm))):WC tab rd (.draw ds late) T H Q:=by
 obtain ⟨s,⟨hs,a⟩,N,g⟩:=zb _ _ _ _ h.run;have hs:=uQ _ _ hs;refine ⟨.nrm,_,_,⟨N,fun m n hm hn=>?_⟩,a⟩;simp only [aI,FQ];rw [show ({ H with next:=H.next+ds.length }:Heap)=H.up ds.length from rfl,g m n hm hn];simp only [hs,if_true]
variable {base i k:Nat} {T0:Tm} {dst:Option Nat} {op:AOp} {us:List (Nat × Option Nat)} {adds:List Nat} {r:List (Nat × List Nat)} {ds:List jv} {Vs:List AV} {Cs:List Heap} {Es:List (Option Ent)} {Q:DS->Prop}
theorem RH:WD tab base T0 i [] ⟨Vs,Cs,Es⟩ Q=Q ⟨Vs,Cs,Es⟩:=by rw [CU]; rfl
theorem PI:WD tab base T0 i (⟨dst,op,none,us,0,(k,adds) :: r⟩ :: ds) ⟨Vs,Cs,Es⟩ Q=(uq op=true/\lJ tab (Src.ev (cw T0 Vs us)) (dH base Es (Cs.getD k default) adds) 0 op fun v _=>WD tab base T0 (i+1) ds ⟨Vs++[v],Cs,Es++[none]⟩ Q):=by rw [CU]; rfl
def PH:WD tab base T0 i (⟨dst,op,none,us,1,r⟩ :: ds) ⟨Vs,Cs,Es⟩ Q=(op.makes=true/\lJ tab (Src.ev (cw T0 Vs us)) (Heap.nil 0) (base+i) op fun v H'=>WD tab base T0 (i+1) ds ⟨Vs++[v],Cs,Es++[H'.get (base+i)]⟩ Q):=by
 rw [CU]
 conv=>lhs; unfold wd
 cases r <;> rfl
theorem RI:WD tab base T0 i (⟨dst,op,none,us,2,[(k,adds)]⟩ :: ds) ⟨Vs,Cs,Es⟩ Q=lJ tab (Src.ev (cw T0 Vs us)) (dH base Es (Cs.getD k default) adds) (base+i) op fun v H'=>WD tab base T0 (i+1) ds ⟨Vs++[v],Cs++[H'],Es++[none]⟩ Q:=by rw [CU]; rfl
def MM {t:Nat} {w:Bool}:WD tab base T0 i (⟨dst,op,some (t,w),us,0,(k,adds) :: r⟩ :: ds) ⟨Vs,Cs,Es⟩ Q =
  mI (aa (cw T0 Vs us) t) w (uq op=true/\lJ tab (Src.ev (cw T0 Vs us)) (dH base Es (Cs.getD k default) adds) 0 op fun v _=>WD tab base T0 (i+1) ds ⟨Vs++[v],Cs,Es++[none]⟩ Q) (WD tab base T0 (i+1) ds ⟨Vs++[.tup []],Cs,Es++[none]⟩ Q) () ():=by
 rw [CU];have a:cg (cw T0 Vs us) (some (t,w))=match aa (cw T0 Vs us) t with | .bool b=>some (b == w) | .tup []=>some false | _=>none:=by
  generalize cw T0 Vs us=T
  unfold aa;rw [Vh];cases h:T[t]? with
  | none=>simp only [cg,h]; rfl
  | some v =>
   simp only [cg,h,WX];cases v with
   | tup vs=>cases vs <;> rfl
   | _=>rfl
 conv=>lhs; unfold wd
 simp only [a,mI];cases aa (cw T0 Vs us) t with
 | bool b=>cases b <;> cases w <;> rfl
 | tup vs=>cases vs <;> rfl
 | _=>rfl
theorem MW (T0:Tm) (Vs:List AV):cw T0 Vs []=List.replicate T0.length .undef:=rfl
theorem MV (T0:Tm) (Vs:List AV) (u:Nat × Option Nat):cw T0 Vs [u]=(List.replicate T0.length .undef).set u.1 (mV T0 Vs u):=rfl
theorem MU (T0:Tm) (Vs:List AV) (u v:Nat × Option Nat):cw T0 Vs [u,v]=((List.replicate T0.length .undef).set u.1 (mV T0 Vs u)).set v.1 (mV T0 Vs v):=rfl
theorem GO (T0:Tm) (Vs:List AV) (u v w:Nat × Option Nat):cw T0 Vs [u,v,w]=(((List.replicate T0.length .undef).set u.1 (mV T0 Vs u)).set v.1 (mV T0 Vs v)).set w.1 (mV T0 Vs w):=rfl
theorem MR (T0:Tm) (Vs:List AV) (n:Nat):mV T0 Vs (n,none)=aa T0 n:=rfl
theorem MT (T0:Tm) (Vs:List AV) (n j:Nat):mV T0 Vs (n,some j)=Vs.getD j .undef:=rfl
theorem sC (base:Nat) (Es:List (Option Ent)) (C:Heap):dH base Es C []=C:=rfl
theorem pQ (base:Nat) (Es:List (Option Ent)) (C:Heap) (a:Nat) (l:List Nat):dH base Es C (a :: l)=dH base Es (match Es.getD a none with | some e=>C.put (base+a) e | none=>C) l:=rfl
theorem iN (T:Tm) (d:jv) (ds:List jv) (v:AV) (vs:List AV):gD T (d :: ds) (v :: vs)=gD (putT T d.dst v) ds vs:=rfl
theorem jM (T:Tm) (vs:List AV):gD T [] vs=T:=by cases vs <;> rfl
theorem Qz {base:Nat} {T0:Tm} {ds:List jv} {late:List Nat} {Q:Tm->Heap->Prop}:TE tab base T0 ds late Q ⟨Vs,Cs,Es⟩=(jR tab base T0 Vs Cs Es 0 ds/\Q (gD T0 ds Vs) (dH base Es (Cs.getLastD default) late)):=rfl
theorem Sj {Vs:List AV} {Cs:List Heap} {Es:List (Option Ent)} {i:Nat}:jR tab base T0 Vs Cs Es i []=True:=rfl
def Qk {g:Option (Nat × Bool)} {r:List (Nat × List Nat)}:jR tab base T0 Vs Cs Es i (⟨dst,op,g,us,1,r⟩ :: ds)=jR tab base T0 Vs Cs Es (i+1) ds:=by
 show (True/\_)=_
 simp
def Qj {g:Option (Nat × Bool)} {r:List (Nat × List Nat)}:jR tab base T0 Vs Cs Es i (⟨dst,op,g,us,2,r⟩ :: ds)=jR tab base T0 Vs Cs Es (i+1) ds:=by
 show (True/\_)=_
 simp
theorem Qi {r:List (Nat × List Nat)}:jR tab base T0 Vs Cs Es i (⟨dst,op,none,us,0,r⟩ :: ds)=((uq op=true/\ly tab base (cw T0 Vs us) Cs Es op (Vs.getD i .undef) r)/\jR tab base T0 Vs Cs Es (i+1) ds):=rfl
theorem NZ {t:Nat} {w:Bool} {r:List (Nat × List Nat)}:jR tab base T0 Vs Cs Es i (⟨dst,op,some (t,w),us,0,r⟩ :: ds)=(mI (aa (cw T0 Vs us) t) w (uq op=true/\ly tab base (cw T0 Vs us) Cs Es op (Vs.getD i .undef) r) True () ()/\jR tab base T0 Vs Cs Es (i+1) ds):=rfl
theorem Sn {T:Tm} {w:AV}:ly tab base T Cs Es op w []=True:=rfl
theorem Qo {T:Tm} {w:AV} {r:List (Nat × List Nat)}:ly tab base T Cs Es op w ((k,adds) :: r)=(lJ tab (Src.ev T) (dH base Es (Cs.getD k default) adds) 0 op (fun v _=>v=w)/\ly tab base T Cs Es op w r):=rfl
theorem Rh {x:Src}:uq (.mv x)=true:=rfl
theorem Mg {a b c:Src}:uq (.pick a b c)=true:=rfl
theorem JT {z:List AV} {ps:List ((Nat × Nat) × Src)}:uq (.build z ps)=true:=rfl
theorem JR {x:Src}:uq (.nilCheck x)=true:=rfl
theorem Pj {o:BinOp} {k:BK} {x y:Src}:uq (.bin o k x y)=true:=rfl
theorem Rg {o:UnOp} {x:Src}:uq (.un o x)=true:=rfl
theorem Mj {k:IntKind} {x:Src}:uq (.conv k x)=true:=rfl
theorem Mh {f:Fn} {a b:List Src}:uq (.mkfn f a b)=true:=rfl
theorem JQ {n:Nat} {x:Src} {a b c:Option Src}:uq (.slice n x a b c)=true:=rfl
theorem Ri {n:Nat} {x:Src}:uq (.fieldAddr n x)=true:=rfl
theorem JS {k:Option Nat} {n:Nat} {x:Src}:uq (.field k n x)=true:=rfl
theorem Ph {n:Nat} {x y:Src}:uq (.indexAddr n x y)=true:=rfl
theorem Pi {n:Nat} {x:Src}:uq (.extract n x)=true:=rfl
theorem Pg {x:Src}:uq (.len x)=true:=rfl
theorem Mi {k:Option Nat} {x:Src}:uq (.load k x)=true:=rfl
theorem Pe {xs:List Src}:uq (.min xs)=true:=rfl
theorem Pf {xs:List Src}:uq (.max xs)=true:=rfl
theorem K3 {n:Nat} {z:List AV}:AOp.makes (.alloc n z)=true:=rfl
theorem Qg {n:Nat} {x:Src}:AOp.makes (.box n x)=true:=rfl
theorem Sh {n m k:Nat} {z:List AV} {ps:List ((Nat × Nat) × Src)}:AOp.makes (.buildSlice n m z k ps)=true:=rfl
theorem NW {n m k:Nat} {z:List AV} {a b:Src}:AOp.makes (.mksl n m k z a b)=true:=rfl
end
def aA {c d:Prop} (a:c) (b:d):c/\d:=⟨a,b⟩
def aB {d e f:Prop} (a:d) (b:e) (c:f):d/\e/\f:=⟨a,b,c⟩
def aV {e f g h:Prop} (a:e) (b:f) (c:g) (d:h):e/\f/\g/\h:=⟨a,b,c,d⟩
def cp {f g h i j:Prop} (a:f) (b:g) (c:h) (d:i) (e:j):f/\g/\h/\i/\j:=⟨a,b,c,d,e⟩
def eF {g h i j k l:Prop} (a:g) (b:h) (c:i) (d:j) (e:k) (f:l):g/\h/\i/\j/\k/\l:=⟨a,b,c,d,e,f⟩
def gS {h i j k l m G1:Prop} (a:h) (b:i) (c:j) (d:k) (e:l) (f:m) (g:G1):h/\i/\j/\k/\l/\m/\G1:=⟨a,b,c,d,e,f,g⟩
def jY {i j k l m n G1 o:Prop} (a:i) (b:j) (c:k) (d:l) (e:m) (f:n) (g:G1) (h:o):i/\j/\k/\l/\m/\n/\G1/\o:=⟨a,b,c,d,e,f,g,h⟩
def lh {j k l m n o G1 p q:Prop} (a:j) (b:k) (c:l) (d:m) (e:n) (f:o) (g:G1) (h:p) (i:q):j/\k/\l/\m/\n/\o/\G1/\p/\q:=⟨a,b,c,d,e,f,g,h,i⟩
def ur {k l m n o p G1 q r s:Prop} (a:k) (b:l) (c:m) (d:n) (e:o) (f:p) (g:G1) (h:q) (i:r) (j:s):k/\l/\m/\n/\o/\p/\G1/\q/\r/\s:=⟨a,b,c,d,e,f,g,h,i,j⟩
def sG {l m n o p q G1 r s t u:Prop} (a:l) (b:m) (c:n) (d:o) (e:p) (f:q) (g:G1) (h:r) (i:s) (j:t) (k:u):l/\m/\n/\o/\p/\q/\G1/\r/\s/\t/\u:=⟨a,b,c,d,e,f,g,h,i,j,k⟩
def By {m n o p q r G1 s t u v w:Prop} (a:m) (b:n) (c:o) (d:p) (e:q) (f:r) (g:G1) (h:s) (i:t) (j:u) (k:v) (l:w):m/\n/\o/\p/\q/\r/\G1/\s/\t/\u/\v/\w:=⟨a,b,c,d,e,f,g,h,i,j,k,l⟩
def Mm {n o p q r s G1 t u v w x y:Prop} (a:n) (b:o) (c:p) (d:q) (e:r) (f:s) (g:G1) (h:t) (i:u) (j:v) (k:w) (l:x) (m:y):n/\o/\p/\q/\r/\s/\G1/\t/\u/\v/\w/\x/\y:=⟨a,b,c,d,e,f,g,h,i,j,k,l,m⟩
def Ml {o p q r s t G1 u v w x y z A:Prop} (a:o) (b:p) (c:q) (d:r) (e:s) (f:t) (g:G1) (h:u) (i:v) (j:w) (k:x) (l:y) (m:z) (n:A):o/\p/\q/\r/\s/\t/\G1/\u/\v/\w/\x/\y/\z/\A:=⟨a,b,c,d,e,f,g,h,i,j,k,l,m,n⟩
def Pl {p q r s t u G1 v w x y z A B C:Prop} (a:p) (b:q) (c:r) (d:s) (e:t) (f:u) (g:G1) (h:v) (i:w) (j:x) (k:y) (l:z) (m:A) (n:B) (o:C):p/\q/\r/\s/\t/\u/\G1/\v/\w/\x/\y/\z/\A/\B/\C:=⟨a,b,c,d,e,f,g,h,i,j,k,l,m,n,o⟩
def ST {q r s t u v G1 w x y z A B C D E:Prop} (a:q) (b:r) (c:s) (d:t) (e:u) (f:v) (g:G1) (h:w) (i:x) (j:y) (k:z) (l:A) (m:B) (n:C) (o:D) (p:E):q/\r/\s/\t/\u/\v/\G1/\w/\x/\y/\z/\A/\B/\C/\D/\E:=⟨a,b,c,d,e,f,g,h,i,j,k,l,m,n,o,p⟩
def GB {r s t u v w G1 x y z A B C D E F G:Prop} (a:r) (b:s) (c:t) (d:u) (e:v) (f:w) (g:G1) (h:x) (i:y) (j:z) (k:A) (l:B) (m:C) (n:D) (o:E) (p:F) (q:G):r/\s/\t/\u/\v/\w/\G1/\x/\y/\z/\A/\B/\C/\D/\E/\F/\G:=⟨a,b,c,d,e,f,g,h,i,j,k,l,m,n,o,p,q⟩
def JV {s t u v w x G1 y z A B C D E F G H I:Prop} (a:s) (b:t) (c:u) (d:v) (e:w) (f:x) (g:G1) (h:y) (i:z) (j:A) (k:B) (l:C) (m:D) (n:E) (o:F) (p:G) (q:H) (r:I):s/\t/\u/\v/\w/\x/\G1/\y/\z/\A/\B/\C/\D/\E/\F/\G/\H/\I:=⟨a,b,c,d,e,f,g,h,i,j,k,l,m,n,o,p,q,r⟩
def Rj {t u v w x y G1 z A B C D E F G H I J K:Prop} (a:t) (b:u) (c:v) (d:w) (e:x) (f:y) (g:G1) (h:z) (i:A) (j:B) (k:C) (l:D) (m:E) (n:F) (o:G) (p:H) (q:I) (r:J) (s:K):t/\u/\v/\w/\x/\y/\G1/\z/\A/\B/\C/\D/\E/\F/\G/\H/\I/\J/\K:=⟨a,b,c,d,e,f,g,h,i,j,k,l,m,n,o,p,q,r,s⟩
def SS {u v w x y z G1 A B C D E F G H I J K L T1:Prop} (a:u) (b:v) (c:w) (d:x) (e:y) (f:z) (g:G1) (h:A) (i:B) (j:C) (k:D) (l:E) (m:F) (n:G) (o:H) (p:I) (q:J) (r:K) (s:L) (t:T1):u/\v/\w/\x/\y/\z/\G1/\A/\B/\C/\D/\E/\F/\G/\H/\I/\J/\K/\L/\T1:=⟨a,b,c,d,e,f,g,h,i,j,k,l,m,n,o,p,q,r,s,t⟩
def SR {v w x y z A G1 B C D E F G H I J K L M T1 N:Prop} (a:v) (b:w) (c:x) (d:y) (e:z) (f:A) (g:G1) (h:B) (i:C) (j:D) (k:E) (l:F) (m:G) (n:H) (o:I) (p:J) (q:K) (r:L) (s:M) (t:T1) (u:N):v/\w/\x/\y/\z/\A/\G1/\B/\C/\D/\E/\F/\G/\H/\I/\J/\K/\L/\M/\T1/\N:=⟨a,b,c,d,e,f,g,h,i,j,k,l,m,n,o,p,q,r,s,t,u⟩
def Pk {w x y z A B G1 C D E F G H I J K L M N T1 O P:Prop} (a:w) (b:x) (c:y) (d:z) (e:A) (f:B) (g:G1) (h:C) (i:D) (j:E) (k:F) (l:G) (m:H) (n:I) (o:J) (p:K) (q:L) (r:M) (s:N) (t:T1) (u:O) (v:P):w/\x/\y/\z/\A/\B/\G1/\C/\D/\E/\F/\G/\H/\I/\J/\K/\L/\M/\N/\T1/\O/\P:=⟨a,b,c,d,e,f,g,h,i,j,k,l,m,n,o,p,q,r,s,t,u,v⟩
def qh:=Vi (Vi (Vi (Vi (Vi (Vi (@Nm) (@Nl)) (Vi (@KE) (@KC))) (Vi (Vi (@OP) (@OO)) (Vi (@LQ) (@LS)))) (Vi (Vi (Vi (@Np) (@No)) (Vi (@KG) (@Fo))) (Vi (Vi (@N3) (@La)) (Vi (@K9) (Vi (@Pm) (@Rk)))))) (Vi (Vi (Vi (Vi (@Pv) (@Et)) (Vi (@Pt) (@Ps))) (Vi (Vi (@Rl) (@Mq)) (Vi (@Pq) (@Mr)))) (Vi (Vi (Vi (@yZ) (@CV)) (Vi (@QU) (@Pp))) (Vi (Vi (@Mz) (@Pw)) (Vi (@Ck) (Vi (@UY) (@F8))))))) (Vi (Vi (Vi (Vi (Vi (@AY) (@Pn)) (Vi (@GD) (@SU))) (Vi (Vi (@Pu) (@Rp)) (Vi (@Rq) (@SW)))) (Vi (Vi (Vi (@Mt) (@Rr)) (Vi (@My) (@Ms))) (Vi (Vi (@Mp) (@Pr)) (Vi (@Mo) (Vi (@Rt) (@SV)))))) (Vi (Vi (Vi (Vi (@Bz) (@Rs)) (Vi (@Ro) (@Rm))) (Vi (Vi (@GC) (@JW)) (Vi (@Nz) (Vi (@Ny) (@Oi))))) (Vi (Vi (Vi (@Oh) (@Lt)) (Vi (@Lu) (@PF))) (Vi (Vi (@PE) (@MK)) (Vi (@ML) (Vi (@Mv) (@Er)))))))
def qg:=Vi (Vi (Vi (Vi (Vi (Vi (Vi (@wF) (@Ck)) (Vi (@UY) (@F8))) (Vi (Vi (@AY) (@In)) (Vi (@Dm) (Vi (@IK) (@Lk))))) (Vi (Vi (Vi (@Sy) (@TD)) (Vi (@iM) (Vi (@lS) (@Wx)))) (Vi (Vi (@QK) (@QG)) (Vi (@JK) (Vi (@QH) (@QI)))))) (Vi (Vi (Vi (Vi (@QJ) (@OB)) (Vi (@KW) (Vi (@RN) (@QM)))) (Vi (Vi (@QL) (@DB)) (Vi (@yP) (Vi (@SJ) (@QF))))) (Vi (Vi (Vi (@List.length_set.{0}) (Vi (@if_true.{1}) (@if_true.{0}))) (Vi (Vi (@if_false.{1}) (@if_false.{0})) (Vi (@List.length_cons.{0}) (@List.length_nil.{0})))) (Vi (Vi (@List.map_cons.{0,0}) (@List.map_nil.{0,0})) (Vi (@List.append_nil.{0}) (Vi (@List.nil_append.{0}) (@List.cons_append.{0}))))))) (Vi (Vi (Vi (Vi (Vi (@Option.map_some.{0,0}) (@Option.map_none.{0,0})) (Vi (@YK) (Vi (@Zt) (@XA)))) (Vi (Vi (@decide_eq_true_eq) (@Wy)) (Vi (@decide_eq_false_iff_not) (Vi (@Wo) (@true_or))))) (Vi (Vi (Vi (@or_true) (@true_and)) (Vi (@and_true) (Vi (@false_or) (@or_false)))) (Vi (Vi (@ne_eq.{1}) (@not_false_eq_true)) (Vi (@not_true_eq_false) (Vi (@eq_self.{1}) (@V3)))))) (Vi (Vi (Vi (Vi (@WZ) (@FC)) (Vi (@HW) (Vi (@Im) (@F2)))) (Vi (Vi (@S7) (@Sa)) (Vi (@Qr) (Vi (@cO) (@next_put))))) (Vi (Vi (Vi (@next_kill) (@R5)) (Vi (@R4) (Vi (@R3) (@Nv)))) (Vi (Vi (@KL) (@NA)) (Vi (@Kn) (Vi (@Km) (@Sl)))))))) (Vi (Vi (Vi (Vi (Vi (Vi (@Lg) (@Ss)) (Vi (@ap) (Vi (@al) (@cC)))) (Vi (Vi (@RV) (@N4)) (Vi (@Ux) (Vi (@Uw) (@Uv))))) (Vi (Vi (Vi (@Kt) (@S9)) (Vi (@TC) (Vi (@TB) (@SH)))) (Vi (Vi (@Gf) (@TJ)) (Vi (@aH) (Vi (@aT) (@bf)))))) (Vi (Vi (Vi (Vi (@bS) (@bk)) (Vi (@Nat.add_eq) (Vi (@List.take_zero.{0}) (@List.drop_zero.{0})))) (Vi (Vi (@List.take_succ_cons.{0}) (@List.drop_succ_cons.{0})) (Vi (@List.append_eq.{0}) (Vi (@decide_true) (@decide_false))))) (Vi (Vi (Vi (@Bool.and_true) (@Bool.and_false)) (Vi (@Bool.true_and) (Vi (@Bool.false_and) (@Int.lt_irrefl)))) (Vi (Vi (@TQ) (@TU)) (Vi (@K5) (Vi (@List.set_cons_zero.{0}) (@List.set_cons_succ.{0}))))))) (Vi (Vi (Vi (Vi (Vi (@Int.ofNat_lt) (@Int.ofNat_le)) (Vi (@Int.natCast_inj) (Vi (@Int.natCast_pos) (@Hj)))) (Vi (Vi (@KP) (@List.zip_cons_cons.{0,0})) (Vi (@List.zip_nil_left.{0,0}) (Vi (@List.zip_nil_right.{0,0}) (@Ue))))) (Vi (Vi (Vi (@Ud) (@Uc)) (Vi (@Sx) (Vi (@Lw) (@Qd)))) (Vi (Vi (@Sf) (@St)) (Vi (@Su) (Vi (@SI) (@Sz)))))) (Vi (Vi (Vi (Vi (@RO) (@LZ)) (Vi (@LT) (Vi (@LW) (@LY)))) (Vi (Vi (@xw) (@xv)) (Vi (@Ir) (Vi (@LU) (@oQ))))) (Vi (Vi (Vi (@Le) (@C9)) (Vi (@mH) (Vi (@nl) (@Je)))) (Vi (Vi (@Sr) (@WT)) (Vi (@T8) (Vi (@TZ) (@TA))))))))
def Pc:=Vi (Vi (Vi (@RH) (Vi (@PI) (@MM))) (Vi (@PH) (Vi (@RI) (@Qz)))) (Vi (Vi (@Sj) (Vi (@Qk) (@Qj))) (Vi (Vi (@Qi) (@NZ)) (Vi (@Sn) (@Qo))))
def Pb:=Vi (Vi (Vi (Vi (Vi (@MW) (@MV)) (Vi (@MU) (@GO))) (Vi (Vi (@MR) (@MT)) (Vi (@sC) (Vi (@pQ) (@iN))))) (Vi (Vi (Vi (@jM) (@List.length_replicate.{0})) (Vi (@List.getD_cons_zero.{0}) (@List.getD_cons_succ.{0}))) (Vi (Vi (@List.getLastD_cons.{0}) (@List.getLastD_nil.{0})) (Vi (@Rh) (Vi (@Mg) (@JT)))))) (Vi (Vi (Vi (Vi (@JR) (@Pj)) (Vi (@Rg) (@Mj))) (Vi (Vi (@Mh) (@JQ)) (Vi (@Ri) (Vi (@JS) (@Ph))))) (Vi (Vi (Vi (@Pi) (@Pg)) (Vi (@Mi) (@Pe))) (Vi (Vi (@Pf) (@K3)) (Vi (@Qg) (Vi (@Sh) (@NW))))))
def Us:=Vi (Vi (@Sp) (@Qp)) (Vi (@Ts) (Vi (@So) (@Qq)))
def Uu:=Vi (@RG) (Vi (@S0) (@PG))
def zW {F P Q:Prop} (f:F) (q:Q) (h:F->Q->P:=by intro h q; simp -dsimp (maxSteps:=1000000) (disch:=(first | omega | assumption | exact aH _ | exact aT _ _ | exact bf | exact bS _ _ _ | exact bk _ _ | exact bj _ _ _ _ _ _ | exact bX _ _ | exact bp _)) only [↓qh,qg,Nat.reduceLT,Nat.reduceEqDiff,Nat.reduceAdd,reduceIte,reduceCtorEq,Nat.reduceBEq,Int.reduceEq,Int.reduceLT,Int.reduceLE,Int.reduceAdd,Int.reduceSub,h]; exact q):P:=h f q
def uo {P Q:Prop} (q:Q) (h:Q->P:=by intro q; simp -dsimp (maxSteps:=1000000) (disch:=(first | omega | assumption | exact aH _ | exact aT _ _ | exact bf | exact bS _ _ _ | exact bk _ _ | exact bj _ _ _ _ _ _ | exact bX _ _ | exact bp _)) only [↓qh,qg,Nat.reduceLT,Nat.reduceEqDiff,Nat.reduceAdd,reduceIte,reduceCtorEq,Nat.reduceBEq,Int.reduceEq,Int.reduceLT,Int.reduceLE,Int.reduceAdd,Int.reduceSub]; exact q):P:=h q
def zV {F P:Prop} (f:F) (h:F->P:=by intro h; simp -dsimp (maxSteps:=1000000) (disch:=(first | omega | assumption | exact aH _ | exact aT _ _ | exact bf | exact bS _ _ _ | exact bk _ _ | exact bj _ _ _ _ _ _ | exact bX _ _ | exact bp _)) only [↓qh,qg,Nat.reduceLT,Nat.reduceEqDiff,Nat.reduceAdd,reduceIte,reduceCtorEq,Nat.reduceBEq,Int.reduceEq,Int.reduceLT,Int.reduceLE,Int.reduceAdd,Int.reduceSub,h]):P:=h f
def da {P:Prop} (h:P:=by simp -dsimp (maxSteps:=1000000) (disch:=(first | omega | assumption | exact aH _ | exact aT _ _ | exact bf | exact bS _ _ _ | exact bk _ _ | exact bj _ _ _ _ _ _ | exact bX _ _ | exact bp _)) only [↓qh,qg,Nat.reduceLT,Nat.reduceEqDiff,Nat.reduceAdd,reduceIte,reduceCtorEq,Nat.reduceBEq,Int.reduceEq,Int.reduceLT,Int.reduceLE,Int.reduceAdd,Int.reduceSub]):P:=h
def zD {F P Q:Prop} (f:F) (q:Q) (h:F->Q->P:=by intro h q; simp -dsimp (maxSteps:=1000000) (disch:=(first | omega | assumption | exact aH _ | exact aT _ _ | exact bf | exact bS _ _ _ | exact bk _ _ | exact bj _ _ _ _ _ _ | exact bX _ _ | exact bp _)) only [↓qh,qg,↓Pc,Pb,Nat.reduceLT,Nat.reduceEqDiff,Nat.reduceAdd,reduceIte,reduceCtorEq,Nat.reduceBEq,Int.reduceEq,Int.reduceLT,Int.reduceLE,Int.reduceAdd,Int.reduceSub,h]; exact q):P:=h f q
def zE {F P:Prop} (f:F) (h:F->P:=by intro h; simp -dsimp (maxSteps:=1000000) (disch:=(first | omega | assumption | exact aH _ | exact aT _ _ | exact bf | exact bS _ _ _ | exact bk _ _ | exact bj _ _ _ _ _ _ | exact bX _ _ | exact bp _)) only [↓qh,qg,↓Pc,Pb,Nat.reduceLT,Nat.reduceEqDiff,Nat.reduceAdd,reduceIte,reduceCtorEq,Nat.reduceBEq,Int.reduceEq,Int.reduceLT,Int.reduceLE,Int.reduceAdd,Int.reduceSub,h]):P:=h f
def zK {P:Prop} (h:P:=by first | assumption | simp (disch:=(first | omega | assumption | (simp only [cO,next_put,next_kill]; omega))) only [Us] <;> assumption):P:=h
def zF {P:Prop} (h:P:=by first | assumption | simp (disch:=(first | omega | assumption | (simp only [cO,next_put,next_kill]; omega))) only [Uu] <;> assumption):P:=h
def zU {P:Prop} (h:P:=by decide):P:=h
def zG (A:Heap) {G:Heap} (h:Kp A G:=by first | assumption | simp (disch:=(first | omega | assumption | (simp only [cO,next_put,next_kill]; omega))) only [Us] <;> assumption):Sub A G:=h.sub
def zT (A:Heap) {G C:Heap} (h:Kp A G) (h2:Kp G C):Kp A C/\A.next<=C.next/\Wf C:=⟨h.trans h2,(h.trans h2).le,h2.wf⟩
set_option maxRecDepth 100000
abbrev ee:Nat:=4
abbrev UK:Nat:=3
abbrev fE:Nat:=5
abbrev gf:Nat:=6
abbrev iv:Nat:=7
abbrev wK:Nat:=10
abbrev qS:Nat:=11
abbrev fV:Nat:=9
abbrev UN:Nat:=8
abbrev eT:Nat:=12
abbrev io:Nat:=13
abbrev ip:Nat:=14
abbrev dL:Nat:=15
abbrev oN:Nat:=16
abbrev fz:Nat:=17
abbrev mo:Nat:=18
abbrev pm:Nat:=19
abbrev pn:Nat:=20
abbrev jO:Nat:=22
abbrev bO:Nat:=21
abbrev mB:Nat:=26
abbrev px:Nat:=27
abbrev ia:Nat:=28
abbrev cI:Nat:=30
abbrev qZ:Nat:=29
abbrev fW:Nat:=25
abbrev py:Nat:=24
abbrev uM:Nat:=31
abbrev fD:Nat:=32
abbrev fG:Nat:=33
abbrev eW:Nat:=34
abbrev kw:Nat:=35
abbrev od:Nat:=37
abbrev qX:Nat:=36
abbrev fC:Nat:=38
abbrev cy:Nat:=39
abbrev lv:Nat:=42
abbrev kN:Nat:=44
abbrev bN:Nat:=43
abbrev tH:Nat:=23
abbrev cm:Nat:=45
abbrev qR:Nat:=51
abbrev bQ:Nat:=56
abbrev fF:Nat:=52
abbrev eU:Nat:=53
abbrev mC:Nat:=54
abbrev qY:Nat:=55
abbrev d9:Nat:=49
abbrev dZ:Nat:=50
abbrev rc:Nat:=48
abbrev tF:Nat:=41
abbrev eE:Nat:=57
abbrev eC:Nat:=59
abbrev qW:Nat:=60
abbrev rf:Nat:=61
abbrev bM:Nat:=62
abbrev jQ:Nat:=63
abbrev pC:Nat:=64
abbrev dK:Nat:=65
abbrev ng:Nat:=40
abbrev rZ:Nat:=73
abbrev pq:Nat:=74
abbrev ck:Nat:=75
abbrev bh:Nat:=46
abbrev iW:Nat:=47
abbrev eB:Nat:=82
abbrev eA:Nat:=83
abbrev fY:Nat:=81
abbrev gG:Nat:=77
abbrev gF:Nat:=78
abbrev aS:Nat:=79
abbrev aR:Nat:=80
abbrev Ah:Nat:=72
abbrev UO:Nat:=71
abbrev nh:Nat:=58
abbrev mD:Nat:=86
abbrev re:Nat:=87
abbrev tQ:Nat:=88
abbrev cW:Nat:=89
abbrev mA:Nat:=90
abbrev nT:Nat:=91
abbrev dz:Nat:=92
abbrev jc:Nat:=93
abbrev cj:Nat:=95
abbrev nN:Nat:=66
abbrev ka:Nat:=67
abbrev mr:Nat:=69
abbrev mp:Nat:=68
abbrev nM:Nat:=70
abbrev wH:Nat:=99
abbrev po:Nat:=100
abbrev de:Nat:=76
abbrev fZ:Nat:=101
abbrev pz:Nat:=98
abbrev co:Nat:=84
abbrev my:Nat:=85
abbrev lx:Nat:=103
abbrev gh:Nat:=104
abbrev iI:Nat:=107
abbrev iq:Nat:=108
abbrev nR:Nat:=109
abbrev iH:Nat:=111
abbrev tG:Nat:=110
abbrev wJ:Nat:=94
abbrev ni:Nat:=96
abbrev qM:Nat:=97
abbrev qO:Nat:=120
abbrev gc:Nat:=121
abbrev cE:Nat:=119
abbrev cG:Nat:=102
abbrev pF:Nat:=106
abbrev ky:Nat:=105
abbrev fc:Nat:=122
abbrev nj:Nat:=123
abbrev pD:Nat:=125
abbrev pE:Nat:=124
abbrev cM:Nat:=127
abbrev cH:Nat:=126
abbrev gr:Nat:=128
abbrev qP:Nat:=131
abbrev UP:Nat:=133
abbrev mz:Nat:=132
abbrev nO:Nat:=129
abbrev aY:Nat:=114
abbrev pu:Nat:=115
abbrev kO:Nat:=117
abbrev wO:Nat:=118
abbrev qJ:Nat:=147
abbrev qQ:Nat:=148
abbrev tP:Nat:=149
abbrev qL:Nat:=151
abbrev wI:Nat:=150
abbrev nS:Nat:=152
abbrev cF:Nat:=153
abbrev nP:Nat:=154
abbrev mw:Nat:=155
abbrev nQ:Nat:=157
abbrev cz:Nat:=130
abbrev qN:Nat:=116
abbrev im:Nat:=146
abbrev nV:Nat:=145
abbrev wM:Nat:=168
abbrev wL:Nat:=169
abbrev pt:Nat:=170
abbrev wP:Nat:=173
abbrev nL:Nat:=156
abbrev fe:Nat:=175
abbrev qK:Nat:=144
abbrev pB:Nat:=163
abbrev qV:Nat:=164
abbrev wN:Nat:=166
abbrev tM:Nat:=165
abbrev Ai:Nat:=167
abbrev nU:Nat:=180
abbrev pA:Nat:=181
abbrev i9:Nat:=178
abbrev iX:Nat:=182
abbrev nW:Nat:=184
abbrev wQ:Nat:=185
abbrev jP:Nat:=174
abbrev iY:Nat:=177
abbrev tK:Nat:=179
abbrev qT:Nat:=186
abbrev oi:Nat:=188
abbrev tO:Nat:=189
abbrev dJ:Nat:=190
abbrev Ag:Nat:=191
abbrev gg:Nat:=192
abbrev gH:Nat:=193
abbrev gI:Nat:=194
abbrev tN:Nat:=196
abbrev tJ:Nat:=195
abbrev gE:Nat:=197
abbrev cP:Nat:=198
abbrev i8:Nat:=199
abbrev iZ:Nat:=143
abbrev qU:Nat:=200
abbrev aZ:Nat:=201
abbrev gq:Nat:=3
abbrev m6:Nat:=5
abbrev bH:Nat:=22
abbrev Db:Nat:=24
abbrev ai:Nat:=26
abbrev bJ:Nat:=44
abbrev af:Nat:=49
abbrev t_api_Con:Nat:=51
abbrev sJ:Nat:=56
abbrev ah:Nat:=64
abbrev fy:Nat:=68
abbrev eN:Nat:=72
abbrev aF:Nat:=73
abbrev ad:Nat:=75
abbrev sI:Nat:=80
abbrev fw:Nat:=89
abbrev Da:Nat:=95
abbrev ae:Nat:=110
abbrev aP:Nat:=128
abbrev eM:Nat:=147
abbrev mf:Nat:=169
abbrev aE:Nat:=222
abbrev fT:Nat:=239
theorem TV (n:Nat):Int.ofNat n=(OfNat.ofNat n:Int):=rfl
theorem Tn:Int.negSucc 0 = -1:=rfl
theorem Ty (id id1 i n c k:Nat) (body:ACode):ACode.block id (.loop (.seq (.region [⟨some c,.bin .lss .int (.t i) (.t n),none⟩]) (.seq (.cond (.t c) .skip (.exit id)) (.seq (.block id1 body) (.region [⟨some k,.bin .add .int (.t i) (.c (.int .i64 1)),none⟩,⟨some i,.mv (.t k),none⟩])))))=Og id id1 i n c k body:=rfl
theorem Tz (id:Nat) (c:ACode):ACode.block id (.loop c)=ON id c:=rfl
set_option maxHeartbeats 8000000
def aj (f:Func) (a:au) (_:SF Tryz.prog f=some a:=by conv=>lhs; reduce; dsimp only [↓TV,↓Tn]; (try dsimp only [Ty]); (try dsimp only [Tz])):au:=a
def c_facetroomlaw25_WidenHas:au:=aj Tryz.f4 _
def c_facetroomlaw25_WidenEnds:au:=aj Tryz.f3 _
def jm:au:=aj Tryz.f5 _
def jF:au:=aj Tryz.f6 _
def sS:au:=aj Tryz.f7 _
def CE:au:=aj Tryz.f10 _
def yo:au:=aj Tryz.f11 _
def jA:au:=aj Tryz.f9 _
def UV:au:=aj Tryz.f8 _
def iz:au:=aj Tryz.f12 _
def kV:au:=aj Tryz.f13 _
def kW:au:=aj Tryz.f14 _
def gQ:au:=aj Tryz.f15 _
def CK:au:=aj Tryz.f16 _
def jj:au:=aj Tryz.f17 _
def rx:au:=aj Tryz.f18 _
def vB:au:=⟨2,28,[(4,none)],
 .seq (.region [
 ⟨(some 2),.box t_api_Con (.t 0),none⟩,
 ⟨(some 4),.mv (.c (.str ⟨#[]⟩)),none⟩]) <|
 .seq (.region [
 ⟨(some 8),.mv (.t 1),none⟩,
 ⟨(some 9),.len (.t 8),none⟩,
 ⟨(some 10),.mksl m6 1 1 [(.int .u8 0)] (.t 9) (.t 9),none⟩,
 ⟨(some 5),.mv (.t 10),none⟩]) <|
 .seq (.seq (.region [
 ⟨(some 11),.mv (.t 1),none⟩,
 ⟨(some 12),.len (.t 11),none⟩,
 ⟨(some 13),.mv (.c (.int .i64 0)),none⟩]) <|
 Og 0 1 13 12 14 25
 (.seq (.region [
  ⟨(some 15),.mv (.t 13),none⟩,
  ⟨(some 16),.indexAddr 2 (.t 11) (.t 13),none⟩,
  ⟨(some 17),.load (some 2) (.t 16),none⟩,
  ⟨(some 7),.alloc ah [(.int .u8 0),.nilSl],none⟩,
  ⟨(some 6),.mv (.t 15),none⟩,
  ⟨none,.store 2 (.t 7) (.t 17),none⟩]) <|
 .seq (.region [
  ⟨(some 18),.load (some 2) (.t 2),none⟩,
  ⟨(some 19),.load (some 2) (.t 7),none⟩,
  ⟨(some 20),.call (.c (.fn (.func lv) [] [])) [(.t 18),(.t 19)],none⟩,
  ⟨(some 21),.bin .eql .int (.t 20) (.c (.int .i64 0)),none⟩]) <|
 .cond (.t 21)
  (.region [
  ⟨(some 22),.mv (.t 5),none⟩,
  ⟨(some 23),.mv (.t 6),none⟩,
  ⟨(some 24),.indexAddr 1 (.t 22) (.t 23),none⟩,
  ⟨none,.store 1 (.t 24) (.c (.int .u8 1)),none⟩])
  (.skip))) <|
 .seq (.region [
 ⟨(some 26),.mv (.t 5),none⟩,
 ⟨(some 27),.toStr (.t 26),none⟩,
 ⟨(some 4),.mv (.t 27),none⟩]) <|
 .ret,
 none⟩
def vC:au:=aj Tryz.f20 _
def oV:au:=aj Tryz.f22 _
def cV:au:=aj Tryz.f21 _
def rE:au:=aj Tryz.f26 _
def vM:au:=aj Tryz.f27 _
def vL:au:=aj Tryz.f28 _
def dR:au:=aj Tryz.f30 _
def yy:au:=aj Tryz.f29 _
def jB:au:=aj Tryz.f25 _
def vN:au:=aj Tryz.f24 _
def F9:au:=aj Tryz.f31 _
def jl:au:=aj Tryz.f32 _
def jq:au:=aj Tryz.f33 _
def US:au:=aj Tryz.f34 _
def yw:au:=aj Tryz.f35 _
def c_dual_points:au:=aj Tryz.f37 _
def yx:au:=aj Tryz.f36 _
def jk:au:=aj Tryz.f38 _
def nu:au:=aj Tryz.f39 _
def vA:au:=aj Tryz.f42 _
def p8:au:=aj Tryz.f44 _
def cU:au:=aj Tryz.f43 _
def A4:au:=aj Tryz.f23 _
def dw:au:=aj Tryz.f45 _
def yn:au:=aj Tryz.f51 _
def eP:au:=aj Tryz.f56 _
def jp:au:=aj Tryz.f52 _
def tn:au:=aj Tryz.f53 _
def A9:au:=aj Tryz.f54 _
def c_dual_cons:au:=aj Tryz.f55 _
def ig:au:=aj Tryz.f49 _
def ie:au:=aj Tryz.f50 _
def yz:au:=aj Tryz.f48 _
def AZ:au:=aj Tryz.f41 _
def il:au:=aj Tryz.f57 _
def ik:au:=aj Tryz.f59 _
def yv:au:=aj Tryz.f60 _
def c_cone_Gens:au:=aj Tryz.f61 _
def cT:au:=aj Tryz.f62 _
def o0:au:=aj Tryz.f63 _
def vQ:au:=aj Tryz.f64 _
def gP:au:=aj Tryz.f65 _
def yj:au:=aj Tryz.f40 _
def CC:au:=aj Tryz.f73 _
def vF:au:=aj Tryz.f74 _
def du:au:=aj Tryz.f75 _
def bZ:au:=aj Tryz.f46 _
def vG:au:=aj Tryz.f47 _
def ij:au:=aj Tryz.f82 _
def ii:au:=aj Tryz.f83 _
def jC:au:=aj Tryz.f81 _
def rH:au:=aj Tryz.f77 _
def rG:au:=aj Tryz.f78 _
def bE:au:=aj Tryz.f79 _
def bD:au:=aj Tryz.f80 _
def Gb:au:=aj Tryz.f72 _
def vE:au:=aj Tryz.f71 _
def ym:au:=aj Tryz.f58 _
def c_cone_checked:au:=aj Tryz.f86 _
def yC:au:=aj Tryz.f87 _
def Bh:au:=aj Tryz.f88 _
def c_P_cone_under_add:au:=aj Tryz.f89 _
def rD:au:=aj Tryz.f90 _
def tf:au:=aj Tryz.f91 _
def dC:au:=⟨2,2,[],.skip,(some (.sortF af [jc]))⟩
def rI:au:=aj Tryz.f93 _
def dt:au:=aj Tryz.f95 _
def sX:au:=aj Tryz.f66 _
def sV:au:=aj Tryz.f67 _
def ry:au:=aj Tryz.f69 _
def A2:au:=aj Tryz.f68 _
def sW:au:=aj Tryz.f70 _
def CA:au:=aj Tryz.f99 _
def vD:au:=aj Tryz.f100 _
def fp:au:=aj Tryz.f76 _
def jD:au:=aj Tryz.f101 _
def A5:au:=aj Tryz.f98 _
def dx:au:=aj Tryz.f84 _
def rB:au:=aj Tryz.f85 _
def vK:au:=aj Tryz.f103 _
def jH:au:=aj Tryz.f104 _
def c_P_cone_under_cut:au:=aj Tryz.f107 _
def c_P_cone_under_fold:au:=aj Tryz.f108 _
def s9:au:=aj Tryz.f109 _
def mQ:au:=aj Tryz.f111 _
def A3:au:=aj Tryz.f110 _
def CD:au:=aj Tryz.f94 _
def yr:au:=aj Tryz.f96 _
def yg:au:=aj Tryz.f97 _
def yi:au:=aj Tryz.f120 _
def jE:au:=aj Tryz.f121 _
def fR:au:=aj Tryz.f119 _
def dP:au:=aj Tryz.f102 _
def Bg:au:=aj Tryz.f106 _
def yA:au:=aj Tryz.f105 _
def lc:au:=aj Tryz.f122 _
def yB:au:=aj Tryz.f123 _
def Bc:au:=aj Tryz.f125 _
def Be:au:=aj Tryz.f124 _
def dW:au:=aj Tryz.f127 _
def dQ:au:=aj Tryz.f126 _
def c_P_rows_form_put:au:=aj Tryz.f128 _
def yl:au:=aj Tryz.f131 _
def vJ:au:=aj Tryz.f133 _
def rC:au:=aj Tryz.f132 _
def sY:au:=aj Tryz.f129 _
def bR:au:=aj Tryz.f114 _
def vI:au:=aj Tryz.f115 _
def p9:au:=aj Tryz.f117 _
def CI:au:=aj Tryz.f118 _
def yd:au:=aj Tryz.f147 _
def c_sat_Signs:au:=aj Tryz.f148 _
def Bf:au:=aj Tryz.f149 _
def yf:au:=aj Tryz.f151 _
def CB:au:=aj Tryz.f150 _
def td:au:=aj Tryz.f152 _
def dO:au:=⟨3,3,[],
 .skip,
 (some (.insert 1 24 af))⟩
def sZ:au:=aj Tryz.f154 _
def rz:au:=aj Tryz.f155 _
def s8:au:=aj Tryz.f157 _
def fq:au:=aj Tryz.f130 _
def yh:au:=aj Tryz.f116 _
def kU:au:=aj Tryz.f146 _
def tj:au:=aj Tryz.f145 _
def CG:au:=aj Tryz.f168 _
def CF:au:=aj Tryz.f169 _
def vH:au:=aj Tryz.f170 _
def CJ:au:=aj Tryz.f173 _
def sU:au:=aj Tryz.f156 _
def oY:au:=aj Tryz.f175 _
def ye:au:=aj Tryz.f144 _
def vP:au:=aj Tryz.f163 _
def yu:au:=aj Tryz.f164 _
def CH:au:=aj Tryz.f166 _
def A8:au:=aj Tryz.f165 _
def Gc:au:=aj Tryz.f167 _
def tg:au:=aj Tryz.f180 _
def vO:au:=aj Tryz.f181 _
def nC:au:=⟨3,3,[],
 .skip,
 (some .add64)⟩
def nw:au:=⟨3,3,[],
 .skip,
 (some .sub64)⟩
def tl:au:=aj Tryz.f184 _
def CL:au:=aj Tryz.f185 _
def oX:au:=aj Tryz.f174 _
def ny:au:=aj Tryz.f177 _
def A7:au:=aj Tryz.f179 _
def yp:au:=aj Tryz.f186 _
def tq:au:=aj Tryz.f188 _
def Bb:au:=aj Tryz.f189 _
def gO:au:=aj Tryz.f190 _
def Ga:au:=aj Tryz.f191 _
def jG:au:=aj Tryz.f192 _
def kF:au:=aj Tryz.f193 _
def kI:au:=aj Tryz.f194 _
def Ba:au:=aj Tryz.f196 _
def A6:au:=aj Tryz.f195 _
def rF:au:=aj Tryz.f197 _
def eQ:au:=aj Tryz.f198 _
def nB:au:=aj Tryz.f199 _
def nz:au:=⟨1,25,[(2,none)],
 .seq (.region [
 ⟨(some 2),.mv (.c (.int .i64 0)),none⟩]) <|
 .seq (.seq (.region [
 ⟨(some 3),.mv (.t 0),none⟩,
 ⟨(some 4),.bin .geq .int (.t 3) (.c (.int .u64 4294967296)),none⟩]) <|
 .cond (.t 4)
 (.seq (.region [
  ⟨(some 5),.mv (.t 0),none⟩,
  ⟨(some 6),.bin .shr .int (.t 5) (.c (.int .u64 32)),none⟩,
  ⟨(some 0),.mv (.t 6),none⟩]) <|
 .region [
  ⟨(some 2),.mv (.c (.int .i64 32)),none⟩])
 (.skip)) <|
 .seq (.seq (.region [
 ⟨(some 7),.mv (.t 0),none⟩,
 ⟨(some 8),.bin .geq .int (.t 7) (.c (.int .u64 65536)),none⟩]) <|
 .cond (.t 8)
 (.seq (.region [
  ⟨(some 9),.mv (.t 0),none⟩,
  ⟨(some 10),.bin .shr .int (.t 9) (.c (.int .u64 16)),none⟩,
  ⟨(some 0),.mv (.t 10),none⟩]) <|
 .region [
  ⟨(some 11),.mv (.t 2),none⟩,
  ⟨(some 12),.bin .add .int (.t 11) (.c (.int .i64 16)),none⟩,
  ⟨(some 2),.mv (.t 12),none⟩])
 (.skip)) <|
 .seq (.seq (.region [
 ⟨(some 13),.mv (.t 0),none⟩,
 ⟨(some 14),.bin .geq .int (.t 13) (.c (.int .u64 256)),none⟩]) <|
 .cond (.t 14)
 (.seq (.region [
  ⟨(some 15),.mv (.t 0),none⟩,
  ⟨(some 16),.bin .shr .int (.t 15) (.c (.int .u64 8)),none⟩,
  ⟨(some 0),.mv (.t 16),none⟩]) <|
 .region [
  ⟨(some 17),.mv (.t 2),none⟩,
  ⟨(some 18),.bin .add .int (.t 17) (.c (.int .i64 8)),none⟩,
  ⟨(some 2),.mv (.t 18),none⟩])
 (.skip)) <|
 .seq (.region [
 ⟨(some 19),.mv (.t 2),none⟩,
 ⟨(some 20),.mv (.t 0),none⟩,
 ⟨(some 21),.conv .u8 (.t 20),none⟩,
 ⟨(some 22),.indexStr (.c (.str ⟨#[0,1,2,2,3,3,3,3,4,4,4,4,4,4,4,4,5,5,5,5,5,5,5,5,5,5,5,5,5,5,5,5,6,6,6,6,6,6,6,6,6,6,6,6,6,6,6,6,6,6,6,6,6,6,6,6,6,6,6,6,6,6,6,6,7,7,7,7,7,7,7,7,7,7,7,7,7,7,7,7,7,7,7,7,7,7,7,7,7,7,7,7,7,7,7,7,7,7,7,7,7,7,7,7,7,7,7,7,7,7,7,7,7,7,7,7,7,7,7,7,7,7,7,7,7,7,7,7,8,8,8,8,8,8,8,8,8,8,8,8,8,8,8,8,8,8,8,8,8,8,8,8,8,8,8,8,8,8,8,8,8,8,8,8,8,8,8,8,8,8,8,8,8,8,8,8,8,8,8,8,8,8,8,8,8,8,8,8,8,8,8,8,8,8,8,8,8,8,8,8,8,8,8,8,8,8,8,8,8,8,8,8,8,8,8,8,8,8,8,8,8,8,8,8,8,8,8,8,8,8,8,8,8,8,8,8,8,8,8,8,8,8,8,8,8,8,8,8,8,8,8,8,8,8,8,8]⟩)) (.t 21),none⟩,
 ⟨(some 23),.conv .i64 (.t 22),none⟩,
 ⟨(some 24),.bin .add .int (.t 19) (.t 23),none⟩,
 ⟨(some 2),.mv (.t 24),none⟩]) <|
 .ret,
 none⟩
def yq:au:=aj Tryz.f200 _
def dF:au:=aj Tryz.f201 _
structure Code (tab:Nat->Option au):Prop where
 q0:tab ee=some c_facetroomlaw25_WidenHas
 q1:tab UK=some c_facetroomlaw25_WidenEnds
 q2:tab fE=some jm
 q3:tab gf=some jF
 q4:tab iv=some sS
 q5:tab wK=some CE
 q6:tab qS=some yo
 q7:tab fV=some jA
 q8:tab UN=some UV
 q9:tab eT=some iz
 q10:tab io=some kV
 q11:tab ip=some kW
 q12:tab dL=some gQ
 q13:tab oN=some CK
 q14:tab fz=some jj
 q15:tab mo=some rx
 q16:tab pm=some vB
 q17:tab pn=some vC
 q18:tab jO=some oV
 q19:tab bO=some cV
 q20:tab mB=some rE
 q21:tab px=some vM
 q22:tab ia=some vL
 q23:tab cI=some dR
 q24:tab qZ=some yy
 q25:tab fW=some jB
 q26:tab py=some vN
 q27:tab uM=some F9
 q28:tab fD=some jl
 q29:tab fG=some jq
 q30:tab eW=some US
 q31:tab kw=some yw
 q32:tab od=some c_dual_points
 q33:tab qX=some yx
 q34:tab fC=some jk
 q35:tab cy=some nu
 q36:tab lv=some vA
 q37:tab kN=some p8
 q38:tab bN=some cU
 q39:tab tH=some A4
 q40:tab cm=some dw
 q41:tab qR=some yn
 q42:tab bQ=some eP
 q43:tab fF=some jp
 q44:tab eU=some tn
 q45:tab mC=some A9
 q46:tab qY=some c_dual_cons
 q47:tab d9=some ig
 q48:tab dZ=some ie
 q49:tab rc=some yz
 q50:tab tF=some AZ
 q51:tab eE=some il
 q52:tab eC=some ik
 q53:tab qW=some yv
 q54:tab rf=some c_cone_Gens
 q55:tab bM=some cT
 q56:tab jQ=some o0
 q57:tab pC=some vQ
 q58:tab dK=some gP
 q59:tab ng=some yj
 q60:tab rZ=some CC
 q61:tab pq=some vF
 q62:tab ck=some du
 q63:tab bh=some bZ
 q64:tab iW=some vG
 q65:tab eB=some ij
 q66:tab eA=some ii
 q67:tab fY=some jC
 q68:tab gG=some rH
 q69:tab gF=some rG
 q70:tab aS=some bE
 q71:tab aR=some bD
 q72:tab Ah=some Gb
 q73:tab UO=some vE
 q74:tab nh=some ym
 q75:tab mD=some c_cone_checked
 q76:tab re=some yC
 q77:tab tQ=some Bh
 q78:tab cW=some c_P_cone_under_add
 q79:tab mA=some rD
 q80:tab nT=some tf
 q81:tab dz=some dC
 q82:tab jc=some rI
 q83:tab cj=some dt
 q84:tab nN=some sX
 q85:tab ka=some sV
 q86:tab mr=some ry
 q87:tab mp=some A2
 q88:tab nM=some sW
 q89:tab wH=some CA
 q90:tab po=some vD
 q91:tab de=some fp
 q92:tab fZ=some jD
 q93:tab pz=some A5
 q94:tab co=some dx
 q95:tab my=some rB
 q96:tab lx=some vK
 q97:tab gh=some jH
 q98:tab iI=some c_P_cone_under_cut
 q99:tab iq=some c_P_cone_under_fold
 q100:tab nR=some s9
 q101:tab iH=some mQ
 q102:tab tG=some A3
 q103:tab wJ=some CD
 q104:tab ni=some yr
 q105:tab qM=some yg
 q106:tab qO=some yi
 q107:tab gc=some jE
 q108:tab cE=some fR
 q109:tab cG=some dP
 q110:tab pF=some Bg
 q111:tab ky=some yA
 q112:tab fc=some lc
 q113:tab nj=some yB
 q114:tab pD=some Bc
 q115:tab pE=some Be
 q116:tab cM=some dW
 q117:tab cH=some dQ
 q118:tab gr=some c_P_rows_form_put
 q119:tab qP=some yl
 q120:tab UP=some vJ
 q121:tab mz=some rC
 q122:tab nO=some sY
 q123:tab aY=some bR
 q124:tab pu=some vI
 q125:tab kO=some p9
 q126:tab wO=some CI
 q127:tab qJ=some yd
 q128:tab qQ=some c_sat_Signs
 q129:tab tP=some Bf
 q130:tab qL=some yf
 q131:tab wI=some CB
 q132:tab nS=some td
 q133:tab cF=some dO
 q134:tab nP=some sZ
 q135:tab mw=some rz
 q136:tab nQ=some s8
 q137:tab cz=some fq
 q138:tab qN=some yh
 q139:tab im=some kU
 q140:tab nV=some tj
 q141:tab wM=some CG
 q142:tab wL=some CF
 q143:tab pt=some vH
 q144:tab wP=some CJ
 q145:tab nL=some sU
 q146:tab fe=some oY
 q147:tab qK=some ye
 q148:tab pB=some vP
 q149:tab qV=some yu
 q150:tab wN=some CH
 q151:tab tM=some A8
 q152:tab Ai=some Gc
 q153:tab nU=some tg
 q154:tab pA=some vO
 q155:tab i9=some nC
 q156:tab iX=some nw
 q157:tab nW=some tl
 q158:tab wQ=some CL
 q159:tab jP=some oX
 q160:tab iY=some ny
 q161:tab tK=some A7
 q162:tab qT=some yp
 q163:tab oi=some tq
 q164:tab tO=some Bb
 q165:tab dJ=some gO
 q166:tab Ag=some Ga
 q167:tab gg=some jG
 q168:tab gH=some kF
 q169:tab gI=some kI
 q170:tab tN=some Ba
 q171:tab tJ=some A6
 q172:tab gE=some rF
 q173:tab cP=some eQ
 q174:tab i8=some nB
 q175:tab iZ=some nz
 q176:tab qU=some yq
 q177:tab aZ=some dF
end Go.Proofs.YtkmepoeklibegaaGreat.Ev
namespace Go.Proofs.YtkmepoeklibegaaGreat.Nn
abbrev B:Nat:=18446744073709551616
def val:List Nat->Nat
 | []=>0
 | a :: l=>a+B*val l
def Lim (l:List Nat):Prop:=∀ a∈l,a<B
def Mf (l:List Nat):Prop:=l.getLast? ≠ some 0
def Lim.nil:Lim []:=fun a h=>by cases h
def Lim.cons {a:Nat} {l:List Nat} (h:a<B) (hl:Lim l):Lim (a :: l):=fun b hb=>by
 rcases VK.1 hb with rfl | hb
 ·exact h
 ·exact hl b hb
def Lim.head {a:Nat} {l:List Nat} (h:Lim (a :: l)):a<B:=h a (Vt ..)
def Lim.tail {a:Nat} {l:List Nat} (h:Lim (a :: l)):Lim l:=fun b hb=>h b (Vn _ hb)
def Lim.append {l m:List Nat} (h:Lim l) (h':Lim m):Lim (l++m):=fun b hb=>by
 rcases VE.1 hb with hb | hb
 ·exact h b hb
 ·exact h' b hb
def Lim.take {l:List Nat} (h:Lim l) (n:Nat):Lim (l.take n):=fun b hb=>h b (Xg hb)
def Lim.drop {l:List Nat} (h:Lim l) (n:Nat):Lim (l.drop n):=fun b hb=>h b (X8 hb)
def Lim.replicate (n:Nat):Lim (List.replicate n 0):=fun b hb=>by
 rw [YM hb]; decide
def Lim.at {l:List Nat} (h:Lim l) (i:Nat):l.getD i 0<B:=by
 rw [Vh];cases hi:l[i]? with
 | none=>show 0<B; decide
 | some a=>exact h a (VD hi)
def pg:∀ (l m:List Nat),val (l++m)=val l+B^l.length*val m
 | [],m=>by simp [val]
 | a :: l,m=>by
  simp only [Xy,val,pg l m,VX,V5];rw [Ww,<- Wc,VG (B^l.length) B];omega
def wn:∀ {l:List Nat},Lim l->val l<B^l.length
 | [],_=>by simp [val]
 | a :: l,h=>by
  have b:=wn h.tail;have ha:=h.head;simp only [val,VX,V5]
  have:B*(val l+1)<=B*B^l.length:=XH B b
  rw [VG (B^l.length) B];rw [Ww] at this;omega
def fS (n:Nat):val (List.replicate n 0)=0:=by
 induction n with
 | zero=>rfl
 | succ n a=>simp [Wk,val,a]
def jJ (l:List Nat) (a:Nat):val (l++[a])=val l+B^l.length*a:=by
 rw [pg]; simp [val]
def IJ:∀ {l m:List Nat},Lim l->Lim m->l.length=m.length->val l=val m->l=m
 | [],[],_,_,_,_=>rfl
 | [],_ :: _,_,_,h,_=>by simp at h
 | _ :: _,[],_,_,h,_=>by simp at h
 | a :: l,b :: m,h1,h2,h,e=>by
  have ha:=h1.head;have hb:=h2.head;simp only [val] at e;have e1:a=b:=by
   have:(a+B*val l) % B=(b+B*val m) % B:=by rw [e]
   rw [X2,X2,Wd ha,Wd hb] at this;exact this
  subst e1;have e2:val l=val m:=ZJ (by decide) (Nat.add_left_cancel e);rw [IJ h1.tail h2.tail (by simpa using h) e2]
def yO {l:List Nat} (hn:Mf l) (hne:l≠[]):B^(l.length-1)<=val l:=by
 rcases Xs l with rfl | ⟨b,a,rfl⟩
 ·exact absurd rfl hne
 ·rw [Xt] at *;rw [jJ];have ha:a≠0:=fun e=>hn (by rw [e]; simp)
  have:B^b.length*1<=B^b.length*a:=XH _ zO
  simp only [VC,List.length_singleton,Xx];omega
def Qb {l m:List Nat} (h1:Lim l) (h2:Lim m) (b:Mf l) (a:Mf m) (e:val l=val m):l=m:=by
 have key:∀ {l m:List Nat},Lim l->Mf m->val l=val m->m.length<=l.length:=by
  intro l m h1 a e;by_cases hm:m=[]
  ·subst hm; simp
  ·have c:=wn h1;have d:=yO a hm
   apply Xm
   intro hlt
   have:B^l.length<=B^(m.length-1):=VW (by decide) zO
   omega
 exact IJ h1 h2 (XJ (key h2 b e.symm) (key h1 a e)) e
def ag (n:Nat):List Nat:=if h:n=0 then [] else n % B :: ag (n / B)
 termination_by n
 decreasing_by exact Zj zO (by decide)
theorem cQ:ag 0=[]:=by unfold ag; rfl
def jS {n:Nat} (h:n≠0):ag n=n % B :: ag (n / B):=by rw [ag,dif_neg h]
def bI (n:Nat):val (ag n)=n:=by
 induction n using Nat.strongRecOn with
 | _ n a =>
  by_cases h:n=0
  ·subst h; rw [cQ]; rfl
  ·rw [jS h];simp only [val];rw [a _ (Zj zO (by decide))]
   have:=Zk n B
   omega
def bF (n:Nat):Lim (ag n):=by
 induction n using Nat.strongRecOn with
 | _ n a =>
  by_cases h:n=0
  ·subst h; rw [cQ]; exact Lim.nil
  ·rw [jS h];exact Lim.cons (Wm _ (by decide)) (a _ (Zj zO (by decide)))
def dG (n:Nat):Mf (ag n):=by
 induction n using Nat.strongRecOn with
 | _ n a =>
  by_cases h:n=0
  ·subst h; rw [cQ]; simp [Mf]
  ·rw [jS h];have a:=a _ (Zj zO (by decide:1<B));unfold Mf at a ⊢;by_cases h2:n / B=0
   ·rw [h2,cQ]
    have:n % B=n:=Wd (by
     rcases Zo n B with h | h
     ·exact h
     ·have:=Nat.div_pos h (by decide:0<B); omega)
    rw [this];simp [h]
   ·rw [jS h2] at a ⊢;rw [List.getLast?_cons_cons]; exact a
def wY {l:List Nat} (h:Lim l) (n:Mf l):ag (val l)=l:=Qb (bF _) h (dG _) n (bI _)
def bo {n k:Nat} (h:n<B^k):(ag n).length<=k:=by
 by_cases h0:ag n=[]
 ·rw [h0]; simp
 ·have g:=yO (dG n) h0;rw [bI] at g
  apply Xm
  intro hlt
  have:B^k<=B^((ag n).length-1):=VW (by decide) zO
  omega
def iw (n:Nat):n<B^(ag n).length:=by
 have:=wn (bF n)
 rw [bI] at this; exact this
def limbs_nil {n:Nat}:ag n=[] ↔ n=0:=by
 constructor
 ·intro h
  have:=bI n
  rw [h] at this
  simpa [val] using this.symm
 ·rintro rfl; exact cQ
def eY (l:List Nat):List Nat:=(l.reverse.dropWhile (· == 0)).reverse
def eJ (l:List Nat):eY (l++[0])=eY l:=by simp [eY]
def iU {l:List Nat} {a:Nat} (h:a≠0):eY (l++[a])=l++[a]:=by simp [eY,h]
theorem wq:eY []=[]:=rfl
def zj:∀ (n:Nat) (l:List Nat),l.length=n->Lim l->eY l=ag (val l)
 | 0,l,hl,_=>by
  have:l=[]:=VZ hl
  subst this;rw [wq]; show []=ag 0; rw [cQ]
 | n+1,l,hl,h=>by
  rcases Xs l with rfl | ⟨b,a,rfl⟩
  ·simp at hl
  ·rw [Xt] at *;have c:b.length=n:=by simpa using hl
   have d:Lim b:=fun x hx=>h x (WH _ hx);by_cases ha:a=0
   ·subst ha;rw [eJ,zj n b c d,jJ]; simp
   ·rw [iU ha,wY h];unfold Mf;simp [ha]
def eS {l:List Nat} (h:Lim l):eY l=ag (val l):=zj _ l rfl h
end Go.Proofs.YtkmepoeklibegaaGreat.Nn
namespace Go.Proofs.YtkmepoeklibegaaGreat.Ev
open Go Nn
abbrev Lb (H:Heap) (v:AV) (l:List Nat):Prop:=yY cB ae H v l
abbrev cd (H:Heap) (v:AV) (n:Nat):Prop:=Lb H v (ag n)
def Sm (n:Nat):Prop:=(ag n).length<1099511627776
section
variable {tab:Nat->Option au} {H:Heap} {s:AV} {l:List Nat}
def fI (hs:Lb H s l) {i:Nat} (hi:i<l.length):aW H none (aq s i)=some (.int .u64 (l.getD i 0:Nat)):=by
 obtain ⟨c,hc,h⟩:=SlV.at1 hs (i:=i) (a:=l.getD i 0) (by simp [hi,Vh]);rw [h,hc]
def oM (C:Code tab) (j:Wf H) (hs:Lb H s l) (e:l.length<4611686018427387904) :
  Ans tab (.fn ni [s]) H fun v H'=>v=.int .i64 (if l.getLast? = some 0 then 8 else 0)/\Kp H H':=by
 refine dg C.q104 zU fun T hl c=>?_;rcases Xs l with rfl | ⟨b,a,rfl⟩
 ·have d:lenV s=some (.int .i64 0):=hs.lenV;refine zW (aB hl c d) ?_;exact ⟨rfl,zK⟩
 ·rw [Xt] at *;have d:lenV s=some (.int .i64 ((b.length:Int)+1)):=by have:=hs.lenV; simpa using this
  have i:IntKind.i64.wrap ((b.length:Int)+1-1)=(b.length:Int):=by rw [wrap_i64] <;> simp at e <;> omega
  have g:(0:Int)<(b.length:Int)+1:=zO;have hi:=SlV.idx1 hs .i64 b.length (by simp);have f:aW H none (aq s b.length)=some (.int .u64 (a:Nat)):=by rw [fI hs (by simp)]; simp
  refine zW (gS hl c d i g hi f) ?_;refine iteH.split (fun h=>?_) fun h=>?_
  ·refine zW (aA hl c) ?_;exact ⟨by rw [if_pos]; simp; omega,zK⟩
  ·refine zW (aA hl c) ?_;exact ⟨by rw [if_neg]; simp; omega,zK⟩
def qI (C:Code tab) (q:Wf H) {ls:List (List Nat)} {ty:Nat} (hs:yY (sO (bY cB) ae) ty H s ls) (p:ls.length<4611686018427387904) (hc:∀ c∈ls,c.length<4611686018427387904/\c.getLast? ≠ some 0) :
  Ans tab (.fn nU [s]) H fun v H'=>v=.int .i64 0/\Kp H H':=by
 refine dg C.q153 zU fun T hl d=>?_;refine zW (aB hl d hs.lenV) ?_;refine am H [] (fun _ _ _=>True) (a:=0) (N:=ls.length) rfl (by refine zW (aA hl d) ?_; rfl) (zV (aA hl d)) (Vz _) zO (by simp only [Vg,hl]; rfl) rfl (fun _ _ _ _ h=>h) zK trivial ?_ ?_
 ·intro j T1 i _ hj b l g e _;have w1:=e.wf;have r:=e.le;have o:aa T1 6=s:=(g.at_ 6 zU).trans (zV (aA hl d));obtain ⟨c,k,n⟩:=SlV.at1 (hs.mono e.sub) (Vk hj);have m:=SlV.idx1 hs .i64 j hj;have f:=hc _ (Vm hj);simp only [Vg,hl] at b;refine zW (cp b o l m n) ?_;refine AnsH.eq (oM C zF k f.1) fun H2 h2=>?_;rw [if_neg f.2];refine zW b ?_;have k2:Kp H H2:=Kp.trans zK h2;have t:=k2.le;exact zK
 ·intro T1 i b g e _;simp only [Vg,hl] at b;refine zW b ?_;exact zK
def pU (C:Code tab) (c:Wf H) (hs:Lb H s l):Ans tab (.fn cE [s]) H fun v H'=>Lb H' v l/\Kp H H':=by
 refine dg C.q108 zU fun T hl a=>?_;obtain ⟨b,e,hr⟩:=hs.clip .i64 .i64;have e':bW 1 s none (some (.int .i64 (l.length:Int))) (some (.int .i64 (l.length:Int)))=some b:=e;refine zW (aV hl a hs.lenV e') ?_;exact ⟨hr.mono (Sub.bump H _),zK⟩
def uL (C:Code tab) (D:Wf H) (hs:Lb H s l) (y:l.length<4611686018427387904) :
  Ans tab (.fn pz [s]) H fun v H'=>Lb H' v (eY l)/\Kp H H':=by
 refine dg C.q93 zU fun T hl j=>?_;refine zW (aA hl j) ?_;refine cu H [0] (fun k vs H'=>∃ v,vs=[v]/\Lb H' v (l.take k)/\eY (l.take k)=eY l/\k<=l.length) l.length (by simp only [Vg]; exact hl) rfl zK ⟨s,by exact zV (aA hl j),by rw [VO]; exact hs,by rw [VO],Vo _⟩ ?_;rintro k T1 f c B m ⟨v,g,hr,d,z⟩;have w1:=m.wf;have E:=m.le;simp only [Vq,Vw,Vv,and_true] at g;rcases Xs (l.take k) with h0 | ⟨b,a,h0⟩
 ·rw [h0] at hr d;have h:lenV v=some (.int .i64 0):=hr.lenV;refine zW (aB c g h) ?_;refine AnsH.use (pU C zF (hr.mono (Sub.bump f _))) ?_;rintro v2 H2 ⟨h1,h2⟩;have k2:Kp H H2:=Kp.trans zK h2;have x:=k2.le;rw [<- d];refine zW c ?_;exact ⟨h1,zK⟩
 ·rw [Xt] at h0;have A:k=b.length+1:=by have:=congrArg List.length h0; simp at this; omega
  have n:l.take b.length=b:=by
   have:=congrArg (List.take b.length) h0
   rw [XE,WG zO] at this
   simpa using this
  rw [h0] at hr d;have h:lenV v=some (.int .i64 ((b.length:Int)+1)):=by have:=hr.lenV; simpa using this
  have u:(0:Int)<(b.length:Int)+1:=zO;have r:=SlV.idx1 hr .i64 b.length (by simp);have t:aW f none (aq v b.length)=some (.int .u64 (a:Nat)):=by rw [fI hr (by simp)]; simp
  have o:IntKind.i64.wrap ((b.length:Int)+1-1)=(b.length:Int):=by rw [wrap_i64] <;> omega
  refine zW (gS c g h u r t o) ?_;refine iteH.split (fun ha=>?_) fun ha=>?_
  ·obtain ⟨i,e,w⟩:=hr.hi .i64 b.length (by simp);have e':bW 1 v none (some (.int .i64 (b.length:Int))) none=some i:=e;have q:a=0:=zO;subst q;refine zW (cp c g h o e') ?_;refine ⟨zK,b.length,zO,i,rfl,?_,?_,zO⟩
   ·rw [n];have h3:Lb f i b:=by simpa using w
    exact h3.mono (Sub.bump f _)
   ·rw [n,<- d,eJ]
  ·have p:a≠0:=zO;refine zW (aA c g) ?_;refine AnsH.use (pU C zF (hr.mono (Sub.bump f _))) ?_;rintro v2 H2 ⟨h1,h2⟩;have k2:Kp H H2:=Kp.trans zK h2;have x:=k2.le;rw [iU p] at d;rw [<- d];refine zW c ?_;exact ⟨h1,zK⟩
def Hz (C:Code tab) (b:Wf H) {n:Nat} (hn:n<B):Ans tab (.fn Ah [.int .u64 (n:Int)]) H fun v H'=>cd H' v n/\Sm n/\Kp H H':=by
 refine dg C.q72 zU fun T hl a=>?_;refine zW (aA hl a) ?_;have k1:Kp H ((H.up 5).put (H.next+2) (.cells [.int .u64 (n:Int)] ae true)):=zK;have c:=k1.le;have hs:Lb ((H.up 5).put (H.next+2) (.cells [.int .u64 (n:Int)] ae true)) (.own (H.next+2) 0 1 1 1 true) [n] :=
  (show Own (bY cB) ae H _ _ true _ [n] from ⟨_,rfl,ap _ _ _,Cells.one ⟨_,rfl,rfl⟩,zO⟩).sl
 refine AnsH.use (uL C k1.wf hs (by simp)) ?_;rintro v H2 ⟨h1,h2⟩;have e:eY [n]=ag n:=by rw [eS (Lim.cons hn Lim.nil)]; simp [val]
 rw [e] at h1;refine zW (aA hl a) ?_;refine ⟨h1,?_,k1.trans h2⟩
 have:=bo (n:=n) (k:=1) (by simpa using hn)
 unfold Sm; omega
def fu (C:Code tab) (d:Wf H) (hs:Lb H s l) (b:Bool) :
  Ans tab (.fn UO [.bool b,s]) H fun v H'=>v=.agg [.bool (b && decide (0<l.length)),s]/\Kp H H':=by
 refine bC C.q73 zU fun T hl a c=>?_;have e:=hs.one;cases b
 ·refine zW (aV hl a c hs.lenV) ?_;exact zK
 ·refine zW (aV hl a c hs.lenV) ?_;exact zK
end
def dE (f:Nat->Nat->Nat->Nat × Nat) (a b:List Nat):Nat->List Nat × Nat
 | 0=>([],0)
 | k+1=>((dE f a b k).1++[(f (a.getD k 0) (b.getD k 0) (dE f a b k).2).1],(f (a.getD k 0) (b.getD k 0) (dE f a b k).2).2)
def ib (f:Nat->Nat->Nat->Nat × Nat) (a b:List Nat):∀ k,(dE f a b k).1.length=k
 | 0=>rfl
 | k+1=>by simp [dE,ib f a b k]
section
variable {tab:Nat->Option au} {H:Heap}
def K2 (C:Code tab) (c:Wf H) {sa sb:AV} (ha:One sa) (hb:One sb) :
  Ans tab (.fn qT [sa,sb]) H fun v H'=>v=.fn (.func gE) [] [.ptr H.next 0,.ptr (H.next+1) 0]/\H'.get H.next=some (.cells [sa] aF true)/\H'.get (H.next+1)=some (.cells [sb] aF true)/\H.next+2<=H'.next/\Kp H H':=by
 refine bC C.q162 zU fun T hl a b=>?_;refine zW (aB hl a b) ?_;exact ⟨zO,zK⟩
def BE (C:Code tab) {H0:Heap} {lb r bb:Nat} {a b:List Nat} {sa sb:AV} (J:Nat->Heap->Prop) (A:a.length<4611686018427387904) (B:b.length<4611686018427387904) {M:Nat} (y:M=max a.length b.length)
  (z:Kp H0 H) (h0:J 0 H) (u:∀ k H m,J k H->J k (H.up m)) (hA:∀ k H,J k H->H.get r=some (.cells [sa] aF true)/\Lb H sa a/\H.get bb=some (.cells [sb] aF true)/\Lb H sb b)
  (hr:∀ k H,k<M->Kp H0 H->J k H->Ans tab (.round lb [.int .u64 (a.getD k 0:Nat),.int .u64 (b.getD k 0:Nat)]) H fun v H'=>v=.bool true/\Kp H0 H'/\J (k+1) H') :
  Ans tab (.ent gE [.loopv lb,.ptr r 0,.ptr bb 0]) H fun _ H'=>Kp H0 H'/\J M H':=by
 refine Uf C.q172 zU fun T hl i n o=>?_;obtain ⟨q1,q2,q3,q4⟩:=hA _ _ h0;have x:K4 (.int .i64 (a.length:Int)) (.int .i64 (b.length:Int))=some (.int .i64 (M:Int)):=by rw [DB]; congr 2; split <;> omega
 refine zW (lh hl i n o q1 q3 q2.lenV q4.lenV x) ?_;refine am H0 [] (fun j _ H'=>J j H') (a:=0) (N:=M) rfl (by refine zW (aV hl i n o) ?_; rfl) (zV (aV hl i n o)) (Vz _) zO (by simp only [Vg,hl]; rfl) rfl (fun j _ H' m h=>u _ _ _ h) zK (u _ _ _ h0) ?_ ?_
 ·intro j T1 w _ hj c d q t p;simp only [Vg,hl] at c;have t0:aa T1 0=.loopv lb:=(q.at_ 0 zU).trans (zV (aA hl i));have t1:aa T1 1=.ptr r 0:=(q.at_ 1 zU).trans (zV (cp hl i n o n));have g:aa T1 2=.ptr bb 0:=(q.at_ 2 zU).trans (zV (cp hl i n o o));obtain ⟨q1,q2,q3,q4⟩:=hA _ _ p;have s:∀ (l:List Nat),¬ j<l.length->l.getD j 0=0:=fun l h=>by rw [Vh,VS zO]; rfl
  have e:∀ m,Ans tab (.round lb [.int .u64 (a.getD j 0:Nat),.int .u64 (b.getD j 0:Nat)]) (w.up m) fun v H'=>v=.bool true/\Kp H0 H'/\J (j+1) H':=fun m=>hr j _ hj (t.up m) (u _ _ _ p);refine zW (lh c t0 t1 g d q1 q3 q2.lenV q4.lenV) ?_;refine iteH.split (fun h1=>?_) fun h1=>?_
  ·have x1:=SlV.idx1 q2 .i64 j h1;have d1:=fI q2 h1;refine zW (sG c t0 t1 g d q1 q3 q2.lenV q4.lenV x1 d1) ?_;refine iteH.split (fun h2=>?_) fun h2=>?_
   ·have x2:=SlV.idx1 q4 .i64 j h2;have d2:=fI q4 h2;refine zW (sG c t0 t1 g d q1 q3 q2.lenV q4.lenV x2 d2) ?_;refine AnsH.eq (e _) fun H2 ⟨k2,f⟩=>?_;refine zW c ?_;exact ⟨zK,f⟩
   ·rw [s b h2] at e;refine zW (gS c t0 t1 g d q1 q3) ?_;refine AnsH.eq (e _) fun H2 ⟨k2,f⟩=>?_;refine zW c ?_;exact ⟨zK,f⟩
  ·rw [s a h1] at e;refine zW (lh c t0 t1 g d q1 q3 q2.lenV q4.lenV) ?_;refine iteH.split (fun h2=>?_) fun h2=>?_
   ·have x2:=SlV.idx1 q4 .i64 j h2;have d2:=fI q4 h2;refine zW (sG c t0 t1 g d q1 q3 q2.lenV q4.lenV x2 d2) ?_;refine AnsH.eq (e _) fun H2 ⟨k2,f⟩=>?_;refine zW c ?_;exact ⟨zK,f⟩
   ·rw [s b h2] at e;refine zW (gS c t0 t1 g d q1 q3) ?_;refine AnsH.eq (e _) fun H2 ⟨k2,f⟩=>?_;refine zW c ?_;exact ⟨zK,f⟩
 ·intro T1 w c q t p;refine zW c ?_;exact ⟨t,p⟩
def mi {f:Src} {ps:List Nat} {a body:ACode} {T:Tm} {Q:Ex->Tm->Heap->Prop} {fi:Nat} {args:List AV} (b:iD (f.ev T) [.loopv H.next]=some (.fn fi args))
  (h:Ans tab (.ent fi args) ((H.up 1).put H.next (.loop T ps a body .ready none)) fun _ H2 =>
   (H2.get H.next=some (.loop T ps a body .ready none)/\Q .nrm T (H2.kill H.next))\/(H2.get H.next=some (.loop T ps a body .done (some .ret))/\Q .ret T (H2.kill H.next)) \/
   (∃ id,H2.get H.next=some (.loop T ps a body .done (some (.exit id)))/\Q (.exit id) T (H2.kill H.next))):rangeH tab f ps a body () () T H Q ():=rangeH.use b h
def Af (C:Code tab) (hw:Wf H) {sa sb:AV} {a b:List Nat} (ha:Lb H sa a) (hb:Lb H sb b) (aa:a.length<4398046511104) (ab:b.length<4398046511104) (O:Lim a) (P:Lim b) {fi:Nat} {f:Nat->Nat->Nat->Nat × Nat}
  (hg:∀ H x y c,x<B->y<B->c<=1->Ans tab (.fn fi [.int .u64 (x:Nat),.int .u64 (y:Nat),.int .u64 (c:Nat)]) H fun v H'=>v=.tup [.int .u64 ((f x y c).1:Nat),.int .u64 ((f x y c).2:Nat)]/\H'=H) (S:∀ x y c,x<B->y<B->c<=1->(f x y c).2<=1) :
  Ans tab (.fn pA [sa,sb,.fn (.func fi) [] []]) H fun v H'=>∃ o,v=.tup [o,.int .u64 ((dE f a b (max a.length b.length)).2:Nat)]/\Bl (bY cB) ae H H' o (dE f a b (max a.length b.length)).1/\Kp H H':=by
 refine mN C.q154 zU fun T hl j l m=>?_;refine zW (aV hl j l m) ?_;have k1:Kp H ((((H.up 6).put H.next (.cells [.fn (.func fi) [] []] aE true)).put (H.next+1) (.cells [.nilSl] aF true)).put (H.next+1+1) (.cells [.int .u64 0] ae true)):=zK;have ah:=k1.le;refine AnsH.use (K2 C k1.wf ha.one hb.one) ?_;rintro v H2 ⟨rfl,F,G,W,s⟩;have k2:=k1.trans s;have p5:H2.get H.next=some (.cells [.fn (.func fi) [] []] aE true):=s.get (da)
 have p6:H2.get (H.next+1)=some (.cells [.nilSl] aF true):=s.get (da);have p7:H2.get (H.next+1+1)=some (.cells [.int .u64 0] ae true):=s.get (da);have V:((((H.up 6).put H.next (.cells [.fn (.func fi) [] []] aE true)).put (H.next+1) (.cells [.nilSl] aF true)).put (H.next+1+1) (.cells [.int .u64 0] ae true)).next=H.next+6:=rfl
 rw [V] at F G W ⊢;refine zW (aV hl j l m) ?_;refine mi (fi:=gE) (args:=[.loopv H2.next,.ptr (H.next+6) 0,.ptr (H.next+6+1) 0]) (by refine zW (aV hl j l m) ?_; rfl) ?_
 generalize he:Ent.loop _ _ _ _ _ _=e0
 have w:Kp H ((H2.up 1).put H2.next e0):=zK;have ai:=w.le;refine (BE C (H0:=H) (a:=a) (b:=b) (sa:=sa) (sb:=sb) (M:=max a.length b.length) (fun k H'=>H'.get H2.next=some e0/\H'.get H.next=some (.cells [.fn (.func fi) [] []] aE true) /\
   (∃ o,H'.get (H.next+1)=some (.cells [o] aF true)/\Bl (bY cB) ae H H' o (dE f a b k).1/\∀ n,o ≠ .own (H.next+1+1) 0 n n 1 false)/\H'.get (H.next+1+1)=some (.cells [.int .u64 ((dE f a b k).2:Nat)] ae true)/\(dE f a b k).2<=1 /\
   H'.get (H.next+6)=some (.cells [sa] aF true)/\H'.get (H.next+6+1)=some (.cells [sb] aF true)/\Lb H' sa a/\Lb H' sb b) zO zO rfl w
  ⟨by exact da,by exact zV p5,⟨.nilSl,by exact zV p6,Bl.nil,fun n h=>by cases h⟩,by refine zW p7 ?_; rfl,Vz _,by exact zV F,by exact zV G,ha.mono w.sub,hb.mono w.sub⟩ (fun _ _ _ h=>h) (fun k H' h=>⟨h.2.2.2.2.2.1,h.2.2.2.2.2.2.2.1,h.2.2.2.2.2.2.1,h.2.2.2.2.2.2.2.2⟩) ?_).mono ?_
 ·rintro k d hk J ⟨g,q,⟨o,p,r,E⟩,u,D,K,L,-,-⟩;rw [<- he] at g;refine mR g rfl ?_;refine zW (jY hl j l m g q p u) ?_;refine AnsH.eq (hg _ _ _ _ (O.at k) (P.at k) D) fun H3 e3=>?_;subst e3;have hlt:=J.wf _ _ g;have ad:=J.le;have Y:=S _ _ _ (O.at k) (P.at k) D;refine zW (jY hl j l m g q p u) ?_
  generalize I:Ent.loop _ _ _ _ LoopState.busy none=e2
  generalize t:f (a.getD k 0) (b.getD k 0) (dE f a b k).2=z
  have N:Kp H (((d.up 13).put H2.next e2).put (H.next+2) (.cells [.int .u64 (z.2:Nat)] ae true)):=zK;have ak:=N.le;have q1:Bl (bY cB) ae H (((d.up 13).put H2.next e2).put (H.next+2) (.cells [.int .u64 (z.2:Nat)] ae true)) o (dE f a b k).1 :=
   (Bl.put (show Bl _ _ _ (d.up 13) _ _ from r) (r.ne g fun cs h=>by cases h) (SubT.nil _ _)).put E (SubT.nil _ _)
  have af:=ib f a b k;obtain ⟨n,i,e1,q2,k5,X,hp⟩:=q1.push (ty2:=ae) (bytes:=8) (id:=d.next+16) (id2:=d.next+15) (k:=5) (cs:=[.int .u64 (z.1:Nat)]) (a:=z.1) (fun h=>by cases h) N ⟨_,rfl,rfl⟩
   (by show d.next+13<=_; omega) (by show _<d.next+13+5; omega) (by show d.next+13<=_; omega) (by show _<d.next+13+5; omega) zO zO zO
  have R:dr ((((d.up 18).put H2.next e2).put (H.next+2) (.cells [.int .u64 (z.2:Nat)] ae true)).put (d.next+15) (.cells [.int .u64 (z.1:Nat)] ae true)) (d.next+16) 1 8 ae o (.own (d.next+15) 0 1 1 1 true)=some (.own (d.next+16) 0 n n 1 false,i):=e1;have r6:i.get (H.next+1)=some (.cells [o] aF true):=hp (H.next+1) (.cells [o] aF true) (zV p) (q1.ne (e:=.cells [o] aF true) (zV p) fun cs h=>by injection h with _ h2; exact absurd h2 zU);refine zW (eF hl j l m R r6) ?_;have Q:∀ {Z:AV} {cs:List AV},Ent.cells [Z] aF true ≠ .cells cs ae true:=fun h=>by injection h with _ h2; exact absurd h2 zU
  have r0:i.get H2.next=some e2:=hp H2.next e2 (da) (q1.ne (e:=e2) (da) fun cs h=>by rw [<- I] at h; cases h)
  have r5:i.get H.next=some (.cells [.fn (.func fi) [] []] aE true):=hp H.next _ (zV q) (q1.ne (e:=.cells [.fn (.func fi) [] []] aE true) (zV q) fun cs h=>by injection h with _ h2; exact absurd h2 zU)
  have r7:i.get (H.next+2)=some (.cells [.int .u64 (z.2:Nat)] ae true):=hp (H.next+2) _ (da) E;have ra:i.get (H.next+6)=some (.cells [sa] aF true):=hp (H.next+6) (.cells [sa] aF true) (zV K) (q1.ne (e:=.cells [sa] aF true) (zV K) fun cs=>Q);have rb:i.get (H.next+7)=some (.cells [sb] aF true):=hp (H.next+7) (.cells [sb] aF true) (zV L) (q1.ne (e:=.cells [sb] aF true) (zV L) fun cs=>Q);have ag:i.next=d.next+18:=X
  have A:Kp H ((i.put (H.next+1) (.cells [.own (d.next+16) 0 n n 1 false] aF true)).put H2.next e0):=zK;have al:=A.le;rw [ko];refine zW (gS I he r0 r5 r7 ra rb) ?_;refine ⟨A,⟨_,rfl,?_,fun n' h=>by injection h; omega⟩,?_,?_,ha.mono A.sub,hb.mono A.sub⟩
  ·have:(dE f a b (k+1)).1=(dE f a b k).1++[z.1]:=by rw [<- t]; rfl
   rw [this];exact (q2.put (fun n' h=>by injection h; omega) (SubT.nil _ _)).put (fun n' h=>by injection h; omega) (SubT.nil _ _)
  ·rw [<- t]; rfl
  ·have:(dE f a b (k+1)).2=z.2:=by rw [<- t]; rfl
   rw [this,<- t]; exact Y
 ·rintro _ H' ⟨U,g,q,⟨o,p,r,E⟩,u,D,-⟩;have hlt:=U.wf _ _ g;refine .inl ⟨g,?_⟩;refine zW (eF hl j l m p u) ?_;exact ⟨o,rfl,r.kill (r.ne g fun cs h=>by rw [<- he] at h; cases h) (SubT.nil _ _),zK⟩
end
def cZ (l:List Nat) (k:Nat):val (l.take (k+1))=val (l.take k)+B^k*l.getD k 0:=by
 by_cases h:k<l.length
 ·rw [Vr h,jJ,VN,WG (Xe h)];simp [Vh,h]
 ·rw [VP zO,VP zO,Vh,VS zO]
  simp
def fk (x y c:Nat):Nat × Nat:=((x+y+c) % B,(x+y+c) / B)
def jh (x y c:Nat):Nat × Nat:=((x+B-y-c) % B,if x<y+c then 1 else 0)
def yS (x y c:Nat) (hx:x<B) (hy:y<B) (hc:c<=1):(fk x y c).2<=1:=by
 simp only [fk,B] at *; omega
def uZ (x y c:Nat):(jh x y c).2<=1:=by
 unfold jh; simp only; split <;> omega
def yQ {f:Nat->Nat->Nat->Nat × Nat} {a b:List Nat} (d:Lim a) (lb:Lim b) (h:∀ x y c,x<B->y<B->c<=1->(f x y c).2<=1):∀ k,(dE f a b k).2<=1
 | 0=>Vz _
 | k+1=>h _ _ _ (d.at k) (lb.at k) (yQ d lb h k)
def At {f:Nat->Nat->Nat->Nat × Nat} {a b:List Nat} (h:∀ x y c,(f x y c).1<B):∀ k,Lim (dE f a b k).1
 | 0=>Lim.nil
 | k+1=>(At h k).append (Lim.cons (h _ _ _) Lim.nil)
def JN {a b:List Nat}:∀ k,val (dE fk a b k).1+B^k*(dE fk a b k).2=val (a.take k)+val (b.take k)
 | 0=>by simp [dE,val]
 | k+1=>by
  have c:=JN (a:=a) (b:=b) k;rw [cZ,cZ];simp only [dE,jJ,ib]
  generalize dE fk a b k=r at c ⊢
  generalize a.getD k 0=x
  generalize b.getD k 0=y
  simp only [fk];have e:=WI (x+y+r.2) B
  have:B^(k+1)*((x+y+r.2) / B)=B^k*(B*((x+y+r.2) / B)):=by rw [V5,Wc]
  rw [this]
  generalize B*((x+y+r.2) / B)=q at *
  generalize (x+y+r.2) % B=m at *
  have:B^k*(x+y+r.2)=B^k*q+B^k*m:=by rw [<- e,Ww]
  rw [Ww,Ww] at this;omega
def IN {a b:List Nat} (d:Lim a) (lb:Lim b):∀ k,val (dE jh a b k).1+val (b.take k)=val (a.take k)+B^k*(dE jh a b k).2
 | 0=>by simp [dE,val]
 | k+1=>by
  have e:=IN d lb k;have hc:(dE jh a b k).2<=1:=yQ d lb (fun x y c _ _ _=>uZ x y c) k;rw [cZ,cZ];simp only [dE,jJ,ib];have hx:=d.at k;have hy:=lb.at k
  generalize dE jh a b k=r at e hc ⊢
  generalize a.getD k 0=x at *
  generalize b.getD k 0=y at *
  have key:(jh x y r.2).1+y+r.2=x+B*(jh x y r.2).2:=by
   clear e;simp only [jh,B] at *;split <;> omega
  have:B^(k+1)*(jh x y r.2).2=B^k*(B*(jh x y r.2).2):=by rw [V5,Wc]
  rw [this]
  have:=congrArg (B^k * ·) key
  simp only [Ww] at this
  generalize B^k*(B*(jh x y r.2).2)=q at *
  generalize B^k*(jh x y r.2).1=m at *
  omega
section
variable {tab:Nat->Option au} {H:Heap}
def iR (C:Code tab) (H:Heap) (x y c:Nat) (_:x<B) (_:y<B) (hc:c<=1):Ans tab (.fn i9 [.int .u64 (x:Nat),.int .u64 (y:Nat),.int .u64 (c:Nat)]) H fun v H'=>v=.tup [.int .u64 ((fk x y c).1:Nat),.int .u64 ((fk x y c).2:Nat)]/\H'=H :=
 yV C.q155 rfl rfl (v:=.tup [.int .u64 ((fk x y c).1:Nat),.int .u64 ((fk x y c).2:Nat)]) (H':=H) (by
  show (if c<=1 then _ else _)=_;rw [if_pos hc]; rfl) ⟨rfl,rfl⟩
def xz (C:Code tab) (H:Heap) (x y c:Nat) (_:x<B) (_:y<B) (hc:c<=1):Ans tab (.fn iX [.int .u64 (x:Nat),.int .u64 (y:Nat),.int .u64 (c:Nat)]) H fun v H'=>v=.tup [.int .u64 ((jh x y c).1:Nat),.int .u64 ((jh x y c).2:Nat)]/\H'=H :=
 yV C.q156 rfl rfl (v:=.tup [.int .u64 ((jh x y c).1:Nat),.int .u64 ((jh x y c).2:Nat)]) (H':=H) (by
  show (if c<=1 then _ else _)=_;rw [if_pos hc]; rfl) ⟨rfl,rfl⟩
def BF {H c:Heap} {b ty t1:Nat} {α:Type} {E:fO α} {x y:AV} {l m:List α} (hx:SlV E t1 H x l) (hy:SlV E t1 H y m) (hs:Sub H c) (hg:c.get b=some (.cells [x,y] ty true)):yY (sO E t1) ty c (.own b 0 2 2 1 true) [l,m] :=
 ⟨[x,y],Rd.own hg rfl (Vo _),fun _ _ _ _ _ _ e=>by cases e; exact ⟨_,_,hg⟩,rfl,fun i a hi=>by
  match i with
  | 0=>simp at hi; subst hi; exact ⟨x,rfl,hx.mono hs⟩
  | 1=>simp at hi; subst hi; exact ⟨y,rfl,hy.mono hs⟩
  | i+2=>simp at hi⟩
def Sk {H c:Heap} {b ty t1:Nat} {α:Type} {E:fO α} {x:AV} {l:List α} (hx:SlV E t1 H x l) (hs:Sub H c) (hg:c.get b=some (.cells [x] ty true)):yY (sO E t1) ty c (.own b 0 1 1 1 true) [l] :=
 ⟨[x],Rd.own hg rfl (Vo _),fun _ _ _ _ _ _ e=>by cases e; exact ⟨_,_,hg⟩,rfl,fun i a hi=>by
  match i with
  | 0=>simp at hi; subst hi; exact ⟨x,rfl,hx.mono hs⟩
  | i+1=>simp at hi⟩
def sN (a b:List Nat):a.take (max a.length b.length)=a:=VP zO
def qp (a b:List Nat):b.take (max a.length b.length)=b:=VP zO
def I5 (C:Code tab) (F:Wf H) {sa sb:AV} {x y:Nat} (ha:cd H sa x) (hb:cd H sb y) (hx:Sm x) (hy:Sm y) :
  Ans tab (.fn wM [sa,sb]) H fun v H'=>∃ o,v=.tup [o,.int .i64 0]/\cd H' o (x+y)/\Kp H H':=by
 refine bC C.q141 zU fun T hl g i=>?_;have K:=ha.one;have L:=hb.one;unfold Sm at hx hy;refine zW (aB hl g i) ?_;have k1:Kp H ((H.up 7).put (H.next+4) (.cells [sa,sb] aF true)):=zK;have I:=k1.le;refine AnsH.eq (qI C k1.wf (BF ha hb k1.sub (ap _ _ _)) (by simp) fun c hc=>?_) fun H2 t=>?_
 ·simp at hc;rcases hc with rfl | rfl
  ·exact ⟨zO,dG x⟩
  ·exact ⟨zO,dG y⟩
 have k2:=k1.trans t;have M:=k2.wf;refine zW (aB hl g i) ?_;refine AnsH.use (Af C zF (ha.mono (k2.up _).sub) (hb.mono (k2.up _).sub) zO zO (bF x) (bF y) (f:=fk) (iR C) yS) ?_;rintro v d ⟨o,rfl,A,j⟩;obtain ⟨G,_,N⟩:=zT H zK j;have w:=ib fk (ag x) (ag y) (max (ag x).length (ag y).length);have hval:=JN (a:=ag x) (b:=ag y) (max (ag x).length (ag y).length);rw [sN,qp,bI,bI] at hval;have z:Lim (dE fk (ag x) (ag y) (max (ag x).length (ag y).length)).1:=At (fun x y c=>Wm _ zU) _;have D:=yQ (bF x) (bF y) yS (max (ag x).length (ag y).length)
 generalize dE fk (ag x) (ag y) (max (ag x).length (ag y).length)=r at *
 refine zW (aB hl g i) ?_;obtain ⟨n,p,e1,q2,l,E,-⟩:=A.push (ty2:=ae) (bytes:=8) (id:=d.next+3) (id2:=d.next+2) (k:=7) (cs:=[.int .u64 (r.2:Nat)]) (a:=r.2) (fun h=>by cases h) j ⟨_,rfl,rfl⟩ zO zO zO zO zO zO zO;have s:dr ((d.up 7).put (d.next+2) (.cells [.int .u64 (r.2:Nat)] ae true)) (d.next+3) 1 8 ae o (.own (d.next+2) 0 1 1 1 true)=some (.own (d.next+3) 0 n n 1 false,p):=e1;refine zW (aV hl g i s) ?_;have O:=l.wf;refine AnsH.use (uL C zF q2.sl zS) ?_;rintro v q ⟨h5,u⟩;have m:Kp H q:=((k2.up _).trans l).trans u;have J:=m.le;have e:eY (r.1++[r.2])=ag (x+y):=by
  rw [eS (z.append (Lim.cons (by unfold B; omega) Lim.nil)),jJ,w,hval]
 rw [e] at h5;refine zW (aB hl g i) ?_;exact ⟨v,rfl,h5,m⟩
def Dx (C:Code tab) (t:Wf H) {sa sb:AV} {x y:Nat} (ha:cd H sa x) (hb:cd H sb y) (hx:Sm x) (hy:Sm y) :
  Ans tab (.fn wL [sa,sb]) H fun v H'=>Kp H H'/\if y<=x then ∃ o,v=.tup [o,.int .i64 0]/\cd H' o (x-y) else v=.tup [.nilSl,.int .i64 10]:=by
 refine bC C.q142 zU fun T hl a b=>?_;have z:=ha.one;have A:=hb.one;unfold Sm at hx hy;refine zW (aB hl a b) ?_;have k1:Kp H ((H.up 7).put (H.next+4) (.cells [sa,sb] aF true)):=zK;have w:=k1.le;refine AnsH.eq (qI C k1.wf (BF ha hb k1.sub (ap _ _ _)) (by simp) fun c hc=>?_) fun H2 i=>?_
 ·simp at hc;rcases hc with rfl | rfl
  ·exact ⟨zO,dG x⟩
  ·exact ⟨zO,dG y⟩
 have k2:=k1.trans i;have B:=k2.wf;refine zW (aB hl a b) ?_;refine AnsH.use (Af C zF (ha.mono (k2.up _).sub) (hb.mono (k2.up _).sub) zO zO (bF x) (bF y) (f:=jh) (xz C) fun x y c _ _ _=>uZ x y c) ?_;rintro v g ⟨o,rfl,m,j⟩;obtain ⟨u,_,D⟩:=zT H zK j;have l:=ib jh (ag x) (ag y) (max (ag x).length (ag y).length);have hval:=IN (bF x) (bF y) (max (ag x).length (ag y).length);rw [sN,qp,bI,bI] at hval;have d:Lim (dE jh (ag x) (ag y) (max (ag x).length (ag y).length)).1:=At (fun x y c=>Wm _ zU) _;have s:=yQ (bF x) (bF y) (fun x y c _ _ _=>uZ x y c) (max (ag x).length (ag y).length);have hlt:=wn d;rw [l] at hlt
 generalize dE jh (ag x) (ag y) (max (ag x).length (ag y).length)=r at *
 refine zW (aB hl a b) ?_;refine iteH.split (fun h=>?_) fun h=>?_
 ·have h1:r.2=1:=zO;rw [h1] at hval
  have:¬ y<=x:=zO
  refine zW (aV hl a b this) ?_;exact zK
 ·have h1:r.2=0:=zO;rw [h1] at hval;have n:y<=x:=zO;refine zW (aB hl a b) ?_;refine AnsH.use (uL C zF (m.sl.mono (Sub.bump g _)) zO) ?_;rintro v q ⟨h5,k⟩;obtain ⟨p,_,_⟩:=zT H zK k;have e:eY r.1=ag (x-y):=by
   rw [eS d]; congr 1; omega
  rw [e] at h5;refine zW (aB hl a b) ?_;exact ⟨p,by rw [if_pos n]; exact ⟨v,rfl,h5⟩⟩
end
section
variable {tab:Nat->Option au} {H:Heap} {s:AV} {l:List Nat}
def jK (C:Code tab) (g:Wf H) (hs:Lb H s l) (i:l.length<1099511627776):Ans tab (.fn cz [s]) H fun v H'=>Lb H' v l/\Kp H H':=by
 refine dg C.q137 zU fun T hl a=>?_;rcases hs.nilcase with ⟨rfl,rfl⟩ | hne
 ·have e:ca .eql .sl .nilSl .nilSl=some (.bool true):=rfl;refine zW (aB hl a e) ?_;exact ⟨SlV.nil _ _ _,zK⟩
 ·have d:dj ([]:List AV) []=some []:=rfl;refine zW (aV hl a hne d) ?_;have k1:Kp H ((H.up 7).put (H.next+3) (.cells [] ae true)):=zK;have m:=k1.le;have h0:SlV (bY cB) ae ((H.up 7).put (H.next+3) (.cells [] ae true)) (.own (H.next+3) 0 0 0 1 true) ([]:List Nat) :=
   (show Own (bY cB) ae H _ (H.next+3) true _ [] from ⟨_,rfl,ap _ _ _,Cells.nil _ _,zO⟩).sl
  obtain ⟨h,H2,e1,h2,f,j,k,-⟩:=SlV.app (l:=[]) (id:=H.next+5) (bytes:=8) h0 k1 (hs.mono k1.sub) zO (by show _<H.next+7; omega) (by rw [al zO]; exact g.fresh (b:=H.next+5) zO) zS zS;have c:dr ((H.up 7).put (H.next+3) (.cells [] ae true)) (H.next+5) 1 8 ae (.own (H.next+3) 0 0 0 1 true) s=some (h,H2):=e1;refine zW (aB hl a c) ?_;exact ⟨h2,f⟩
def intE:fO Int where
 sz:=2
 tys:=[ae]
 R H cs z:=∃ v,cs=[.bool (decide (z<0)),v]/\cd H v z.natAbs
 pos:=zO
 len:=by rintro H cs z ⟨v,rfl,h⟩; exact ⟨rfl,by simp [h.one.2]; rfl⟩
 mono:=by rintro H H' cs z hs ⟨v,rfl,h⟩; exact ⟨v,rfl,h.monoT hs⟩
def IntV (H:Heap) (v:AV) (z:Int):Prop:=∃ w,v=.agg [.bool (decide (z<0)),w]/\cd H w z.natAbs
def eR (z:Int):Prop:=Sm z.natAbs
def IntV.mono {H H':Heap} (hs:Sub H H') {v:AV} {z:Int} (h:IntV H v z):IntV H' v z:=by
 obtain ⟨w,rfl,h⟩:=h; exact ⟨w,rfl,h.mono hs⟩
def b7 (n:Nat):(0<(ag n).length) ↔ n≠0:=by
 rw [List.length_pos_iff];exact not_congr limbs_nil
def fd (C:Code tab) (f:Wf H) {v:AV} {z:Int} (c:IntV H v z) (d:eR z):Ans tab (.fn ka [v]) H fun v H'=>v=.int .i64 0/\Kp H H':=by
 obtain ⟨w,rfl,hn⟩:=c;unfold eR Sm at d;have i:=hn.one;refine dg C.q85 zU fun T hl a=>?_;refine zW (aA hl a) ?_;have k1:Kp H ((H.up 16).put H.next (.cells [.bool (decide (z<0)),w] ad true)):=zK;have g:=k1.le;refine AnsH.eq (oM C k1.wf (hn.mono k1.sub) zO) fun H2 b=>?_;rw [if_neg (dG _)];have k2:=k1.trans b;have b0:H2.get H.next=some (.cells [.bool (decide (z<0)),w] ad true):=b.get (ap _ _ _)
 refine zW (aB hl a @b0) ?_;refine iteH.split (fun h=>?_) fun h=>?_
 ·have:¬ (ag z.natAbs).length=0:=by have:=(b7 z.natAbs).2 zO; omega
  have e:decide (((ag z.natAbs).length:Int)=0)=false:=by simp; intro h; rw [h] at this; exact this rfl
  refine zW (eF hl a @b0 hn.lenV h e) ?_;exact zK
 ·refine zW (aV hl a @b0 h) ?_;exact zK
def kP {ty:Nat} {v:AV} {l:List Int} (hs:SlV intE ty H v l) {i:Nat} (hi:i<l.length):∃ w,cd H w (l[i]).natAbs/\aW H (some 2) (aq v (i*2))=some (.agg [.bool (decide (l[i]<0)),w])/\aW H none (aq v (i*2))=some (.bool (decide (l[i]<0)))/\aW H none (aq v (i*2+1))=some w:=by
 obtain ⟨cs,⟨w,rfl,hn⟩,-,h1,h2⟩:=hs.at (Vk hi);exact ⟨w,hn,h2,h1 0 _ rfl,h1 1 _ rfl⟩
def Jd {c:Heap} {b ty:Nat} {x y:Int} {p q:AV} (hx:cd H p x.natAbs) (hy:cd H q y.natAbs) (hs:Sub H c) (hg:c.get b=some (.cells [.bool (decide (x<0)),p,.bool (decide (y<0)),q] ty true)):SlV intE ty c (.own b 0 2 2 2 true) [x,y] :=
 ⟨_,Rd.own hg rfl (Vo _),fun _ _ _ _ _ _ e=>by cases e; exact ⟨_,_,hg⟩,rfl,fun i a hi=>by
  match i with
  | 0=>simp at hi; subst hi; exact ⟨p,rfl,hx.mono hs⟩
  | 1=>simp at hi; subst hi; exact ⟨q,rfl,hy.mono hs⟩
  | i+2=>simp at hi⟩
def gV (C:Code tab) (q:Wf H) {v:AV} {ls:List Int} {ty:Nat} (hs:SlV intE ty H v ls) (o:ls.length<4611686018427387904) (hc:∀ z∈ls,eR z) :
  Ans tab (.fn kO [v]) H fun v H'=>v=.int .i64 0/\Kp H H':=by
 refine dg C.q125 zU fun T hl d=>?_;refine zW (aB hl d hs.lenV) ?_;refine am H [] (fun _ _ _=>True) (a:=0) (N:=ls.length) rfl (by refine zW (aA hl d) ?_; rfl) (zV (aA hl d)) (Vz _) zO (by simp only [Vg,hl]; rfl) rfl (fun _ _ _ _ h=>h) zK trivial ?_ ?_
 ·intro j T1 e _ hj b i f c _;have w1:=c.wf;have r:=c.le;have n:aa T1 6=v:=(f.at_ 6 zU).trans (zV (aA hl d));obtain ⟨w,hn,m,-,-⟩:=kP (hs.mono c.sub) hj;have k:cL 2 v (.int .i64 (j:Int))=some (aq v (j*2)):=SlV.idx hs .i64 j hj;have g:=hc _ (Vm hj);have s:=hn.one;simp only [Vg,hl] at b;refine zW (cp b n i k m) ?_;have p:=c.le;refine AnsH.eq (fd C zF ⟨w,rfl,hn.mono (zG e)⟩ g) fun H2 l=>?_;obtain ⟨k2,_,_⟩:=zT H zK l;refine zW b ?_;exact zK
 ·intro T1 e b f c _;simp only [Vg,hl] at b;refine zW b ?_;exact zK
def oP {w:AV} {n:Nat} (b:Bool) (h:cd H w n):IntV H (.agg [.bool (b && decide (0<(ag n).length)),w]) (if b then -(n:Int) else n):=by
 refine ⟨w,?_,?_⟩
 ·have:=b7 n
  congr 3;cases b
  ·simp
  ·simp only [Bool.true_and,if_true];by_cases h0:n=0
   ·simp [h0,cQ]
   ·have h1:=this.2 h0;simp [h1]; omega
 ·cases b
  ·simpa using h
  ·simpa using h
def BW (C:Code tab) (n:Wf H) {v:AV} {z:Int} (l:IntV H v z) (i:eR z):Ans tab (.fn qL [v]) H fun v H'=>∃ r,v=.tup [r,.int .i64 0]/\IntV H' r (-z)/\Kp H H':=by
 obtain ⟨w,rfl,hn⟩:=l;have s:=hn.one;refine dg C.q130 zU fun T hl a=>?_;refine zW (aA hl a) ?_;refine AnsH.eq (fd C zF ⟨w,rfl,hn.mono (zG H)⟩ i) fun H2 c=>?_;obtain ⟨k2,_,_⟩:=zT H zK c;have b0:H2.get H.next=some (.cells [.bool (decide (z<0)),w] ad true):=c.get (da)
 have b:H2.get (H.next+1)=some (.cells [.bool false,.nilSl] ad true):=c.get (da);refine zW (aA hl a) ?_;refine aM ?_;refine zD (aV hl a @b0 b) ?_;unfold eR Sm at i;have t:=k2.wf;refine AnsH.use (jK C zF (hn.mono (zG H)) zO) ?_;rintro v3 g ⟨h3,d⟩;obtain ⟨o,_,u⟩:=zT H zK d;refine zD (aV hl a @b0 b) ?_;refine AnsH.use (fu C zF h3 _) ?_;rintro v4 j ⟨rfl,f⟩;obtain ⟨m,_,_⟩:=zT H zK f;have q:=h3.one;have k:g.get H.next=some (.cells [.bool (decide (z<0)),w] ad true):=d.get b0
 have d1:j.get (H.next+1)=some (.cells [.bool false,.nilSl] ad true):=f.get (d.get b);refine zD (eF hl a @b0 b k d1) ?_;have p:=m.wf _ _ d1;refine ⟨_,rfl,?_,zK⟩;have hm:=oP (!decide (z<0)) ((h3.mono (Kp.sub (H:=g) (Kp.trans zK f))).monoT (SubT.put_ty (e:=.cells [.bool (!decide (z<0) && decide (0<(ag z.natAbs).length)),v3] ad true) d1 zU));have e:(if (!decide (z<0))=true then -((z.natAbs:Nat):Int) else ((z.natAbs:Nat):Int)) = -z:=by
  by_cases h:z<0 <;> simp [h] <;> omega
 rw [e] at hm;exact hm
end
section
variable {tab:Nat->Option au} {H:Heap}
def Oy (x y:Int):(decide (x<0) == decide (y<0))=decide ((x<0)=(y<0)):=by
 by_cases hx:x<0 <;> by_cases hy:y<0 <;> simp [hx,hy]
def BV (C:Code tab) (F:Wf H) {a b:AV} {x y:Int} (ha:IntV H a x) (hb:IntV H b y) (hx:eR x) (hy:eR y):Ans tab (.fn qJ [a,b]) H fun v H'=>IntV H' v (x+y)/\Kp H H':=by
 obtain ⟨p,rfl,hp⟩:=ha;obtain ⟨q,rfl,l⟩:=hb;have op:=hp.one;have I:=l.one;refine bC C.q127 zU fun T hl f g=>?_;refine zW (aB hl f g) ?_;have fin:∀ (c:Heap) (j:Kp H c) (bb:Bool) (o:AV) (n:Nat) (z:Int),c.get (H.next+2)=some (.cells [.bool false,.nilSl] ad true)->Lb c o (ag n)->(if bb then -(n:Int) else n)=z ->
   IntV (c.put (H.next+2) (.cells [.bool (bb && decide (0<(ag n).length)),o] ad true)) (.agg [.bool (bb && decide (0<(ag n).length)),o]) z/\Kp H (c.put (H.next+2) (.cells [.bool (bb && decide (0<(ag n).length)),o] ad true)):=by
  intro c j bb o n z d1 d B;have G:=j.wf _ _ d1;refine ⟨?_,zK⟩;rw [<- B];exact oP bb (d.monoT (SubT.put_ty d1 zU))
 refine iteH.split (fun h=>?_) fun h=>?_
 ·rw [Oy] at h;simp only [decide_eq_true_eq,eq_iff_iff] at h;refine zW (aB hl f g) ?_;refine AnsH.use (I5 C zF (hp.mono (zG H)) (l.mono (zG H)) hx hy) ?_;rintro v H2 ⟨o,rfl,d,i⟩;obtain ⟨k2,_,E⟩:=zT H zK i;have b0:H2.get H.next=some (.cells [.bool (decide (x<0)),p] ad true):=i.get (da)
  have k:H2.get (H.next+2)=some (.cells [.bool false,.nilSl] ad true):=i.get (da);refine zW (aV hl f g @b0) ?_;refine AnsH.use (fu C zF (d.mono (zG H2)) _) ?_;rintro v3 c ⟨rfl,e⟩;obtain ⟨j,_,_⟩:=zT H zK e;have t:=d.one;have d1:=e.get (b:=H.next+2) k;refine zW (aV hl f g d1) ?_;refine fin c j _ _ _ _ d1 (d.mono (Kp.sub (H:=H2) (Kp.trans zK e))) ?_;by_cases h1:x<0 <;> simp [h1] <;> omega
 ·rw [Oy] at h;simp only [decide_eq_true_eq,eq_iff_iff] at h;refine zW (aB hl f g) ?_;refine AnsH.use (Dx C zF (hp.mono (zG H)) (l.mono (zG H)) hx hy) ?_;rintro v H2 ⟨i,hr⟩;obtain ⟨k2,_,E⟩:=zT H zK i;have b0:H2.get H.next=some (.cells [.bool (decide (x<0)),p] ad true):=i.get (da)
  have r:H2.get (H.next+1)=some (.cells [.bool (decide (y<0)),q] ad true):=i.get (da);have k:H2.get (H.next+2)=some (.cells [.bool false,.nilSl] ad true):=i.get (da);by_cases s:y.natAbs<=x.natAbs
  ·rw [if_pos s] at hr;obtain ⟨o,rfl,d⟩:=hr;refine zW (aV hl f g @b0) ?_;refine AnsH.use (fu C zF (d.mono (zG H2)) _) ?_;rintro v3 c ⟨rfl,e⟩;obtain ⟨j,_,_⟩:=zT H zK e;have t:=d.one;have d1:=e.get (b:=H.next+2) k;refine zW (aV hl f g d1) ?_;refine fin c j _ _ _ _ d1 (d.mono (Kp.sub (H:=H2) (Kp.trans zK e))) ?_;by_cases h1:x<0 <;> simp [h1] <;> omega
  ·rw [if_neg s] at hr;subst hr;refine zW (cp hl f g @b0 r) ?_;refine AnsH.use (Dx C zF (l.mono (zG H)) (hp.mono (zG H)) hy hx) ?_;rintro v c ⟨e,hr⟩;rw [if_pos zO] at hr;obtain ⟨o,rfl,d⟩:=hr;obtain ⟨j,_,J⟩:=zT H zK e;have w:=e.get (b:=H.next+1) r;have A:=e.get (b:=H.next+2) k;refine zW (aV hl f g @w) ?_;refine AnsH.use (fu C zF (d.mono (zG c)) _) ?_;rintro v4 u ⟨rfl,m⟩;obtain ⟨D,_,_⟩:=zT H zK m;have t:=d.one;have d1:=m.get (b:=H.next+2) A;refine zW (aV hl f g d1) ?_;refine fin u D _ _ _ _ d1 (d.mono (Kp.sub (H:=c) (Kp.trans zK m))) ?_;by_cases h1:y<0 <;> simp [h1] <;> omega
def gw (x:Int):Int:=if x<0 then -1 else if x=0 then 0 else 1
def y8 (C:Code tab) (d:Wf H) {a:AV} {x:Int} (ha:IntV H a x):Ans tab (.fn po [a]) H fun v H'=>v=.int .i64 (gw x)/\Kp H H':=by
 obtain ⟨p,rfl,hp⟩:=ha;have op:=hp.one;refine dg C.q90 zU fun T hl b=>?_;have c:decide (((ag x.natAbs).length:Int)=0)=decide (x=0):=by
  have:=b7 x.natAbs
  by_cases h:x=0
  ·subst h; simp [cQ]
  ·have h1:=this.2 zO; simp [h]; intro h2; rw [h2] at h1; simp at h1
 refine zW (aV hl b hp.lenV c) ?_;refine iteH.split (fun h=>?_) fun h=>?_
 ·have hx:x=0:=by
   by_cases h1:x=0
   ·exact h1
   ·simp [h1] at h
  subst hx;refine zW (aA hl b) ?_;exact ⟨rfl,zK⟩
 ·have hx:x≠0:=fun h1=>by subst h1; simp at h
  refine zW (aA hl b) ?_;refine iteH.split (fun h=>?_) fun h=>?_
  ·refine zW (aA hl b) ?_;exact ⟨by simp [gw,h],zK⟩
  ·refine zW (aA hl b) ?_;exact ⟨by simp [gw,h,hx],zK⟩
def l9 (C:Code tab) (h:Wf H) {a:AV} {x:Int} (ha:IntV H a x) (hx:eR x):Ans tab (.fn pq [a]) H fun v H'=>v=.tup [.int .i64 (gw x),.int .i64 0]/\Kp H H':=by
 obtain ⟨p,rfl,hp⟩:=ha;have op:=hp.one;refine dg C.q61 zU fun T hl c=>?_;refine zW (aA hl c) ?_;refine AnsH.eq (fd C zF ⟨p,rfl,hp.mono (zG H)⟩ hx) fun H2 d=>?_;obtain ⟨k2,_,j⟩:=zT H zK d;have b0:=d.get (b:=H.next) (e:=.cells [.bool (decide (x<0)),p] ad true) (da);refine zW (aB hl c @b0) ?_;refine AnsH.eq (y8 C zF ⟨p,rfl,hp.mono (zG H)⟩) fun g f=>?_;obtain ⟨i,_,_⟩:=zT H zK f;refine zW (aA hl c) ?_;exact zK
def Kj (C:Code tab) (n:Wf H) {a b:AV} {x y:Int} (ha:IntV H a x) (hb:IntV H b y) (hx:eR x) (hy:eR y):Ans tab (.fn qO [a,b]) H fun v H'=>∃ r,v=.tup [r,.int .i64 0]/\IntV H' r (x+y)/\Kp H H':=by
 obtain ⟨p,rfl,hp⟩:=ha;obtain ⟨q,rfl,g⟩:=hb;have op:=hp.one;have t:=g.one;refine bC C.q106 zU fun T hl d f=>?_;refine zW (aB hl d f) ?_;refine AnsH.eq (gV C zF (Jd (x:=x) (y:=y) (H:=H) hp g (zG H) (by refine uo ?_; rfl)) (by simp) fun z i=>?_) fun H2 c=>?_
 ·simp at i; rcases i with rfl | rfl <;> assumption
 obtain ⟨k2,_,u⟩:=zT H zK c;have b0:=c.get (b:=H.next) (e:=.cells [.bool (decide (x<0)),p] ad true) (da);have j:=c.get (b:=H.next+1) (e:=.cells [.bool (decide (y<0)),q] ad true) (da);have k:=c.get (b:=H.next+2) (e:=.cells [.bool false,.nilSl] ad true) (da);refine zW (cp hl d f @b0 j) ?_;refine AnsH.use (BV C zF ⟨p,rfl,hp.mono (zG H)⟩ ⟨q,rfl,g.mono (zG H)⟩ hx hy) ?_;rintro v m ⟨⟨r,rfl,hr⟩,h⟩;obtain ⟨l,_,_⟩:=zT H zK h;have s:=hr.one;have d2:=h.get (b:=H.next+2) k;have o:=l.wf _ _ d2;refine zW (aV hl d f d2) ?_;exact ⟨_,rfl,⟨r,rfl,hr.monoT (SubT.put_ty d2 zU)⟩,zK⟩
def Kf (C:Code tab) (A:Wf H) {a b:AV} {x y:Int} (ha:IntV H a x) (hb:IntV H b y) (hx:eR x) (hy:eR y):Ans tab (.fn qK [a,b]) H fun v H'=>∃ r,v=.tup [r,.int .i64 0]/\IntV H' r (x-y)/\Kp H H':=by
 obtain ⟨p,rfl,hp⟩:=ha;obtain ⟨q,rfl,g⟩:=hb;have op:=hp.one;have E:=g.one;refine bC C.q147 zU fun T hl c d=>?_;refine zW (aB hl c d) ?_;refine AnsH.eq (gV C zF (Jd (x:=x) (y:=y) (H:=H) hp g (zG H) (by refine uo ?_; rfl)) (by simp) fun z l=>?_) fun H2 f=>?_
 ·simp at l; rcases l with rfl | rfl <;> assumption
 obtain ⟨k2,_,F⟩:=zT H zK f;have b0:=f.get (b:=H.next) (e:=.cells [.bool (decide (x<0)),p] ad true) (da);have i:=f.get (b:=H.next+1) (e:=.cells [.bool (decide (y<0)),q] ad true) (da);have m:=f.get (b:=H.next+2) (e:=.cells [.bool false,.nilSl] ad true) (da);refine zW (aB hl c d) ?_;refine aM ?_;refine zD (cp hl c d @b0 i) ?_;refine AnsH.use (fu C zF (g.mono (zG H)) _) ?_;rintro v3 u ⟨rfl,j⟩;obtain ⟨s,_,G⟩:=zT H zK j;have hm:=oP (!decide (y<0)) (g.mono s.sub);have e:(if (!decide (y<0))=true then -((y.natAbs:Nat):Int) else ((y.natAbs:Nat):Int)) = -y:=by
  by_cases h:y<0 <;> simp [h] <;> omega
 rw [e] at hm;have o:eR (-y):=by unfold eR at *; rwa [Yk]
 refine zD (cp hl c d @b0 i) ?_;refine AnsH.use (BV C zF ⟨p,rfl,hp.mono (zG H)⟩ hm hx o) ?_;rintro v w ⟨⟨r,rfl,hr⟩,k⟩;obtain ⟨t,_,_⟩:=zT H zK k;have D:=hr.one;have n:=j.get (b:=H.next) b0;have d2:=k.get (b:=H.next+2) (j.get (b:=H.next+2) m);have B:=t.wf _ _ d2;refine zD (gS hl c d @b0 i n d2) ?_;refine ⟨_,rfl,⟨r,?_,hr.monoT (SubT.put_ty d2 zU)⟩,zK⟩;rw [Int.sub_eq_add_neg]
end
end Go.Proofs.YtkmepoeklibegaaGreat.Ev
