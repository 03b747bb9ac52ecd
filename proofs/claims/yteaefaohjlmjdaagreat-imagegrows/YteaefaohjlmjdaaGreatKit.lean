/- A part. -/
import Derived.Test.YteaefaohjlmjdaaGreatA0
import Derived.Test.YteaefaohjlmjdaaGreatEvDraw5
import Derived.Test.YteaefaohjlmjdaaGreatProg
set_option linter.all false
namespace Go.Proofs.YteaefaohjlmjdaaGreat.Ev
open Go
def Heap.up (H:Heap) (k:Nat):Heap:={ H with next:=H.next+k }
def Um (H:Heap) (a b:Nat):(H.up a).up b=H.up (a+b):=by simp [Heap.up,XI]
theorem Tg (H:Heap) (b k:Nat) (e:Ent):(H.put b e).up k=(H.up k).put b e:=rfl
theorem Rt (H:Heap) (b k:Nat):(H.kill b).up k=(H.up k).kill b:=rfl
theorem dg (H:Heap) (k:Nat):(H.up k).next=H.next+k:=rfl
theorem next_put (H:Heap) (b:Nat) (e:Ent):(H.put b e).next=H.next:=rfl
theorem next_kill (H:Heap) (b:Nat):(H.kill b).next=H.next:=rfl
theorem TD (H:Heap) (k b:Nat):(H.up k).get b=H.get b:=rfl
def al (H:Heap) (b:Nat) (e:Ent):(H.put b e).get b=some e:=by rw [GW,if_pos rfl]
def au {H:Heap} {b c:Nat} {e:Ent} (h:c≠b):(H.put b e).get c=H.get c:=by rw [GW,if_neg h]
def cM {H:Heap} {b c:Nat} (h:c≠b):(H.kill b).get c=H.get c:=by rw [Mx,if_neg h]
structure Kp (H H':Heap):Prop where
 wf0:Wf H
 wf:Wf H'
 le:H.next<=H'.next
 same:∀ b,b<H.next->H'.get b=H.get b
def Kp.sub {H H':Heap} (h:Kp H H'):Sub H H':=⟨h.le,fun b e hb=>(h.same b (h.wf0 b e hb)).trans hb⟩
def Kp.refl {H:Heap} (h:Wf H):Kp H H:=⟨h,h,o0 _,fun _ _=>rfl⟩
def Kp.up {H H':Heap} (h:Kp H H') (k:Nat):Kp H (H'.up k):=⟨h.wf0,h.wf.bump k,B5 h.le (Ob _ _),h.same⟩
def Kp.trans {H H' H'':Heap} (h:Kp H H') (h':Kp H' H''):Kp H H'':=⟨h.wf0,h'.wf,B5 h.le h'.le,fun b hb=>(h'.same b (Eb hb h.le)).trans (h.same b hb)⟩
def Kp.get {H H':Heap} (h:Kp H H') {b:Nat} {e:Ent} (hb:H.get b=some e):H'.get b=some e:=h.sub.get b e hb
def Kp.put {H H':Heap} (h:Kp H H') {b:Nat} {e:Ent} (h1:H.next<=b) (h2:b<H'.next):Kp H (H'.put b e):=⟨h.wf0,h.wf.put h2 e,h.le,fun c hc=>by rw [au zO]; exact h.same c hc⟩
def Kp.kill {H H':Heap} (h:Kp H H') {b:Nat} (h1:H.next<=b):Kp H (H'.kill b):=⟨h.wf0,h.wf.kill b,h.le,fun c hc=>by rw [cM zO]; exact h.same c hc⟩
def Kp.old {H H':Heap} (h:Kp H H') {b:Nat} {e:Ent} (hb:H.get b=some e):b<H.next:=h.wf0 b e hb
def Kp.free {H H':Heap} (h:Kp H H') {b:Nat} (h1:b<H.next) (h2:H.get b=none):H'.get b=none:=(h.same b h1).trans h2
def KT (os:List FR):List Nat:=os.filterMap (·.dst)
def fU:ACode->List Nat
 | .region os=>KT os
 | .draw ds _=>ds.filterMap (·.dst)
 | .drawF ds _ l _=>(ds++[l]).filterMap (·.dst)
 | .seq a b=>fU a++fU b
 | .cond _ a b=>fU a++fU b
 | .block _ a=>fU a
 | .loop a=>fU a
 | .scope a=>fU a
 | _=>[]
def vT (res:List (Nat × Option (Option Nat))) (Q:AV->Heap->Prop) (x:Ex) (T:Tm) (H:Heap):Prop:=(x=.nrm\/x=.ret)/\∃ v,cq T H res=some v/\Q v H
def Oz {res:List (Nat × Option (Option Nat))} {Q:AV->Heap->Prop} {T:Tm} {H:Heap}:vT res Q .nrm T H=ii (cq T H res) (fun v=>Q v H) ():=by
 unfold vT ii iA;cases cq T H res <;> simp
def Oy {res:List (Nat × Option (Option Nat))} {Q:AV->Heap->Prop} {T:Tm} {H:Heap}:vT res Q .ret T H=ii (cq T H res) (fun v=>Q v H) ():=by
 unfold vT ii iA;cases cq T H res <;> simp
def vU (H:Heap) (v:AV):Option (Option Nat)->Option AV
 | none=>some v
 | some k=>match v with
  | .ptr b o=>bk H k (.ptr b o)
  | _=>none
theorem LY (H:Heap) (v:AV):vU H v none=some v:=rfl
theorem OA (H:Heap) (b o:Nat) (k:Option Nat):vU H (.ptr b o) (some k)=bk H k (.ptr b o):=rfl
def kK (T:Tm) (H:Heap) (r:Nat × Option (Option Nat)):oS T H r=vU H (ad T r.1) r.2:=by
 obtain ⟨n,k⟩:=r;cases k with
 | none=>rfl
 | some k=>simp only [oS,vU]; cases ad T n <;> rfl
def SZ (a b:Option AV):Option AV:=a.bind fun a=>b.bind fun b=>some (.tup [a,b])
def SY (a b c:Option AV):Option AV:=a.bind fun a=>b.bind fun b=>c.bind fun c=>some (.tup [a,b,c])
theorem LD (a b:AV):SZ (some a) (some b)=some (.tup [a,b]):=rfl
theorem LC (a b c:AV):SY (some a) (some b) (some c)=some (.tup [a,b,c]):=rfl
theorem Tc (T:Tm) (H:Heap):cq T H []=some (.tup []):=rfl
def Tb (T:Tm) (H:Heap) (r:Nat) (k:Option (Option Nat)):cq T H [(r,k)]=vU H (ad T r) k:=by
 show (List.mapM (oS T H) [(r,k)]).bind _=_;rw [<- kK T H (r,k)];simp only [Yi,List.mapM_nil];cases oS T H (r,k) <;> rfl
def Ta (T:Tm) (H:Heap) (r s:Nat) (k l:Option (Option Nat)):cq T H [(r,k),(s,l)]=SZ (vU H (ad T r) k) (vU H (ad T s) l):=by
 show (List.mapM (oS T H) [(r,k),(s,l)]).bind _=_;rw [<- kK T H (r,k),<- kK T H (s,l)];simp only [Yi,List.mapM_nil,SZ];cases oS T H (r,k) <;> cases oS T H (s,l) <;> rfl
def Ov (T:Tm) (H:Heap) (r s t:Nat) (k l m:Option (Option Nat)):cq T H [(r,k),(s,l),(t,m)]=SY (vU H (ad T r) k) (vU H (ad T s) l) (vU H (ad T t) m):=by
 show (List.mapM (oS T H) [(r,k),(s,l),(t,m)]).bind _=_;rw [<- kK T H (r,k),<- kK T H (s,l),<- kK T H (t,m)];simp only [Yi,List.mapM_nil,SY];cases oS T H (r,k) <;> cases oS T H (s,l) <;> cases oS T H (t,m) <;> rfl
section
variable {tab:Nat->Option aA} {f n:Nat} {res:List (Nat × Option (Option Nat))} {body:ACode} {H:Heap} {Q:AV->Heap->Prop}
def Vi (a:tab f=some ⟨0,n,res,body,none⟩) (h:∀ T:Tm,T.length=n->WC tab false body T H (vT res Q)):Ans tab (.fn f []) H Q :=
 px a rfl rfl (xq _) fun T hl g=>h T hl
def cT {a:AV} (b:tab f=some ⟨1,n,res,body,none⟩) (hn:1<=n) (h:∀ T:Tm,T.length=n->ad T 0=a->WC tab false body T H (vT res Q)):Ans tab (.fn f [a]) H Q :=
 px b rfl rfl hn fun T hl g=>h T hl (g 0 (by simp))
def bA {a b:AV} (c:tab f=some ⟨2,n,res,body,none⟩) (hn:2<=n) (h:∀ T:Tm,T.length=n->ad T 0=a->ad T 1=b->WC tab false body T H (vT res Q)):Ans tab (.fn f [a,b]) H Q :=
 px c rfl rfl hn fun T hl g=>h T hl (g 0 (by simp)) (g 1 (by simp))
def lC {a b c:AV} (d:tab f=some ⟨3,n,res,body,none⟩) (hn:3<=n) (h:∀ T:Tm,T.length=n->ad T 0=a->ad T 1=b->ad T 2=c->WC tab false body T H (vT res Q)):Ans tab (.fn f [a,b,c]) H Q :=
 px d rfl rfl hn fun T hl g=>h T hl (g 0 (by simp)) (g 1 (by simp)) (g 2 (by simp))
def Jw {a b c d:AV} (e:tab f=some ⟨4,n,res,body,none⟩) (hn:4<=n) (h:∀ T:Tm,T.length=n->ad T 0=a->ad T 1=b->ad T 2=c->ad T 3=d->WC tab false body T H (vT res Q)):Ans tab (.fn f [a,b,c,d]) H Q :=
 px e rfl rfl hn fun T hl g=>h T hl (g 0 (by simp)) (g 1 (by simp)) (g 2 (by simp)) (g 3 (by simp))
def TJ {a b:AV} (c:tab f=some ⟨2,n,res,body,none⟩) (hn:2<=n) (h:∀ T:Tm,T.length=n->ad T 0=a->ad T 1=b->WC tab false body T H (vT res Q)):Ans tab (.ent f [a,b]) H Q :=
 CP c rfl rfl hn fun T hl g=>h T hl (g 0 (by simp)) (g 1 (by simp))
def Vp {a b c:AV} (d:tab f=some ⟨3,n,res,body,none⟩) (hn:3<=n) (h:∀ T:Tm,T.length=n->ad T 0=a->ad T 1=b->ad T 2=c->WC tab false body T H (vT res Q)):Ans tab (.ent f [a,b,c]) H Q :=
 CP d rfl rfl hn fun T hl g=>h T hl (g 0 (by simp)) (g 1 (by simp)) (g 2 (by simp))
end
theorem Vo (a:AV) (l:List AV):G7 0 (.tup (a :: l))=some a:=rfl
theorem Vn (a b:AV) (l:List AV):G7 1 (.tup (a :: b :: l))=some b:=rfl
theorem Vm (a b c:AV) (l:List AV):G7 2 (.tup (a :: b :: c :: l))=some c:=rfl
theorem TG (off b o:Nat):CT off (.ptr b o)=some (.ptr b (o+off)):=rfl
theorem MH (k:Option Nat) (off:Nat) (cs:List AV):Fy k off (.agg cs)=bf cs off k:=rfl
theorem Rf (b o:Nat):BC (.ptr b o)=some (.ptr b o):=rfl
theorem Tl (f:Nat) (a c:List AV):BC (.fn (.func f) a c)=some (.fn (.func f) a c):=rfl
def JD (neg:Bool) (n:Nat):AV->AV->Option AV
 | .agg a,.agg b=>(match n with | 0=>He a b | n+1=>rT (n+1) a b).map fun r=>.bool (if neg then !r else r)
 | _,_=>none
def NG {tab:Nat->Option aA} (ev:Src->AV) (H:Heap) (id:Nat) (Q:AV->Heap->Prop) (neg:Bool) (n:Nat) (x y:Src):nj tab ev H id (.eqAgg neg n x y) Q=ii (JD neg n (ev x) (ev y)) (fun v=>Q v H) ():=by
 rw [co,eP tab ev H id Q (o:=.eqAgg neg n x y) (v:=JD neg n (ev x) (ev y)) (fun f a e=>by cases e) (by simp only [aS]; cases ev x <;> cases ev y <;> rfl) rfl]; rfl
def UJ (len size:Nat) (k:Option Nat) (v i:AV):Option AV:=aS (fun s=>match s with | .t 0=>v | _=>i) (.indexAgg len size k (.t 0) (.t 1))
def FS {tab:Nat->Option aA} (ev:Src->AV) (H:Heap) (id:Nat) (Q:AV->Heap->Prop) (len size:Nat) (k:Option Nat) (x i:Src):nj tab ev H id (.indexAgg len size k x i) Q=ii (UJ len size k (ev x) (ev i)) (fun v=>Q v H) ():=by
 rw [co,eP tab ev H id Q (o:=.indexAgg len size k x i) (v:=UJ len size k (ev x) (ev i)) (fun f a e=>by cases e) (by simp only [aS,UJ]) rfl]; rfl
theorem Vg (k:IntKind) (a b:AV):UJ 2 1 none (.agg [a,b]) (.int k 0)=some a:=rfl
theorem Vf (k:IntKind) (a b:AV):UJ 2 1 none (.agg [a,b]) (.int k 1)=some b:=rfl
theorem TI (a b c d:Bool):JD false 0 (.agg [.bool a,.bool b]) (.agg [.bool c,.bool d])=some (.bool (a == c && b == d)):=rfl
theorem SV (k:IntKind) (n:Int):SW .neg (.int k n)=some (.int k (k.wrap (0-n))):=rfl
section
variable (a b:Nat)
def M9 (x y:Int):bY .add .int (.int .i64 x) (.int .i64 y)=some (.int .i64 (IntKind.i64.wrap (x+y))):=FK _ _ _
def M4 (x y:Int):bY .sub .int (.int .i64 x) (.int .i64 y)=some (.int .i64 (IntKind.i64.wrap (x-y))):=WU _ _ _
def M6 (x y:Int):bY .mul .int (.int .i64 x) (.int .i64 y)=some (.int .i64 (IntKind.i64.wrap (x*y))):=K7 _ _ _
def M8:bY .add .int (.int .u64 (a:Int)) (.int .u64 (b:Int))=some (.int .u64 (((a+b) % 18446744073709551616:Nat):Int)):=by
 rw [FK,kO]; congr 2
def yD:bY .mul .int (.int .u64 (a:Int)) (.int .u64 (b:Int))=some (.int .u64 (((a*b) % 18446744073709551616:Nat):Int)):=by
 rw [K7,kO]; congr 2
def yC (h:b<=18446744073709551616):bY .sub .int (.int .u64 (a:Int)) (.int .u64 (b:Int))=some (.int .u64 (((a+18446744073709551616-b) % 18446744073709551616:Nat):Int)):=by
 rw [WU,kO]; congr 2; omega
def JO:bY .and .int (.int .u64 (a:Int)) (.int .u64 4294967295)=some (.int .u64 ((a % 4294967296:Nat):Int)):=by
 have e:(BitVec.ofInt 64 (a:Int) &&& BitVec.ofInt 64 4294967295).toNat=a % 4294967296:=by
  rw [BitVec.toNat_and];have h1:(BitVec.ofInt 64 (a:Int)).toNat=a % 2^64:=by simp
  have h2:(BitVec.ofInt 64 4294967295).toNat=2^32-1:=by decide
  rw [h1,h2,Nat.and_two_pow_sub_one_eq_mod];omega
 show some (AV.int .u64 (IntKind.u64.wrap ((BitVec.ofInt 64 (a:Int) &&& BitVec.ofInt 64 4294967295).toNat:Nat)))=_;rw [e,gH zO zO]
def tC {k:IntKind} (hb:b<64):bY .shr .int (.int .u64 (a:Int)) (.int k (b:Int))=some (.int .u64 ((a / 2^b:Nat):Int)):=by
 show lz .shr .u64 (a:Int) (b:Int)=_;unfold lz;rw [if_neg zO];have h1:Nat.min (b:Int).toNat IntKind.u64.bits=b:=by
  have:IntKind.u64.bits=64:=rfl
  rw [this,YJ]; exact XO zO
 simp only [h1];congr 2;rw [Int.fdiv_eq_ediv_of_nonneg _ (YF (Int.pow_pos zO))]
 simp
def M5:bY .shr .int (.int .u64 (a:Int)) (.int .u64 32)=some (.int .u64 ((a / 4294967296:Nat):Int)):=tC a 32 zO
end
theorem IP (T:Tm) (t:Nat) (v:AV) (r:List (Nat × AV)):oU T ((t,v) :: r)=oU (T.set t v) r:=rfl
theorem L4 (T:Tm):oU T []=T:=rfl
def mY (v:AV) (w:Bool) (P Q:Prop) (_:If P) (_:If Q):Prop:=match v with
 | .bool b=>if b=w then P else Q
 | .tup []=>Q
 | _=>False
theorem GV (b w:Bool) (P Q:Prop):mY (.bool b) w P Q () ()=iteH (b=w) P Q () ():=rfl
theorem Jp (w:Bool) (P Q:Prop):mY (.tup []) w P Q () ()=Q:=rfl
section
variable {tab:Nat->Option aA} {rd:Bool} {T:Tm} {H:Heap}
def Lo {Q:Tm->Heap->Prop} {id:Nat} (d:Option Nat) (o:AOp) (t:Nat) (w:Bool) (os:List FR):FP tab id (⟨d,o,some (t,w)⟩ :: os) T H Q =
  mY (ad T t) w (nj tab (Src.ev T) H id o fun v H'=>FP tab (id+1) os (putT T d v) H' Q) (FP tab (id+1) os (putT T d (.tup [])) H Q) () ():=by
 rw [AC,co];have a:b7 T (some (t,w))=match ad T t with | .bool b=>some (b == w) | .tup []=>some false | _=>none:=by
  unfold ad;rw [iF];cases h:T[t]? with
  | none=>simp only [b7,h]; rfl
  | some v =>
   simp only [b7,h,Yc];cases v with
   | tup vs=>cases vs <;> rfl
   | _=>rfl
 conv=>lhs; unfold yN
 simp only [a,mY];cases ad T t with
 | bool b=>cases b <;> cases w <;> rfl
 | tup vs=>cases vs <;> rfl
 | _=>rfl
def Ii {Q:Ex->Tm->Heap->Prop} (ops:List FR):WC tab rd (.region ops) T H Q=Te H.next (H.up ops.length) (fun id H'=>FP tab id ops T H' (Q .nrm)) ():=Lq ops
theorem JJ (P Q:Prop):KZ (.bool true) P Q () ()=P:=rfl
theorem Hv (P Q:Prop):KZ (.bool false) P Q () ()=Q:=rfl
end
def RD (id id1 i n c k:Nat) (body:ACode):ACode :=
 .block id (.loop (.seq (.region [⟨some c,.bin .lss .int (.t i) (.t n),none⟩]) (.seq (.cond (.t c) .skip (.exit id)) (.seq (.block id1 body)
  (.region [⟨some k,.bin .add .int (.t i) (.c (.int .i64 1)),none⟩,⟨some i,.mv (.t k),none⟩])))))
def PQ (id:Nat) (c:ACode):ACode:=.block id (.loop c)
def iW:ACode->Bool
 | .rangeM ..=>false
 | .scopeL ..=>false
 | .seq a b=>iW a && iW b
 | .cond _ a b=>iW a && iW b
 | .block _ a=>iW a
 | .loop a=>iW a
 | .scope a=>iW a
 | _=>true
structure Same (D:List Nat) (T T':Tm):Prop where
 len:T'.length=T.length
 at_:∀ s,s ∉ D->ad T' s=ad T s
def Same.refl (D:List Nat) (T:Tm):Same D T T:=⟨rfl,fun _ _=>rfl⟩
def Same.trans {D a:List Nat} {T T' b:Tm} (h:Same D T T') (h':Same a T' b):Same (D++a) T b :=
 ⟨h'.len.trans h.len,fun s hs=>(h'.at_ s fun h1=>hs (XV _ h1)).trans (h.at_ s fun h1=>hs (XF _ h1))⟩
def Same.wide {D a:List Nat} {T T':Tm} (h:Same D T T') (hd:∀ s,s∈D->s∈a):Same a T T':=⟨h.len,fun s hs=>h.at_ s fun h1=>hs (hd s h1)⟩
def mr (T:Tm) (i j:Nat) (v:AV) (h:i≠j):ad (T.set i v) j=ad T j:=by
 unfold ad;rw [iF,iF,YX];rw [if_neg h]
def My (T:Tm) (i j:Nat) (v:AV):ad (T.set i v) j=if i=j then (if i<T.length then v else .undef) else ad T j:=by
 by_cases h:i<T.length
 ·rw [wJ T i j v h]; simp [h]
 ·unfold ad;rw [List.set_eq_of_length_le zO];by_cases a:i=j
  ·subst a; rw [iF,Pi zO]; simp [h]
  ·simp [a]
theorem PL:((0:Nat):Int)=0:=rfl
def Same.put (T:Tm) (d:Option Nat) (v:AV):Same d.toList T (putT T d v):=by
 cases d with
 | none=>exact Same.refl _ _
 | some d=>exact ⟨by simp [putT],fun s hs=>mr T d s v fun e=>hs (by simp [e])⟩
def Dt {cal:oJ}:∀ (os:List FR) (id:Nat) (T:Tm) (H:Heap) (T':Tm) (H':Heap),Ak cal id os T H=some (T',H')->Same (KT os) T T'
 | [],id,T,H,T',H',h=>by cases h; exact Same.refl _ _
 | o :: os,id,T,H,T',H',h=>by
  have key:∀ v a,Ak cal (id+1) os (putT T o.dst v) a=some (T',H')->Same (KT (o :: os)) T T':=fun v a h1=>by
   refine ((Same.put T o.dst v).trans (Dt os _ _ _ _ _ h1)).wide fun s hs=>?_;unfold KT at hs ⊢;cases hd:o.dst with
   | none=>rw [List.filterMap_cons_none hd]; simpa [hd] using hs
   | some d=>rw [List.filterMap_cons_some hd]; simpa [hd] using hs
  unfold Ak at h;split at h
  ·split at h
   ·exact key _ _ h
   ·cases h
  ·exact key _ _ h
  ·cases h
def yW:∀ (ds:List jT) (vs:List AV) (T:Tm),Same (ds.filterMap (·.dst)) T (gM T ds vs)
 | [],vs,T=>by cases vs <;> exact Same.refl _ _
 | d :: ds,[],T=>⟨rfl,fun _ _=>rfl⟩
 | d :: ds,v :: vs,T=>by
  refine ((Same.put T d.dst v).trans (yW ds vs _)).wide fun s hs=>?_;cases hd:d.dst with
  | none=>rw [List.filterMap_cons_none hd]; simpa [hd] using hs
  | some a=>rw [List.filterMap_cons_some hd]; simpa [hd] using hs
def DC {D:List Nat} {body:Tm->Heap->Option (Ex × Tm × Heap)} (hb:∀ T H x T' H',body T H=some (x,T',H')->Same D T T') :
  ∀ (n:Nat) (T:Tm) (H:Heap) (x:Ex) (T':Tm) (H':Heap),BY body n T H=some (x,T',H')->Same D T T'
 | 0,_,_,_,_,_,h=>by cases h
 | n+1,T,H,x,T',H',h=>by
  unfold BY at h;split at h
  ·rename_i T1 a h1;exact ((hb _ _ _ _ _ h1).trans (DC hb n _ _ _ _ _ h)).wide fun s hs=>by simpa using hs
  ·exact hb _ _ _ _ _ h
def dS {cal:oJ} {m:Nat} {rd:Bool}:∀ (c:ACode) (T:Tm) (H:Heap) (x:Ex) (T':Tm) (H':Heap),iW c=true->aL cal m rd c T H=some (x,T',H')->Same (fU c) T T'
 | .skip,T,H,x,T',H',_,h=>by cases h; exact Same.refl _ _
 | .exit _,T,H,x,T',H',_,h=>by cases h; exact Same.refl _ _
 | .goto _,T,H,x,T',H',_,h=>by cases h; exact Same.refl _ _
 | .ret,T,H,x,T',H',_,h=>by cases h; exact Same.refl _ _
 | .region os,T,H,x,T',H',_,h=>by
  simp only [aL] at h;split at h
  ·rename_i h1; cases h; exact Dt _ _ _ _ _ _ h1
  ·cases h
 | .draw ds late,T,H,x,T',H',_,h=>by
  simp only [aL] at h;split at h
  ·rename_i h1;cases h;unfold Hj at h1;split at h1
   ·cases h1
   ·split at h1
    ·cases h1; exact yW _ _ _
    ·cases h1
  ·cases h
 | .drawF ..,T,H,x,T',H',_,h=>by cases h
 | .seq a b,T,H,x,T',H',hp,h=>by
  simp only [iW,Ky] at hp;simp only [aL] at h;split at h
  ·rename_i T1 d h1;exact (dS a _ _ _ _ _ hp.1 h1).trans (dS b _ _ _ _ _ hp.2 h)
  ·exact (dS a _ _ _ _ _ hp.1 h).wide fun s hs=>XF _ hs
 | .cond c a b,T,H,x,T',H',hp,h=>by
  simp only [iW,Ky] at hp;simp only [aL] at h;split at h
  ·exact (dS a _ _ _ _ _ hp.1 h).wide fun s hs=>XF _ hs
  ·exact (dS b _ _ _ _ _ hp.2 h).wide fun s hs=>XV _ hs
  ·cases h
 | .block id a,T,H,x,T',H',hp,h=>by
  simp only [aL] at h;split at h
  ·rename_i h1;split at h
   ·cases h; exact dS a _ _ _ _ _ hp h1
   ·cases h; exact dS a _ _ _ _ _ hp h1
  ·exact dS a _ _ _ _ _ hp h
 | .loop a,T,H,x,T',H',hp,h=>by
  simp only [aL] at h;exact DC (fun T H x T' H' h1=>dS a _ _ _ _ _ hp h1) _ _ _ _ _ _ h
 | .scope a,T,H,x,T',H',hp,h=>by
  simp only [aL] at h;split at h
  ·cases h
  ·exact dS a _ _ _ _ _ hp h
 | .rangeFunc f ps e body,T,H,x,T',H',_,h=>by
  have:T'=T:=by
   simp only [aL] at h;split at h
   ·cases h
   ·split at h
    ·split at h
     ·split at h
      ·cases h; rfl
      ·split at h <;> first | (cases h; rfl) | cases h
      ·cases h
     ·cases h
    ·cases h
  subst this; exact Same.refl _ _
 | .rangeM ..,T,H,x,T',H',hp,h=>by cases hp
 | .scopeL ..,T,H,x,T',H',hp,h=>by cases hp
def WB (tab:Nat->Option aA) (rd:Bool) (c:ACode) (T:Tm) (H:Heap) (Q:Ex->Tm->Heap->Prop):Prop:=∃ x T' H',Qa tab rd c T H x T' H'/\Q x T' H'
section
variable {tab:Nat->Option aA} {rd:Bool}
def WC.wb {c:ACode} {T:Tm} {H:Heap} {Q:Ex->Tm->Heap->Prop} (h:WC tab rd c T H Q):WB tab rd c T H Q:=eN c T H Q h.run
def WB.same {c:ACode} {T:Tm} {H:Heap} {Q:Ex->Tm->Heap->Prop} (h:WB tab rd c T H Q) (hp:iW c=true):WB tab rd c T H fun x T' H'=>Same (fU c) T T'/\Q x T' H':=by
 obtain ⟨x,T',H',⟨N,g⟩,a⟩:=h;exact ⟨x,T',H',⟨N,g⟩,dS c _ _ _ _ _ hp (g N N (o0 _) (o0 _)),a⟩
def WB.mono {c:ACode} {T:Tm} {H:Heap} {Q a:Ex->Tm->Heap->Prop} (h:WB tab rd c T H Q) (b:∀ x T' H',Q x T' H'->a x T' H'):WB tab rd c T H a:=by
 obtain ⟨x,T',H',hb,h⟩:=h;exact ⟨x,T',H',hb,b _ _ _ h⟩
def AJ {a b:ACode} {T:Tm} {H:Heap} {Q:Ex->Tm->Heap->Prop} (h:WB tab rd a T H fun x T' H'=>match x with | .nrm=>WB tab rd b T' H' Q | x=>Q x T' H'):WB tab rd (.seq a b) T H Q:=by
 obtain ⟨x,T1,e,⟨c,d⟩,h1⟩:=h;by_cases hx:x=.nrm
 ·subst hx;obtain ⟨y,T2,H2,⟨f,g⟩,h2⟩:=h1;refine ⟨y,T2,H2,⟨c+f,fun m n hm hn=>?_⟩,h2⟩;simp only [aL,d m n zO zO];exact g m n zO zO
 ·refine ⟨x,T1,e,⟨c,fun m n hm hn=>?_⟩,?_⟩
  ·simp only [aL,d m n hm hn]
   all_goals (cases x <;> first | rfl | exact absurd rfl hx)
  ·cases x <;> first | exact h1 | exact absurd rfl hx
def QK {c:Src} {a b:ACode} {T:Tm} {H:Heap} {Q:Ex->Tm->Heap->Prop} {v:Bool} (hc:c.ev T=.bool v) (h:if v=true then WB tab rd a T H Q else WB tab rd b T H Q):WB tab rd (.cond c a b) T H Q:=by
 cases v with
 | true =>
  obtain ⟨x,T1,d,⟨e,f⟩,h1⟩:=h;exact ⟨x,T1,d,⟨e,fun m n hm hn=>by simp only [aL,hc]; exact f m n hm hn⟩,h1⟩
 | false =>
  obtain ⟨x,T1,d,⟨e,f⟩,h1⟩:=h;exact ⟨x,T1,d,⟨e,fun m n hm hn=>by simp only [aL,hc]; exact f m n hm hn⟩,h1⟩
def NV {id:Nat} {a:ACode} {T:Tm} {H:Heap} {Q:Ex->Tm->Heap->Prop} (h:WB tab rd a T H (vC id Q)):WB tab rd (.block id a) T H Q:=by
 obtain ⟨x,T1,b,⟨c,d⟩,h1⟩:=h;cases x with
 | exit e =>
  simp only [vC] at h1;by_cases hi:e=id
  ·rw [if_pos hi] at h1;exact ⟨.nrm,T1,b,⟨c,fun m n hm hn=>by simp only [aL,d m n hm hn,if_pos hi]⟩,h1⟩
  ·rw [if_neg hi] at h1;exact ⟨.exit e,T1,b,⟨c,fun m n hm hn=>by simp only [aL,d m n hm hn,if_neg hi]⟩,h1⟩
 | nrm=>exact ⟨_,T1,b,⟨c,fun m n hm hn=>by simp only [aL,d m n hm hn]⟩,h1⟩
 | goto l=>exact ⟨_,T1,b,⟨c,fun m n hm hn=>by simp only [aL,d m n hm hn]⟩,h1⟩
 | ret=>exact ⟨_,T1,b,⟨c,fun m n hm hn=>by simp only [aL,d m n hm hn]⟩,h1⟩
def QI {T:Tm} {H:Heap} {Q:Ex->Tm->Heap->Prop} (h:Q .nrm T H):WB tab rd .skip T H Q:=⟨.nrm,T,H,⟨0,fun _ _ _ _=>rfl⟩,h⟩
def QJ {i:Nat} {T:Tm} {H:Heap} {Q:Ex->Tm->Heap->Prop} (h:Q (.exit i) T H):WB tab rd (.exit i) T H Q:=⟨.exit i,T,H,⟨0,fun _ _ _ _=>rfl⟩,h⟩
def Et {body:ACode} {Q:Ex->Tm->Heap->Prop} (Inv:Nat->Tm->Heap->Prop)
  (hr:∀ k T H,Inv k T H->WB tab rd body T H (Jf Inv k Q)):∀ (k:Nat) (T:Tm) (H:Heap),Inv k T H->WB tab rd (.loop body) T H Q:=by
 have key:∀ (k:Nat) (T:Tm) (H:Heap),Inv k T H->∃ x T' H',Q x T' H'/\∃ N,∀ m n j,N<=m->N<=n->N<=j->BY (aL (lU tab fd m n) m rd body) j T H=some (x,T',H'):=by
  intro k
  induction k using Nat.strongRecOn with
  | _ k o =>
   intro T H a;obtain ⟨x,T1,c,⟨d,e⟩,h1⟩:=hr k T H a;by_cases hx:x=.nrm
   ·subst hx;obtain ⟨p,l,i⟩:=h1;obtain ⟨y,T2,H2,b,f,h⟩:=o p l T1 c i;refine ⟨y,T2,H2,b,d+f+1,fun m n j hm hn hj=>?_⟩;obtain ⟨j',rfl⟩:∃ j',j=j'+1:=⟨j-1,zO⟩
    unfold BY;rw [e m n zO zO];exact h m n j' zO zO zO
   ·refine ⟨x,T1,c,by cases x <;> first | exact h1 | exact absurd rfl hx,d+1,fun m n j hm hn hj=>?_⟩;obtain ⟨j',rfl⟩:∃ j',j=j'+1:=⟨j-1,zO⟩
    unfold BY;rw [e m n zO zO];cases x <;> first | rfl | exact absurd rfl hx
 intro k T H a;obtain ⟨x,T',H',b,N,g⟩:=key k T H a;exact ⟨x,T',H',⟨N,fun m n hm hn=>g m n m hm hn hm⟩,b⟩
def WB.wcLoop {id:Nat} {body:ACode} {T:Tm} {H:Heap} {Q:Ex->Tm->Heap->Prop} (h:WB tab rd (.loop body) T H (vC id Q)):WC tab rd (.block id (.loop body)) T H Q:=by
 rw [FT];exact ⟨h⟩
def MG (id id1:Nat) (P:Tm->Heap->Prop) (Q:Ex->Tm->Heap->Prop) (x:Ex) (T:Tm) (H:Heap):Prop:=match x with
 | .nrm=>P T H
 | .exit e=>if e=id1 then P T H else if e=id then Q .nrm T H else Q (.exit e) T H
 | x=>Q x T H
section
variable {id id1:Nat} {P:Tm->Heap->Prop} {Q:Ex->Tm->Heap->Prop} {T:Tm} {H:Heap}
theorem Pq:MG id id1 P Q .nrm T H=P T H:=rfl
theorem Pp:MG id id1 P Q .ret T H=Q .ret T H:=rfl
theorem ME (l:Nat):MG id id1 P Q (.goto l) T H=Q (.goto l) T H:=rfl
theorem MF (e:Nat):MG id id1 P Q (.exit e) T H=iteH (e=id1) (P T H) (iteH (e=id) (Q .nrm T H) (Q (.exit e) T H) () ()) () ():=rfl
end
def Sf (L i n c k:Nat) (D a:List Nat):Bool :=
 decide (i<L) && decide (n<L) && decide (c<L) && decide (k<L) && i != n && i != c && i != k && n != c && n != k && c != k && !D.contains i && !D.contains n && a.all fun s=>s != i && s != c && s != k
def aq {id id1 i n c k:Nat} {body:ACode} {T:Tm} {H:Heap} {Q:Ex->Tm->Heap->Prop} {L a N:Nat} (H0:Heap) (d:List Nat) (P:Nat->List AV->Heap->Prop)
  (hl:T.length=L) (ha:ad T i=.int .i64 (a:Int)) (hn:ad T n=.int .i64 (N:Int)) (R:a<=N) (hN:N<9223372036854775807) (y:Sf L i n c k (fU body) d=true) (hp:iW body=true)
  (F:∀ j vs H m,P j vs H->P j vs (H.up m))
  (V:Kp H0 H) (h0:P a (d.map (ad T)) H)
  (hb:∀ j T1 b,a<=j->j<N->T1.length=L->ad T1 i=.int .i64 (j:Int)->Same (i :: c :: k :: fU body) T T1->Kp H0 b->P j (d.map (ad T1)) b ->
   WC tab rd body T1 b (MG id id1 (fun T2 H2=>Kp H0 H2/\P (j+1) (d.map (ad T2)) H2) Q))
  (he:∀ T1 b,T1.length=L->Same (i :: c :: k :: fU body) T T1->Kp H0 b->P N (d.map (ad T1)) b->Q .nrm T1 b) :
  WC tab rd (RD id id1 i n c k body) T H Q:=by
 have aj:=y;simp only [Sf,Ky,decide_eq_true_eq,bne_iff_ne,ne_eq,XE,GR] at y;obtain ⟨⟨⟨⟨⟨⟨⟨⟨⟨⟨⟨⟨o1,o2⟩,o3⟩,o4⟩,o5⟩,o6⟩,o7⟩,o8⟩,o9⟩,al⟩,G⟩,I⟩,af⟩:=y;have J:i ∉ fU body:=fun h=>by rw [Yz.2 h] at G; cases G
 have K:n ∉ fU body:=fun h=>by rw [Yz.2 h] at I; cases I
 have ab:n ∉ i :: c :: k :: fU body:=by
  simp only [FC,not_or]; exact ⟨fun h=>o5 h.symm,o8,o9,K⟩
 have D:∀ {T1 T2:Tm},(∀ s,s≠i->s≠c->s≠k->ad T2 s=ad T1 s)->d.map (ad T2)=d.map (ad T1):=fun h=>by
  refine Ym fun s hs=>?_;obtain ⟨⟨q1,q2⟩,q3⟩:=af s hs;exact h s q1 q2 q3
 unfold RD;refine WB.wcLoop ?_;refine Et (fun r T1 b=>∃ j,r=N-j/\a<=j/\j<=N/\T1.length=L/\ad T1 i=.int .i64 (j:Int)/\Same (i :: c :: k :: fU body) T T1/\Kp H0 b/\P j (d.map (ad T1)) b) ?_ (N-a) T H ⟨a,rfl,o0 _,R,hl,ha,Same.refl _ _,V,h0⟩;rintro r T1 b ⟨j,rfl,S,ah,Y,B,E,W,M⟩;have aa:ad T1 n=.int .i64 (N:Int):=(E.at_ n ab).trans hn;refine AJ (WC.wb ?_);rw [Ii];simp only [EP,AE,El,Ij,TH,B,aa,K8,xS,jd];have C:Kp H0 (b.up 1):=W.up 1;have u:P j (d.map (ad (T1.set c (.bool (decide ((j:Int)<(N:Int))))))) (b.up 1):=by
  rw [D (T1:=T1) fun s q1 q2 q3=>mr _ _ _ _ (Ne.symm q2)];exact F _ _ _ _ M
 have p:Same (i :: c :: k :: fU body) T (T1.set c (.bool (decide ((j:Int)<(N:Int))))) :=
  (E.trans (Same.put T1 (some c) (.bool (decide ((j:Int)<(N:Int)))))).wide fun s hs=>by
   rcases Eu.1 hs with hs | hs
   ·exact hs
   ·simp only [Option.toList_some,Ld] at hs; subst hs; simp
 have o:(T1.set c (.bool (decide ((j:Int)<(N:Int))))).length=L:=by simp [Y]
 have w:ad (T1.set c (.bool (decide ((j:Int)<(N:Int))))) i=.int .i64 (j:Int):=by rw [mr _ _ _ _ (Ne.symm o6)]; exact B
 have A:ad (T1.set c (.bool (decide ((j:Int)<(N:Int))))) c=.bool (decide ((j:Int)<(N:Int))):=by
  rw [wJ _ _ _ _ zO,if_pos rfl]
 generalize ag:T1.set c (.bool (decide ((j:Int)<(N:Int))))=T2 at u p o w A ⊢
 refine AJ (QK (v:=decide ((j:Int)<(N:Int))) A ?_);by_cases hj:j<N
 ·have t:decide ((j:Int)<(N:Int))=true:=by simp; omega
  rw [if_pos t];refine QI ?_;refine AJ (NV ?_);refine (((hb j T2 (b.up 1) S hj o w p C u).wb).same hp).mono ?_;rintro x g q ⟨z,f⟩;have fin:Kp H0 q/\P (j+1) (d.map (ad g)) q->WB tab rd (.region [⟨some k,.bin .add .int (.t i) (.c (.int .i64 1)),none⟩,⟨some i,.mv (.t k),none⟩]) g q (Jf (fun r T1 b=>∃ j,r=N-j/\a<=j/\j<=N/\T1.length=L/\ad T1 i=.int .i64 (j:Int)/\Same (i :: c :: k :: fU body) T T1/\Kp H0 b/\P j (d.map (ad T1)) b) (N-j) (vC id Q)):=by
   rintro ⟨X,O⟩;have U:ad g i=.int .i64 (j:Int):=(z.at_ i J).trans w;have Z:g.length=L:=z.len.trans o;have ae:IntKind.i64.wrap ((j:Int)+1)=((j+1:Nat):Int):=by rw [wrap_i64 zO zO]; simp
   refine WC.wb ?_;rw [Ii];simp only [EP,AE,El,Ij,R6,J4,TH,UP,U,FK,xS,jd,ae];rw [wJ _ _ _ _ zO,if_pos rfl,GH];refine ⟨N-(j+1),zO,j+1,rfl,zO,zO,by simp [Z],?_,?_,X.up _,?_⟩
   ·rw [wJ _ _ _ _ zS,if_pos rfl]
   ·refine ((p.trans z).trans ((Same.put g (some k) _).trans (Same.put _ (some i) _))).wide fun s hs=>?_;rcases Eu.1 hs with hs | hs
    ·rcases Eu.1 hs with hs | hs
     ·exact hs
     ·exact tZ _ (tZ _ (tZ _ hs))
    ·rcases Eu.1 hs with hs | hs
     ·simp only [Option.toList_some,Ld] at hs; subst hs; simp
     ·simp only [Option.toList_some,Ld] at hs; subst hs; simp
   ·rw [D (T1:=g) fun s q1 q2 q3=>by rw [mr _ _ _ _ (Ne.symm q1),mr _ _ _ _ (Ne.symm q3)]];exact F _ _ _ _ O
  cases x with
  | nrm=>exact fin f
  | exit e =>
   simp only [MG] at f;simp only [vC];by_cases h1:e=id1
   ·rw [if_pos h1] at f ⊢; exact fin f
   ·rw [if_neg h1] at f ⊢;simp only [Jf,vC]; exact f
  | goto l=>exact f
  | ret=>exact f
 ·have t:decide ((j:Int)<(N:Int))=false:=by simp; omega
  have:j=N:=zO
  subst this;rw [if_neg (by rw [t]; simp)];refine QJ ?_;show vC id Q (.exit id) T2 (b.up 1);simp only [vC,if_pos];exact he T2 (b.up 1) o p C u
def SM (id:Nat) (P:Tm->Heap->Prop) (Q:Ex->Tm->Heap->Prop) (x:Ex) (T:Tm) (H:Heap):Prop:=match x with
 | .nrm=>P T H
 | .exit e=>if e=id then Q .nrm T H else Q (.exit e) T H
 | x=>Q x T H
section
variable {id:Nat} {P:Tm->Heap->Prop} {Q:Ex->Tm->Heap->Prop} {T:Tm} {H:Heap}
theorem QE:SM id P Q .nrm T H=P T H:=rfl
theorem QD:SM id P Q .ret T H=Q .ret T H:=rfl
theorem NR (l:Nat):SM id P Q (.goto l) T H=Q (.goto l) T H:=rfl
theorem NS (e:Nat):SM id P Q (.exit e) T H=iteH (e=id) (Q .nrm T H) (Q (.exit e) T H) () ():=rfl
end
def cu {id:Nat} {c:ACode} {T:Tm} {H:Heap} {Q:Ex->Tm->Heap->Prop} {L:Nat} (H0:Heap) (f:List Nat) (P:Nat->List AV->Heap->Prop) (j:Nat)
  (hl:T.length=L) (hp:iW c=true) (p:Kp H0 H) (h0:P j (f.map (ad T)) H)
  (hb:∀ k T1 a,T1.length=L->Same (fU c) T T1->Kp H0 a->P k (f.map (ad T1)) a->WC tab rd c T1 a (SM id (fun T2 H2=>Kp H0 H2/\∃ d,d<k/\P d (f.map (ad T2)) H2) Q)):WC tab rd (PQ id c) T H Q:=by
 unfold PQ;refine WB.wcLoop ?_;refine Et (fun k T1 a=>T1.length=L/\Same (fU c) T T1/\Kp H0 a/\P k (f.map (ad T1)) a) ?_ j T H ⟨hl,Same.refl _ _,p,h0⟩;rintro k T1 a ⟨g,h,q,m⟩;refine ((hb k T1 a g h q m).wb.same hp).mono ?_;rintro x T2 H2 ⟨i,b⟩;cases x with
 | nrm =>
  obtain ⟨r,d,o,n⟩:=b;exact ⟨d,o,i.len.trans g,(h.trans i).wide fun s hs=>by simpa using hs,r,n⟩
 | exit e=>exact b
 | goto l=>exact b
 | ret=>exact b
end
def Ve (e:Option Ent) (k:Option Nat) (o:Nat):Option AV:=match e with
 | some (.cells cs _ _)=>bf cs o k
 | _=>none
def Tv (H:Heap) (k:Option Nat) (b o:Nat):bk H k (.ptr b o)=Ve (H.get b) k o:=by
 simp only [bk,Ve];cases H.get b with
 | none=>rfl
 | some e=>cases e <;> rfl
theorem Mt (cs:List AV) (ty:Nat) (rw:Bool) (k:Option Nat) (o:Nat):Ve (some (.cells cs ty rw)) k o=bf cs o k:=rfl
def CS (e:Option Ent) (n o:Nat) (v:AV):Option Ent:=match e with
 | some (.cells cs ty true)=>if v.cells.length=n/\o+n<=cs.length/\v.cells.all AV.one=true then some (.cells (cs.take o++v.cells++cs.drop (o+n)) ty true) else none
 | _=>none
def S6 (H:Heap) (n b o:Nat) (v:AV):rf H n (.ptr b o) v=(CS (H.get b) n o v).map fun e=>H.put b e:=by
 simp only [rf,CS];split
 ·rename_i cs ty h;simp only [h];split <;> rfl
 ·rename_i h;split
  ·rename_i cs ty hg;exact absurd hg (h cs ty)
  ·rfl
def fits (v:AV) (n:Nat) (cs:List AV):Prop:=v.cells=cs/\cs.length=n/\cs.all AV.one=true
def fR {cs vs:List AV} {ty n o:Nat} {v:AV} (h:fits v n vs) (a:o+n<=cs.length):CS (some (.cells cs ty true)) n o v=some (.cells (cs.take o++vs++cs.drop (o+n)) ty true):=by
 obtain ⟨rfl,h2,h3⟩:=h;simp only [CS];rw [if_pos ⟨h2,a,h3⟩]
theorem Mj {α β:Type} (f:α->β) (a:α):(some a).map f=some (f a):=rfl
theorem VI (a:AV) (l:List AV):bf (a :: l) 0 none=some a:=rfl
theorem VH (a b:AV) (l:List AV):bf (a :: b :: l) 1 none=some b:=rfl
theorem Vu (a b c:AV) (l:List AV):bf (a :: b :: c :: l) 2 none=some c:=rfl
theorem U7 (a b:AV):bf [a,b] 0 (some 2)=some (.agg [a,b]):=rfl
theorem U6 (a b c:AV):bf [a,b,c] 0 (some 3)=some (.agg [a,b,c]):=rfl
def One (v:AV):Prop:=v.cells=[v]/\v.one=true
def One.fits {v:AV} (h:One v):fits v 1 [v]:=⟨h.1,rfl,by simp [h.2]⟩
def ai (b:Bool):One (.bool b):=⟨rfl,rfl⟩
def bo (k:IntKind) (n:Int):One (.int k n):=⟨rfl,rfl⟩
def cY (f:Fn) (a b:List AV):One (.fn f a b):=⟨rfl,rfl⟩
def b9 (b o:Nat):One (.ptr b o):=⟨rfl,rfl⟩
def bH:One .nilSl:=⟨rfl,rfl⟩
def bT (b o n c z:Nat) (x:Bool):One (.own b o n c z x):=⟨rfl,rfl⟩
def dm (cs:List AV) (n:Nat):One (.sl cs n):=⟨rfl,rfl⟩
def cz (b:Nat):One (.map b):=⟨rfl,rfl⟩
def Rd.one {H:Heap} {sz:Nat} {v:AV} {cells:List AV} (h:Rd H sz v cells):One v:=by
 obtain ⟨-,h1,n,hn,-⟩:=h;cases v <;> first | exact ⟨rfl,rfl⟩ | exact absurd rfl (h1 _) | (simp [im] at hn; done)
def CL {v:AV} (h:One v):fW v=some [v]:=by
 unfold fW; rw [h.1]; simp [h.2]
def zg {a b:AV} (ha:One a) (hb:One b):fits (.agg [a,b]) 2 [a,b]:=⟨rfl,rfl,by simp [ha.2,hb.2]⟩
def HN {a b:AV} (ha:One a) (hb:One b):fW (.agg [a,b])=some [a,b]:=by
 simp [fW,AV.cells,ha.2,hb.2]
def TP {x y a b:AV} (ha:One a) (hb:One b):cE [x,y] [((0,1),a),((1,1),b)]=some (.agg [a,b]):=by
 simp [cE,cB,ha.1,ha.2,hb.1,hb.2]
def UN {x a:AV} (ha:One a):cB [x] [((0,1),a)]=some [a]:=by simp [cB,ha.1,ha.2]
def Sg {x y a b:AV} (ha:One a) (hb:One b):cB [x,y] [((0,1),a),((1,1),b)]=some [a,b]:=by simp [cB,ha.1,ha.2,hb.1,hb.2]
def U9 {cs:List AV} {ty o:Nat} {v:AV} (h:One v):CS (some (.cells cs ty true)) 1 o v=if o<cs.length then some (.cells (cs.set o v) ty true) else none:=by
 simp only [CS,h.1];by_cases a:o<cs.length
 ·rw [if_pos ⟨rfl,zO,by simp [h.2]⟩,if_pos a];congr 2;rw [Zj,if_pos a]
  simp
 ·rw [if_neg (fun h=>a (by have:=h.2.1; omega)),if_neg a]
def U8 {x y a b:AV} {ty:Nat} (ha:One a) (hb:One b):CS (some (.cells [x,y] ty true)) 2 0 (.agg [a,b])=some (.cells [a,b] ty true):=by
 simp [CS,AV.cells,ha.2,hb.2]
def UM {x y z a b c:AV} (ha:One a) (hb:One b) (hc:One c):cB [x,y,z] [((0,1),a),((1,1),b),((2,1),c)]=some [a,b,c]:=by simp [cB,ha.1,ha.2,hb.1,hb.2,hc.1,hc.2]
def TE {p q r t a b c d:AV} (ha:One a) (hb:One b) (hc:One c) (hd:One d):cB [p,q,r,t] [((0,2),.agg [a,b]),((2,2),.agg [c,d])]=some [a,b,c,d]:=by
 simp [cB,AV.cells,ha.2,hb.2,hc.2,hd.2]
def Fx {p q a b:AV} (ha:One a) (hb:One b):cB [p,q] [((0,2),.agg [a,b])]=some [a,b]:=by
 simp [cB,AV.cells,ha.2,hb.2]
theorem TQ (z:List AV):cE z []=some (.agg z):=rfl
def Tz {H H':Heap} {b:Nat} {e:Ent} (h1:H.next<=b) (h2:b<H'.next):Kp H (H'.put b e) ↔ Kp H H':=by
 refine ⟨fun h=>⟨h.wf0,fun c e' hc=>?_,h.le,fun c hc=>?_⟩,fun h=>h.put h1 h2⟩
 ·by_cases hb:c=b
  ·rw [hb]; exact h2
  ·exact h.wf c e' (by rw [au hb]; exact hc)
 ·have:=h.same c hc
  rwa [au zO] at this
def aG {H:Heap} {b:Nat} {e:Ent} (h:H.get b=none):Sub H (H.put b e):=(Sub.refl H).put h e
def Rs {H H':Heap} {b:Nat} (h1:H.next<=b) (h:Kp H H'):Kp H (H'.kill b) ↔ True:=⟨fun _=>trivial,fun _=>h.kill h1⟩
def UF {H H':Heap} {k:Nat} (h:Kp H H'):Kp H (H'.up k) ↔ True:=⟨fun _=>trivial,fun _=>h.up k⟩
def Ty {H:Heap} {k:Nat} (h:Wf H):Kp H (H.up k) ↔ True:=⟨fun _=>trivial,fun _=>(Kp.refl h).up k⟩
def Rr {H:Heap} (h:Wf H):Kp H H ↔ True:=⟨fun _=>trivial,fun _=>Kp.refl h⟩
def SN {H:Heap} {b:Nat} {e:Ent} (h2:b<H.next):Wf (H.put b e) ↔ Wf H:=by
 refine ⟨fun h c e' hc=>?_,fun h=>h.put h2 e⟩;by_cases hb:c=b
 ·rw [hb]; exact h2
 ·exact h c e' (by rw [au hb]; exact hc)
def Ui {H:Heap} {k:Nat} (h:Wf H):Wf (H.up k) ↔ True:=⟨fun _=>trivial,fun _=>h.bump k⟩
def QF {H:Heap} {b:Nat} (h:Wf H):Wf (H.kill b) ↔ True:=⟨fun _=>trivial,fun _=>h.kill b⟩
structure Ldd (H:Heap) (k:Option Nat) (p w:AV):Prop where
 ld:bk H k p=some w
 put:∀ H' b e,H.next<=b->bk (H'.put b e) k p=bk H' k p
 kill:∀ H' b,H.next<=b->bk (H'.kill b) k p=bk H' k p
theorem O7 (H:Heap) (m:Nat) (k:Option Nat) (p:AV):bk (H.up m) k p=bk H k p:=rfl
def bD {H H':Heap} (h:Sub H H') {k:Option Nat} {p w:AV} (hl:bk H k p=some w):bk H' k p=some w:=by
 unfold bk at hl ⊢;split at hl
 ·split at hl
  ·rename_i hb;rw [h.get _ _ hb]; exact hl
  ·cases hl
 ·exact hl
 ·cases hl
def Ldd.of {H:Heap} (a:Wf H) {k:Option Nat} {p w:AV} (h:bk H k p=some w):Ldd H k p w:=by
 refine ⟨h,fun H' b e hb=>?_,fun H' b hb=>?_⟩
 all_goals
  cases p with
  | ptr c o =>
   have:c<H.next:=by
    simp only [bk] at h;split at h
    ·rename_i hc; exact a c _ hc
    ·cases h
   simp only [bk]
   first | rw [au zO] | rw [cM zO]
  | _=>rfl
def Ldd.mono {H H':Heap} (h:Kp H H') {k:Option Nat} {p w:AV} (hl:Ldd H k p w):Ldd H' k p w:=Ldd.of h.wf (bD h.sub hl.ld)
def SubT (tys:List Nat) (H H':Heap):Prop:=∀ b cs t r,t∈tys->H.get b=some (.cells cs t r)->H'.get b=some (.cells cs t r)
def Sub.t {H H':Heap} (h:Sub H H') (tys:List Nat):SubT tys H H':=fun b cs t r _ hb=>h.get b _ hb
def SubT.of {tys a:List Nat} {H H':Heap} (h:SubT tys H H') (hs:∀ t,t∈a->t∈tys):SubT a H H':=fun b cs t r c hb=>h b cs t r (hs t c) hb
def Vr (H:Heap) (ty:Nat) (v:AV):Prop:=∀ b off n c z x,v=.own b off n c z x->∃ cs r,H.get b=some (.cells cs ty r)
structure fQ (α:Type) where
 sz:Nat
 tys:List Nat
 R:Heap->List AV->α->Prop
 pos:0<sz
 len:∀ {H cs a},R H cs a->cs.length=sz/\cs.all AV.one=true
 mono:∀ {H H' cs a},SubT tys H H'->R H cs a->R H' cs a
variable {α:Type}
def Cells (E:fQ α) (H:Heap) (cells:List AV) (l:List α):Prop:=cells.length=l.length*E.sz/\∀ i a,l[i]? = some a->E.R H ((cells.drop (i*E.sz)).take E.sz) a
def SlV (E:fQ α) (ty:Nat) (H:Heap) (v:AV) (l:List α):Prop:=∃ cells,Rd H E.sz v cells/\Vr H ty v/\Cells E H cells l
def Cells.mono {E:fQ α} {H H':Heap} (h:SubT E.tys H H') {cells:List AV} {l:List α} (hc:Cells E H cells l):Cells E H' cells l:=⟨hc.1,fun i a hi=>E.mono h (hc.2 i a hi)⟩
def SlV.monoT {E:fQ α} {ty:Nat} {H H':Heap} (h:SubT (ty :: E.tys) H H') {v:AV} {l:List α} (hs:SlV E ty H v l):SlV E ty H' v l:=by
 obtain ⟨cells,⟨h0,h1,n,h2,h3⟩,a,hc⟩:=hs;refine ⟨cells,⟨h0,h1,n,h2,?_⟩,fun b off n c z x e=>?_,hc.mono (h.of fun t a=>tZ _ a)⟩
 ·unfold aP at h3 ⊢;split at h3
  ·rename_i b off n' c sz ex;obtain ⟨cs,r,hb⟩:=a b off _ c sz ex rfl;rw [hb] at h3;rw [h b cs ty r (Al ..) hb]; exact h3
  ·exact h3
  ·exact h3
  ·exact h3
  ·cases h3
 ·obtain ⟨cs,r,hb⟩:=a b off n c z x e;exact ⟨cs,r,h b cs ty r (Al ..) hb⟩
def SlV.mono {E:fQ α} {ty:Nat} {H H':Heap} (h:Sub H H') {v:AV} {l:List α} (hs:SlV E ty H v l):SlV E ty H' v l:=hs.monoT (h.t _)
def SlV.one {E:fQ α} {ty:Nat} {H:Heap} {v:AV} {l:List α} (hs:SlV E ty H v l):One v:=by
 obtain ⟨cells,h1,h2⟩:=hs; exact h1.one
def SlV.nil (E:fQ α) (ty:Nat) (H:Heap):SlV E ty H .nilSl []:=⟨[],Rd.nil H E.sz,(fun _ _ _ _ _ _ e=>by cases e),by simp,fun i a h=>by simp at h⟩
def SlV.lenV {E:fQ α} {ty:Nat} {H:Heap} {v:AV} {l:List α} (hs:SlV E ty H v l):lenV v=some (.int .i64 (l.length:Int)):=by
 obtain ⟨cells,h1,-,h2⟩:=hs;exact KC h1 h2.1 E.pos
def SlV.idx {E:fQ α} {ty:Nat} {H:Heap} {v:AV} {l:List α} (hs:SlV E ty H v l) (k:IntKind) (i:Nat) (hi:i<l.length):cS E.sz v (.int k (i:Int))=some (aB v (i*E.sz)):=by
 obtain ⟨cells,h1,-,h2⟩:=hs
 have:=E.pos
 refine RA h1 ?_ E.pos;rw [h2.1,<- Yn];exact B2 _ hi
def MI {H:Heap} {sz:Nat} {v:AV} {cells:List AV} (h:Rd H sz v cells) (hne:cells≠[]) (off o:Nat):CT off (aB v o)=some (aB v (o+off)):=by
 obtain ⟨-,h1,n,hn,a⟩:=h;cases v with
 | own b f m c s e=>simp [aB,CT,XI]
 | sl cs m=>simp [aB,CT]
 | nilSl =>
  simp only [aP] at a;split at a
  ·cases a; exact absurd rfl hne
  ·cases a
 | str s=>exact absurd rfl (h1 _)
 | _=>simp [im] at hn
def SlV.fa {E:fQ α} {ty:Nat} {H:Heap} {v:AV} {l:List α} (hs:SlV E ty H v l) (hne:0<l.length) (off o:Nat):CT off (aB v o)=some (aB v (o+off)):=by
 obtain ⟨cells,h1,-,h2⟩:=hs;refine MI h1 (fun h=>?_) off o
 have:=h2.1
 rw [h] at this
 have:=Nat.mul_pos hne E.pos
 simp at *;omega
def SlV.at {E:fQ α} {ty:Nat} {H:Heap} {v:AV} {l:List α} (hs:SlV E ty H v l) {i:Nat} {a:α} (hi:l[i]? = some a):∃ cs,E.R H cs a/\cs.length=E.sz/\(∀ j c,cs[j]? = some c->bk H none (aB v (i*E.sz+j))=some c)/\bk H (some E.sz) (aB v (i*E.sz))=some (.agg cs):=by
 obtain ⟨cells,h1,-,h2⟩:=hs;have hlt:i<l.length:=(B4.1 hi).1;have b:i*E.sz+E.sz<=cells.length:=by rw [h2.1,<- Yn]; exact B2 _ hlt
 have:=E.pos
 refine ⟨_,h2.2 i a hi,by simp; omega,fun j c hj=>?_,?_⟩
 ·refine h1.load (by simp) ?_;rw [Gy] at hj;split at hj
  ·rw [GQ] at hj
   simpa [bf] using hj
  ·cases hj
 ·refine h1.load zS ?_;simp only [bf];rw [if_pos b]
structure R5 (α:Type) where
 tys:List Nat
 R:Heap->AV->α->Prop
 one:∀ {H v a},R H v a->One v
 mono:∀ {H H' v a},SubT tys H H'->R H v a->R H' v a
def bU (e:R5 α):fQ α where
 sz:=1
 tys:=e.tys
 R H cs a:=∃ v,cs=[v]/\e.R H v a
 pos:=zO
 len:=by rintro H cs a ⟨v,rfl,h⟩; exact ⟨rfl,by simp [(e.one h).2]⟩
 mono:=by rintro H H' cs a hs ⟨v,rfl,h⟩; exact ⟨v,rfl,e.mono hs h⟩
abbrev AD (e:R5 α) (ty:Nat) (H:Heap) (v:AV) (l:List α):Prop:=SlV (bU e) ty H v l
def SlV.at1 {e:R5 α} {ty:Nat} {H:Heap} {v:AV} {l:List α} (hs:AD e ty H v l) {i:Nat} {a:α} (hi:l[i]? = some a):∃ c,e.R H c a/\bk H none (aB v i)=some c:=by
 obtain ⟨cs,⟨c,rfl,hr⟩,-,h2,-⟩:=hs.at hi;refine ⟨c,hr,?_⟩
 have:=h2 0 c rfl
 simpa [bU] using this
def SlV.idx1 {e:R5 α} {ty:Nat} {H:Heap} {v:AV} {l:List α} (hs:AD e ty H v l) (k:IntKind) (i:Nat) (hi:i<l.length):cS 1 v (.int k (i:Int))=some (aB v i):=by
 have:=SlV.idx hs k i hi
 simpa [bU] using this
def Fo (k:IntKind):R5 Int:=⟨[],fun _ v a=>v=.int k a,fun h=>h ▸ bo _ _,fun _ h=>h⟩
def gg:R5 Nat:=⟨[],fun _ v a=>v=.int .u64 (a:Int),fun h=>h ▸ bo _ _,fun _ h=>h⟩
def tT (E:fQ α) (ty:Nat):R5 (List α):=⟨ty :: E.tys,SlV E ty,fun h=>h.one,fun h hs=>hs.monoT h⟩
def Cells.take {E:fQ α} {H:Heap} {cells:List AV} {l:List α} (h:Cells E H cells l) {n:Nat} (hn:n<=l.length):Cells E H (cells.take (n*E.sz)) (l.take n):=by
 have hm:=B2 E.sz hn;refine ⟨by rw [L9,L9,h.1,XO hm,XO hn],fun i a hi=>?_⟩;rw [Gy] at hi;split at hi
 ·rename_i b
  have:=h.2 i a hi
  have h1:i*E.sz+E.sz<=n*E.sz:=by rw [<- Yn]; exact B2 _ b
  rw [List.drop_take,YW,XO zO];exact this
 ·cases hi
def Cells.drop {E:fQ α} {H:Heap} {cells:List AV} {l:List α} (h:Cells E H cells l) (n:Nat):Cells E H (cells.drop (n*E.sz)) (l.drop n):=by
 refine ⟨by rw [XX,XX,h.1,Nat.sub_mul],fun i a hi=>?_⟩;rw [GQ] at hi
 have:=h.2 _ a hi
 rw [List.drop_drop,<- XN];exact this
def Cells.append {E:fQ α} {H:Heap} {b c:List AV} {l1 l2:List α} (h1:Cells E H b l1) (h2:Cells E H c l2):Cells E H (b++c) (l1++l2):=by
 refine ⟨by rw [C5,C5,h1.1,h2.1,XN],fun i a hi=>?_⟩;by_cases hlt:i<l1.length
 ·rw [Ni hlt] at hi
  have:=h1.2 i a hi
  have d:i*E.sz+E.sz<=b.length:=by rw [h1.1,<- Yn]; exact B2 _ hlt
  rw [List.drop_append_of_le_length zO,Y9 (by rw [XX]; omega)];exact this
 ·rw [Xy zO] at hi
  have:=h2.2 _ a hi
  have e:i*E.sz=b.length+(i-l1.length)*E.sz:=by rw [h1.1,<- XN]; congr 1; omega
  rw [e,List.drop_append,ZE zO,Y0,Zx];exact this
def Cells.nil (E:fQ α) (H:Heap):Cells E H [] []:=⟨by simp,fun i a h=>by simp at h⟩
def Cells.one {E:fQ α} {H:Heap} {cs:List AV} {a:α} (h:E.R H cs a):Cells E H cs [a]:=by
 refine ⟨by simp [(E.len h).1],fun i b hi=>?_⟩;cases i with
 | zero=>simp at hi; subst hi; simp [<- (E.len h).1]; exact h
 | succ i=>simp at hi
def Cells.set {E:fQ α} {H:Heap} {cells cs:List AV} {l:List α} (h:Cells E H cells l) {i:Nat} {a:α} (hi:i<l.length) (hr:E.R H cs a):Cells E H (cells.take (i*E.sz)++cs++cells.drop (i*E.sz+E.sz)) (l.set i a):=by
 have e:l.set i a=l.take i++[a]++l.drop (i+1):=by rw [Zj,if_pos hi]; simp
 rw [e]
 have:=h.drop (i+1)
 rw [Yn] at this;exact ((h.take (Ys hi)).append (Cells.one hr)).append this
def Cells.ones {E:fQ α} {H:Heap} {cells:List AV} {l:List α} (h:Cells E H cells l):cells.all AV.one=true:=by
 rw [GR];intro c hc;obtain ⟨j,hj,rfl⟩:=U0 hc;have hp:=E.pos;have hlt:j / E.sz<l.length:=by
  apply Nat.div_lt_of_lt_mul
  rw [EV,<- h.1]; exact hj
 have:=(E.len (h.2 (j / E.sz) _ (eA hlt))).2
 rw [GR] at this;refine this _ ?_;have hm:j % E.sz<E.sz:=XD _ hp;have e:=XP j E.sz;refine Cv (i:=j % E.sz) ?_;rw [Gy,if_pos hm,GQ];rw [EV,e,eA hj]
def sR {H:Heap} {ty sz:Nat} {v a:AV} {lo hi mx:Option AV} (d:Vr H ty v) (h:cG sz v lo hi mx=some a):Vr H ty a:=by
 intro b off n c z x e;subst e;cases v with
 | own b' g n' f z' x' =>
  have hb:b=b':=by
   simp only [cG,bW] at h;split at h
   ·cases h
   ·split at h
    ·simp only [kS,cO] at h;obtain ⟨m,-,h',-,l,-,h⟩:=h;split at h
     ·split at h <;> (cases h; rfl)
     ·cases h
    ·simp only [kS,cO] at h;obtain ⟨h',-,l,-,h⟩:=h;split at h
     ·split at h
      ·cases h; rfl
      ·split at h
       ·cases h; rfl
       ·cases h
     ·cases h
    ·cases h
  subst hb;exact d _ _ _ _ _ _ rfl
 | sl cs n' =>
  exfalso
  simp only [cG,bW] at h;split at h
  ·simp only [kS,cO] at h;obtain ⟨h',-,l,-,h⟩:=h;split at h <;> cases h
  ·simp only [kS,cO] at h;obtain ⟨m,-,h',-,l,-,h⟩:=h;split at h <;> cases h
  ·cases h
 | nilSl =>
  exfalso
  simp only [cG,bW] at h;split at h
  ·split at h <;> cases h
  ·split at h <;> cases h
  ·cases h
 | str s=>cases h
 | _=>cases h
def SlV.hi {E:fQ α} {ty:Nat} {H:Heap} {v:AV} {l:List α} (hs:SlV E ty H v l) (k:IntKind) (n:Nat) (hn:n<=l.length):∃ a,cG E.sz v none (some (.int k (n:Int))) none=some a/\SlV E ty H a (l.take n):=by
 obtain ⟨cells,h1,b,h2⟩:=hs;obtain ⟨a,e,h⟩:=h1.hi (k:=k) (hi:=n) (by rw [h2.1]; exact B2 _ hn) E.pos;exact ⟨a,e,_,h,sR b e,h2.take hn⟩
def SlV.lo {E:fQ α} {ty:Nat} {H:Heap} {v:AV} {l:List α} (hs:SlV E ty H v l) (k:IntKind) (n:Nat) (hn:n<=l.length):∃ a,cG E.sz v (some (.int k (n:Int))) none none=some a/\SlV E ty H a (l.drop n):=by
 obtain ⟨cells,h1,b,h2⟩:=hs;obtain ⟨a,e,h⟩:=h1.lo (k:=k) (lo:=n) (by rw [h2.1]; exact B2 _ hn) E.pos;exact ⟨a,e,_,h,sR b e,h2.drop n⟩
def SlV.clip {E:fQ α} {ty:Nat} {H:Heap} {v:AV} {l:List α} (hs:SlV E ty H v l) (k j:IntKind):∃ a,cG E.sz v none (some (.int k (l.length:Int))) (some (.int j (l.length:Int)))=some a/\SlV E ty H a l:=by
 obtain ⟨cells,h1,b,h2⟩:=hs;obtain ⟨a,e,h⟩:=h1.clip (k:=k) (j:=j) h2.1 E.pos;exact ⟨a,e,_,h,sR b e,h2⟩
def Own (E:fQ α) (ty:Nat) (H0 H:Heap) (b:Nat) (ex:Bool) (v:AV) (l:List α):Prop :=
 ∃ cells,v=.own b 0 l.length l.length E.sz ex/\H.get b=some (.cells cells ty true)/\Cells E H cells l/\H0.next<=b
def Own.sl {E:fQ α} {ty:Nat} {H0 H:Heap} {b:Nat} {ex:Bool} {v:AV} {l:List α} (h:Own E ty H0 H b ex v l):SlV E ty H v l:=by
 obtain ⟨cells,rfl,hb,hc,-⟩:=h;exact ⟨cells,Rd.own hb hc.1 (o0 _),fun _ _ _ _ _ _ e=>by cases e; exact ⟨_,_,hb⟩,hc⟩
def Bl (E:fQ α) (ty:Nat) (H0 H:Heap) (v:AV) (l:List α):Prop:=(v=.nilSl/\l=[])\/∃ b,Own E ty H0 H b false v l
def Bl.nil {E:fQ α} {ty:Nat} {H0 H:Heap}:Bl E ty H0 H .nilSl []:=.inl ⟨rfl,rfl⟩
def Bl.sl {E:fQ α} {ty:Nat} {H0 H:Heap} {v:AV} {l:List α} (h:Bl E ty H0 H v l):SlV E ty H v l:=by
 rcases h with ⟨rfl,rfl⟩ | ⟨b,h⟩
 ·exact SlV.nil E ty H
 ·exact h.sl
def Own.monoT {E:fQ α} {ty:Nat} {H0 H H':Heap} (hs:SubT (ty :: E.tys) H H') {b:Nat} {ex:Bool} {v:AV} {l:List α} (h:Own E ty H0 H b ex v l):Own E ty H0 H' b ex v l:=by
 obtain ⟨cells,rfl,hb,hc,h0⟩:=h;exact ⟨cells,rfl,hs b _ _ _ (Al ..) hb,hc.mono (hs.of fun t a=>tZ _ a),h0⟩
def Own.mono {E:fQ α} {ty:Nat} {H0 H H':Heap} (hs:Sub H H') {b:Nat} {ex:Bool} {v:AV} {l:List α} (h:Own E ty H0 H b ex v l):Own E ty H0 H' b ex v l:=h.monoT (hs.t _)
def Bl.monoT {E:fQ α} {ty:Nat} {H0 H H':Heap} (hs:SubT (ty :: E.tys) H H') {v:AV} {l:List α} (h:Bl E ty H0 H v l):Bl E ty H0 H' v l:=by
 rcases h with h | ⟨b,h⟩
 ·exact .inl h
 ·exact .inr ⟨b,h.monoT hs⟩
def Bl.mono {E:fQ α} {ty:Nat} {H0 H H':Heap} (hs:Sub H H') {v:AV} {l:List α} (h:Bl E ty H0 H v l):Bl E ty H0 H' v l:=h.monoT (hs.t _)
def Bl.put {E:fQ α} {ty:Nat} {H0 H:Heap} {v:AV} {l:List α} (h:Bl E ty H0 H v l) {b:Nat} {e:Ent} (hne:∀ n,v ≠ .own b 0 n n E.sz false) (hs:SubT E.tys H (H.put b e)):Bl E ty H0 (H.put b e) v l:=by
 rcases h with h | ⟨b',cells,rfl,hb,hc,h0⟩
 ·exact .inl h
 ·exact .inr ⟨b',cells,rfl,by rw [au (fun a=>hne _ (by rw [a]))]; exact hb,hc.mono hs,h0⟩
def Bl.kill {E:fQ α} {ty:Nat} {H0 H:Heap} {v:AV} {l:List α} (h:Bl E ty H0 H v l) {b:Nat} (hne:∀ n,v ≠ .own b 0 n n E.sz false) (hs:SubT E.tys H (H.kill b)):Bl E ty H0 (H.kill b) v l:=by
 rcases h with h | ⟨b',cells,rfl,hb,hc,h0⟩
 ·exact .inl h
 ·exact .inr ⟨b',cells,rfl,by rw [cM (fun a=>hne _ (by rw [a]))]; exact hb,hc.mono hs,h0⟩
def SubT.nil (H H':Heap):SubT [] H H':=fun _ _ _ _ h=>by cases h
def SubT.put {tys:List Nat} {H:Heap} {b:Nat} {e:Ent} (h:∀ cs t r,t∈tys->H.get b≠some (.cells cs t r)):SubT tys H (H.put b e):=fun c cs t r d hc=>by
 rw [au (fun a=>h cs t r d (by rw [<- a]; exact hc))]; exact hc
def SubT.put_ty {tys:List Nat} {H:Heap} {b ty:Nat} {e:Ent} {cs:List AV} {r:Bool} (hb:H.get b=some (.cells cs ty r)) (c:ty ∉ tys):SubT tys H (H.put b e):=SubT.put fun d t f a h=>by
 rw [hb] at h; cases h; exact c a
def Bl.base {E:fQ α} {ty:Nat} {H0 a H:Heap} (hs:H0.next<=a.next) {v:AV} {l:List α} (h:Bl E ty a H v l):Bl E ty H0 H v l:=by
 rcases h with h | ⟨b,cells,h1,h2,h3,h4⟩
 ·exact .inl h
 ·exact .inr ⟨b,cells,h1,h2,h3,B5 hs h4⟩
def dr (H:Heap) (id size bytes ty:Nat) (x y:AV):Option (AV × Heap):=match im y with
 | none=>none
 | some m=>match aP H size m y with
  | none=>none
  | some a=>cU H id size bytes ty x m a (match y with | .own b _ _ _ _ _=>some b | _=>none)
def SD {tab:Nat->Option aA} (ev:Src->AV) (H:Heap) (id:Nat) (Q:AV->Heap->Prop) (size bytes ty:Nat) (z:List AV) (x y:Src) :
  nj tab ev H id (.append size bytes ty z x y) Q=ii (dr H id size bytes ty (ev x) (ev y)) (fun r=>Q r.1 r.2) ():=by rw [Lt]; rfl
def Ja (H:Heap) (id ty size bytes:Nat) (z:List AV) (l c:AV):Option (AV × Heap):=match A8 l,A8 c with
 | some l,some c=>if l<=c/\bytes*c<=2^47/\c<2^63/\z.length=size then some (.own id 0 l c size true,H.put id (.cells ((List.replicate c z).flatten) ty true)) else none
 | _,_=>none
def Ue {tab:Nat->Option aA} (ev:Src->AV) (H:Heap) (id:Nat) (Q:AV->Heap->Prop) (ty size bytes:Nat) (z:List AV) (l c:Src) :
  nj tab ev H id (.mksl ty size bytes z l c) Q=ii (Ja H id ty size bytes z (ev l) (ev c)) (fun r=>Q r.1 r.2) ():=by rw [Qm]; rfl
def iS (H:Heap) (id ty size bytes:Nat) (z:List AV) (k j:IntKind) (n:Nat) (hb:bytes*n<=140737488355328) (hn:n<9223372036854775808) (hz:z.length=size) :
  Ja H id ty size bytes z (.int k (n:Int)) (.int j (n:Int))=some (.own id 0 n n size true,H.put id (.cells ((List.replicate n z).flatten) ty true)):=by
 simp only [Ja,gE];rw [if_pos ⟨o0 _,hb,hn,hz⟩]
def mm {E:fQ α} {H:Heap} {z:List AV} {a:α} (hz:E.R H z a) (n:Nat):Cells E H (List.replicate n z).flatten (List.replicate n a):=by
 induction n with
 | zero=>exact Cells.nil E H
 | succ n b=>rw [Ya,Ya,ZK]; exact (Cells.one hz).append b
def Bl.app {E:fQ α} {ty ty2 bytes id:Nat} {H0 H:Heap} {v w:AV} {l l2:List α} (h:Bl E ty H0 H v l) (L:ty ∉ E.tys) (i:Kp H0 H) (hy:SlV E ty2 H w l2) (g:H0.next<=id) (u:id<H.next) (G:H.get id=none)
  (hne:∀ b n,v=.own b 0 n n E.sz false->∀ off m c z x,w ≠ .own b off m c z x) (hb:(l.length+l2.length)*bytes<=70368744177664) (hl:l.length+l2.length<4611686018427387904) :
  ∃ o H',dr H id E.sz bytes ty v w=some (o,H')/\Bl E ty H0 H' o (l++l2)/\Kp H0 H'/\H'.next=H.next/\(∀ b e,H.get b=some e->(∀ n,v ≠ .own b 0 n n E.sz false)->H'.get b=some e)/\(0<l2.length->∃ n,o=.own id 0 n n E.sz false):=by
 obtain ⟨d,hr,N,hc⟩:=hy;obtain ⟨m,hm,I⟩:=hr.length;obtain ⟨-,-,m',y,D⟩:=hr;rw [hm] at y; cases y;have J:m=l2.length:=YB E.pos (by rw [<- I,hc.1]);subst J;obtain ⟨fr,s⟩:∃ fr,(match w with | .own b _ _ _ _ _=>some b | _=>none)=fr:=⟨_,rfl⟩
 have B:dr H id E.sz bytes ty v w=cU H id E.sz bytes ty v l2.length d fr:=by
  unfold dr;rw [hm];simp only;rw [D];simp only;rw [s]
 rw [B];have K:=hc.ones;have j:∀ {b e},H.get b=some e->b≠id:=fun hb a=>by rw [a,G] at hb; cases hb
 rcases h with ⟨rfl,rfl⟩ | ⟨b,cells,rfl,f,hcl,p⟩
 ·by_cases h0:l2.length=0
  ·refine ⟨.nilSl,H,by simp only [cU]; rw [if_pos h0],.inl ⟨rfl,by simpa using h0⟩,i,rfl,fun b e hb _=>hb,fun h=>by omega⟩
  ·refine ⟨_,_,by simp only [cU]; rw [if_neg h0,if_pos ⟨by simpa using hb,by simpa using hl⟩],.inr ⟨id,d,by simp,al _ _ _,?_,g⟩,i.put g u,rfl,fun b e hb _=>?_,fun _=>⟨_,rfl⟩⟩
   ·have:=hc.mono (H':=H.put id (.cells d ty true)) fun c cs t r _ q=>by rw [au (j q)]; exact q
    simpa using this
   ·rw [au (j hb)]; exact hb
 ·have M:b≠id:=j f;have F:fr≠some b:=by
   rw [<- s];cases w with
   | own b' off m c z x =>
    simp only [ne_eq,QW];intro a; subst a;exact hne _ _ rfl _ _ _ _ _ rfl
   | _=>simp
  simp only [cU,f];rw [if_pos ⟨trivial,hb,hl,trivial,by simp; exact Zm hcl.1.symm⟩];by_cases h0:l2.length=0
  ·rw [if_pos zO,if_pos h0];refine ⟨_,H,rfl,.inr ⟨b,cells,?_,f,?_,p⟩,i,rfl,fun b e hb _=>hb,fun h=>by omega⟩
   ·simp [h0]
   ·have:l2=[]:=OK h0
    subst this; simpa using hcl
  ·rw [if_neg zO];simp only [XC,if_false];rw [if_pos ⟨trivial,trivial,F,K⟩];have A:∀ c e,H.get c=some e->c≠b->((H.kill b).put id (.cells (cells.take (l.length*E.sz)++d) ty true)).get c=some e:=fun c e hc C=>by
    rw [au (j hc),cM C]; exact hc
   refine ⟨_,_,rfl,.inr ⟨id,_,by simp,al _ _ _,?_,g⟩,(i.kill p).put g u,rfl,fun c e hc he=>A c e hc fun a=>?_,fun _=>⟨_,rfl⟩⟩
   ·have hs:SubT E.tys H ((H.kill b).put id (.cells (cells.take (l.length*E.sz)++d) ty true)):=fun c cs t r k hc=>A c _ hc fun a=>by
     subst a;rw [f] at hc; cases hc;exact L k
    have k:cells.take (l.length*E.sz)=cells:=by rw [<- hcl.1,KO]
    rw [k] at hs ⊢;exact (hcl.mono hs).append (hc.mono hs)
   ·subst a;exact he _ rfl
def Bl.push {E:fQ α} {ty ty2 bytes id id2 k:Nat} {H0 H:Heap} {v:AV} {l:List α} {cs:List AV} {a:α} (h:Bl E ty H0 H v l) (A:ty ∉ E.tys) (d:Kp H0 H) (hr:E.R H cs a) (s:H.next<=id) (w:id<H.next+k) (t:H.next<=id2) (u:id2<H.next+k) (hne:id≠id2)
  (hb:(l.length+1)*bytes<=70368744177664) (hl:l.length+1<4611686018427387904) :
  ∃ n H',dr ((H.up k).put id2 (.cells cs ty2 true)) id E.sz bytes ty v (.own id2 0 1 1 E.sz true)=some (.own id 0 n n E.sz false,H')/\Bl E ty H0 H' (.own id 0 n n E.sz false) (l++[a])/\Kp H0 H'/\H'.next=H.next+k/\(∀ b e,H.get b=some e->(∀ n,v ≠ .own b 0 n n E.sz false)->H'.get b=some e):=by
 have C:=d.le;have i:∀ {c},H.next<=c->H.get c=none:=fun hc=>d.wf.fresh hc
 have g:Sub H ((H.up k).put id2 (.cells cs ty2 true)):=(Sub.bump H k).put (i t) _;have y:Kp H0 ((H.up k).put id2 (.cells cs ty2 true)):=(d.up k).put zO u;have hy:SlV E ty2 ((H.up k).put id2 (.cells cs ty2 true)) (.own id2 0 1 1 E.sz true) [a]:=by
  have:Own E ty2 H0 ((H.up k).put id2 (.cells cs ty2 true)) id2 true (.own id2 0 1 1 E.sz true) [a]:=⟨cs,rfl,al _ _ _,Cells.one (E.mono (g.t _) hr),zO⟩
  exact this.sl
 obtain ⟨D,H',j,o,e3,p,e5,e6⟩:=(h.mono g).app (id:=id) (bytes:=bytes) A y hy zO w (by rw [au hne]; exact i s) (fun b n f off m c z x B=>by
  cases B;rcases h with ⟨h,-⟩ | ⟨b',cells,h,q,-⟩
  ·rw [h] at f; cases f
  ·rw [h] at f; cases f
   have:=d.wf _ _ q
   omega) hb hl
 obtain ⟨n,rfl⟩:=e6 (by simp);exact ⟨n,H',j,o,e3,p,fun b e r he=>e5 b e (g.get _ _ r) he⟩
def Bl.ne {E:fQ α} {ty:Nat} {H0 H:Heap} {v:AV} {l:List α} (h:Bl E ty H0 H v l) {b:Nat} {e:Ent} (hb:H.get b=some e) (he:∀ cs,e ≠ .cells cs ty true) (n:Nat):v ≠ .own b 0 n n E.sz false:=by
 intro a;rcases h with ⟨h,-⟩ | ⟨b',cells,h,c,-⟩
 ·rw [h] at a; cases a
 ·rw [h] at a; cases a;rw [hb] at c; cases c;exact he _ rfl
def SlV.app {E:fQ α} {ty ty2 bytes id b off:Nat} {H0 H:Heap} {w:AV} {l l2:List α} (h:SlV E ty H (.own b off l.length l.length E.sz true) l) (k:Kp H0 H) (hy:SlV E ty2 H w l2) (j:H0.next<=id) (v:id<H.next) (u:H.get id=none)
  (hb:(l.length+l2.length)*bytes<=70368744177664) (hl:l.length+l2.length<4611686018427387904) :
  ∃ f H',dr H id E.sz bytes ty (.own b off l.length l.length E.sz true) w=some (f,H')/\SlV E ty H' f (l++l2)/\Kp H0 H'/\H'.next=H.next/\Sub H H'/\(0<l2.length->Own E ty H0 H' id false f (l++l2)):=by
 obtain ⟨cells,B,p,hcl⟩:=h;obtain ⟨cs,F,hg⟩:=p _ _ _ _ _ _ rfl;obtain ⟨-,-,D,o,d⟩:=B;simp only [im,QW] at o;subst o;simp only [aP,hg] at d;obtain ⟨a,hr,C,hc⟩:=hy;obtain ⟨m,hm,y⟩:=hr.length;obtain ⟨-,-,m',n,r⟩:=hr;rw [hm] at n; cases n;have z:m=l2.length:=YB E.pos (by rw [<- y,hc.1]);obtain ⟨fr,t⟩:∃ fr,(match w with | .own b _ _ _ _ _=>some b | _=>none)=fr:=⟨_,rfl⟩
 subst z;have A:∀ {b e},H.get b=some e->b≠id:=fun hb q=>by rw [q,u] at hb; cases hb
 split at d
 ·rename_i i;cases d;have g:∀ fr,cU H id E.sz bytes ty (.own b off l.length l.length E.sz true) l2.length a fr=if l2.length=0 then some (.own b off l.length l.length E.sz true,H) else some (.own id 0 (l.length+l2.length) (l.length+l2.length) E.sz false,H.put id (.cells ((cs.drop off).take (l.length*E.sz)++a) ty true)):=fun fr=>by
   simp only [cU,hg];rw [if_pos ⟨trivial,hb,hl,trivial,i.2.2⟩];by_cases h0:l2.length=0
   ·rw [if_pos zO,if_pos h0,if_pos h0]
   ·rw [if_neg zO,if_neg h0]
    simp
  have e:∀ x,dr H id E.sz bytes ty x w=cU H id E.sz bytes ty x l2.length a fr:=fun x=>by
   unfold dr;rw [hm];simp only;rw [r];simp only;rw [t]
  by_cases h0:l2.length=0
  ·refine ⟨_,H,by rw [e,g,if_pos h0],?_,k,rfl,Sub.refl H,fun h=>by omega⟩
   have:l2=[]:=OK h0
   subst this;rw [X5];refine ⟨_,⟨o0 _,(fun s h=>by cases h),l.length,rfl,?_⟩,p,hcl⟩;simp only [aP,hg];rw [if_pos i]
  ·have hs:Sub H (H.put id (.cells ((cs.drop off).take (l.length*E.sz)++a) ty true)):=⟨o0 _,fun c e hc=>by rw [au (A hc)]; exact hc⟩
   refine ⟨_,_,by rw [e,g,if_neg h0],?_,k.put j v,rfl,hs,fun _=>⟨_,by rw [C5],al _ _ _,(hcl.mono (hs.t _)).append (hc.mono (hs.t _)),j⟩⟩;refine ⟨(cs.drop off).take (l.length*E.sz)++a,Rd.own (al _ _ _) ?_ (o0 _),fun _ _ _ _ _ _ e=>by cases e; exact ⟨_,_,al _ _ _⟩,(hcl.mono (hs.t _)).append (hc.mono (hs.t _))⟩;rw [C5,hcl.1,hc.1,XN]
 ·cases d
def SlV.nilcase {E:fQ α} {ty:Nat} {H:Heap} {v:AV} {l:List α} (h:SlV E ty H v l):(v=.nilSl/\l=[])\/bY .eql .sl v .nilSl=some (.bool false):=by
 obtain ⟨cells,⟨-,h1,n,hn,a⟩,-,hc⟩:=h;cases v with
 | nilSl =>
  simp only [aP] at a;split at a
  ·cases a;refine .inl ⟨rfl,OK ?_⟩
   have:=hc.1
   have hp:=E.pos;simp only [YN] at this;rcases Nat.mul_eq_zero.1 this.symm with h | h
   ·exact h
   ·omega
  ·cases a
 | own b off n c z x=>exact .inr rfl
 | sl cs n=>exact .inr rfl
 | str s=>exact absurd rfl (h1 _)
 | _=>simp [im] at hn
def aN (l:List Nat):List AV:=l.map fun a=>.int .u64 ((a:Nat):Int)
def pf (l:List Nat):(aN l).length=l.length:=by simp [aN]
def Mr (l:List Nat) (j a:Nat):(aN l).set j (.int .u64 (a:Int))=aN (l.set j a):=by simp [aN,Z3]
def EE {l:List Nat} {j:Nat} (h:j<l.length):bf (aN l) j none=some (.int .u64 ((l.getD j 0:Nat):Int)):=by
 simp [bf,aN,iF,h]
def uX (H:Heap) (l:List Nat):Cells (bU gg) H (aN l) l:=by
 refine ⟨by simp [aN,bU],fun i a hi=>⟨.int .u64 (a:Int),?_,rfl⟩⟩;have hlt:=(B4.1 hi).1
 apply Yk
 intro k;have e:(aN l)[i]? = some (.int .u64 (a:Int)):=by simp [aN,hi]
 simp only [bU,Gy,GQ,Yb];cases k with
 | zero=>simpa using e
 | succ k=>simp
def mX (n:Nat):(List.replicate n [AV.int .u64 0]).flatten=aN (List.replicate n 0):=by
 induction n with
 | zero=>rfl
 | succ n a=>rw [Ya,ZK,a]; rfl
def ww {H0 H:Heap} {b ty:Nat} {l:List Nat} {n:Nat} {ex:Bool} (hb:H.get b=some (.cells (aN l) ty true)) (h0:H0.next<=b) (hn:l.length=n):Own (bU gg) ty H0 H b ex (.own b 0 n n 1 ex) l:=⟨_,by rw [hn]; rfl,hb,uX H l,h0⟩
def jB {b off n c sz j:Nat} {x:Bool} {k:IntKind} (h:j<n):cS sz (.own b off n c sz x) (.int k (j:Int))=some (.ptr b (off+j*sz)):=by
 show aS _ (.indexAddr sz (.t 0) (.t 1))=_;simp [aS,gE,h]
theorem KB (b off n c sz:Nat) (x:Bool):lenV (.own b off n c sz x)=some (.int .i64 (n:Int)):=rfl
def TC {α:Type} {a b:Nat} {x y:α} (h:a<b):(if a<b then x else y)=x:=if_pos h
def vI (o:AOp):Bool:=o.looks || o.isPure
section
variable (tab:Nat->Option aA)
def NU (base:Nat) (T:Tm) (i:Nat) (d:jT) (s:DS) (K:DS->Prop):Prop:=match d.cls,d.looks with
 | 0,(k,adds) :: _=>vI d.op=true/\nj tab (Src.ev T) (dL base s.Es (s.Cs.getD k default) adds) 0 d.op fun v _=>K ⟨s.Vs++[v],s.Cs,s.Es++[none]⟩
 | 1,_=>d.op.makes=true/\nj tab (Src.ev T) (Heap.nil 0) (base+i) d.op fun v H'=>K ⟨s.Vs++[v],s.Cs,s.Es++[H'.get (base+i)]⟩
 | 2,[(k,adds)]=>nj tab (Src.ev T) (dL base s.Es (s.Cs.getD k default) adds) (base+i) d.op fun v H'=>K ⟨s.Vs++[v],s.Cs++[H'],s.Es++[none]⟩
 | _,_=>False
def Im (base:Nat) (d:jT) (s:DS) (K:DS->Prop):Prop:=match d.cls,d.looks with
 | 2,[(k,adds)]=>K ⟨s.Vs++[.tup []],s.Cs++[dL base s.Es (s.Cs.getD k default) adds],s.Es++[none]⟩
 | 2,_=>False
 | _,_=>K ⟨s.Vs++[.tup []],s.Cs,s.Es++[none]⟩
def wd (base:Nat) (T0:Tm):Nat->List jT->DS->(DS->Prop)->Prop
 | _,[],s,Q=>Q s
 | i,d :: ds,s,Q=>match b7 (cw T0 s.Vs d.uses) d.guard with
  | none=>False
  | some true=>NU tab base (cw T0 s.Vs d.uses) i d s fun s'=>wd base T0 (i+1) ds s' Q
  | some false=>Im base d s fun s'=>wd base T0 (i+1) ds s' Q
end
section
variable {tab:Nat->Option aA}
def FW {base i:Nat} {T0:Tm} {d:jT} {s:DS} {K:DS->Prop} (b:b7 (cw T0 s.Vs d.uses) d.guard=some true) (h:NU tab base (cw T0 s.Vs d.uses) i d s K) :
  ∃ s',K s'/\∃ N,∀ m n,N<=m->N<=n->kI (lU tab fd m n) base T0 i d s=some s':=by
 obtain ⟨dst,op,guard,uses,cls,looks⟩:=d;simp only at b;unfold NU at h;simp only at h;split at h
 ·rename_i k adds r;obtain ⟨hz,h⟩:=h;have h:=h.run;obtain ⟨v,H',a,N,g⟩:=mA h;refine ⟨_,a,N,fun m n hm hn=>?_⟩;have g:=g m n hm hn;unfold kI;simp only [b];cases hp:aS (Src.ev (cw T0 s.Vs uses)) op with
  | some w =>
   have:BB (lU tab fd m n) (Src.ev (cw T0 s.Vs uses)) (dL base s.Es (s.Cs.getD k default) adds) 0 op=some (w,dL base s.Es (s.Cs.getD k default) adds):=by
    cases op <;> first | (simp only [BB,hp]; done) | (simp [aS] at hp; done)
   rw [this] at g;cases g; rfl
  | none =>
   have hh:bi (Src.ev (cw T0 s.Vs uses)) (dL base s.Es (s.Cs.getD k default) adds) 0 op=some (v,H'):=by
    cases op <;> first | (simp only [BB,hp] at g; exact g) | (simp [vI,AOp.looks,AOp.isPure] at hz; done)
   have hl:op.looks=true:=by
    cases op <;> first | rfl | (simp [bi] at hh; done) | (simp [vI,AOp.looks,AOp.isPure] at hz; done)
   simp only [hh,hl,if_true]
 ·obtain ⟨hz,h⟩:=h;have h:=h.run;obtain ⟨v,H',a,N,g⟩:=mA h;refine ⟨_,a,N,fun m n hm hn=>?_⟩;have g:=g m n hm hn;unfold kI;simp only [b,hz,if_true];have hp:aS (Src.ev (cw T0 s.Vs uses)) op=none:=by cases op <;> first | rfl | (simp [AOp.makes] at hz; done)
  have hh:bi (Src.ev (cw T0 s.Vs uses)) (Heap.nil 0) (base+i) op=some (v,H'):=by
   cases op <;> first | (simp only [BB,hp] at g; exact g) | (simp [AOp.makes] at hz; done)
  simp only [hh]
 ·have h:=h.run;obtain ⟨v,H',a,N,g⟩:=mA h;refine ⟨_,a,N,fun m n hm hn=>?_⟩;have g:=g m n hm hn;unfold kI;simp only [b,g]
 ·exact h.elim
def Er {cal:oJ} {base i:Nat} {T0:Tm} {d:jT} {s:DS} {K:DS->Prop} (a:b7 (cw T0 s.Vs d.uses) d.guard=some false) (h:Im base d s K):∃ s',K s'/\∀ cal,kI cal base T0 i d s=some s':=by
 obtain ⟨dst,op,guard,uses,cls,looks⟩:=d;simp only at a;unfold Im at h;simp only at h;split at h
 ·refine ⟨_,h,fun cal=>?_⟩;unfold kI; simp only [a]
 ·exact h.elim
 ·rename_i h1 h2;refine ⟨_,h,fun cal=>?_⟩;unfold kI;simp only [a]
def AI {base:Nat} {T0:Tm}:∀ (ds:List jT) (i:Nat) (s:DS) (Q:DS->Prop),wd tab base T0 i ds s Q->∃ s',Q s'/\∃ N,∀ m n,N<=m->N<=n->vA (lU tab fd m n) base T0 i ds s=some s'
 | [],i,s,Q,h=>⟨s,h,0,fun _ _ _ _=>rfl⟩
 | d :: ds,i,s,Q,h=>by
  unfold wd at h;split at h
  ·exact h.elim
  ·rename_i f;obtain ⟨s1,h1,g,b⟩:=FW f h;obtain ⟨s2,e,a,c⟩:=AI ds _ _ _ h1;refine ⟨s2,e,g+a,fun m n hm hn=>?_⟩;unfold vA;rw [b m n zO zO];exact c m n zO zO
  ·rename_i f;obtain ⟨s1,h1,b⟩:=Er (cal:=Ux) (i:=i) f h;obtain ⟨s2,e,a,c⟩:=AI ds _ _ _ h1;refine ⟨s2,e,a,fun m n hm hn=>?_⟩;unfold vA;rw [b];exact c m n hm hn
structure WD (tab:Nat->Option aA) (base:Nat) (T0:Tm) (i:Nat) (ds:List jT) (s:DS) (Q:DS->Prop):Prop where
 run:wd tab base T0 i ds s Q
def Ej:WD=wd:=by funext tab b T0 i ds s Q; exact propext ⟨fun h=>h.run,fun h=>⟨h⟩⟩
def AV.beq_refl':∀ v:AV,AV.beq v v=true:=by
 intro v
 induction v using AV.rec (motive_2:=fun l=>AV.beqs l l=true) with
 | undef=>rfl
 | bool b=>simp [AV.beq]
 | int k n=>simp [AV.beq]
 | str s=>simp [AV.beq]
 | nilPtr=>rfl
 | nilSl=>rfl
 | nilFn=>rfl
 | nilIf=>rfl
 | nilMap=>rfl
 | agg cs d=>simpa [AV.beq] using d
 | tup cs d=>simpa [AV.beq] using d
 | sl cs n d=>simpa [AV.beq] using d
 | dp cs n d=>simpa [AV.beq] using d
 | own b off n c sz ex=>simp [AV.beq]
 | ptr b off=>simp [AV.beq]
 | fn f a b e g=>simp [AV.beq,e,g]
 | ifc t v d=>simp [AV.beq,d]
 | map b=>simp [AV.beq]
 | loopv b=>simp [AV.beq]
 | nil=>rfl
 | cons a l e h=>simp [AV.beqs,e,h]
def lW (tab:Nat->Option aA) (base:Nat) (T:Tm) (Cs:List Heap) (Es:List (Option Ent)) (op:AOp) (w:AV):List (Nat × List Nat)->Prop
 | []=>True
 | (k,adds) :: r=>nj tab (Src.ev T) (dL base Es (Cs.getD k default) adds) 0 op (fun v _=>v=w)/\lW tab base T Cs Es op w r
def Jg (tab:Nat->Option aA) (base:Nat) (T0:Tm) (Vs:List AV) (Cs:List Heap) (Es:List (Option Ent)) (i:Nat) (d:jT):Prop:=match d.cls with
 | 0=>match d.guard with
  | none=>vI d.op=true/\lW tab base (cw T0 Vs d.uses) Cs Es d.op (Vs.getD i .undef) d.looks
  | some p=>mY (ad (cw T0 Vs d.uses) p.1) p.2 (vI d.op=true/\lW tab base (cw T0 Vs d.uses) Cs Es d.op (Vs.getD i .undef) d.looks) True () ()
 | _+1=>True
def ky (tab:Nat->Option aA) (base:Nat) (T0:Tm) (Vs:List AV) (Cs:List Heap) (Es:List (Option Ent)):Nat->List jT->Prop
 | _,[]=>True
 | i,d :: ds=>Jg tab base T0 Vs Cs Es i d/\ky tab base T0 Vs Cs Es (i+1) ds
def In (T:Tm) (t:Nat) (w:Bool):b7 T (some (t,w))=match ad T t with | .bool b=>some (b == w) | .tup []=>some false | _=>none:=by
 unfold ad;rw [iF];cases h:T[t]? with
 | none=>simp only [b7,h]; rfl
 | some v =>
  simp only [b7,h,Yc];cases v with
  | tup vs=>cases vs <;> rfl
  | _=>rfl
def rP {base:Nat} {T:Tm} {Cs:List Heap} {Es:List (Option Ent)} {op:AOp} {w:AV} (hz:vI op=true) (hp:aS (Src.ev T) op=none):∀ {looks:List (Nat × List Nat)},lW tab base T Cs Es op w looks->(looks.all fun p=>match bi (Src.ev T) (dL base Es (Cs.getD p.1 default) p.2) 0 op with | some (v,_)=>AV.beq v w | none=>false)=true
 | [],_=>rfl
 | (k,adds) :: r,h=>by
  obtain ⟨h1,h2⟩:=h;obtain ⟨v,H',rfl,N,g⟩:=mA h1.run;have g:=g N N (o0 _) (o0 _);have hh:bi (Src.ev T) (dL base Es (Cs.getD k default) adds) 0 op=some (v,H'):=by
   cases op <;> first | (simp only [BB,hp] at g; exact g) | (simp [vI,AOp.looks,AOp.isPure] at hz; done)
  rw [List.all_cons,rP hz hp h2];simp only [hh,AV.beq_refl',Bool.and_true]
def Fd {base:Nat} {T0:Tm} {s:DS} {i:Nat} {d:jT} (h:Jg tab base T0 s.Vs s.Cs s.Es i d):kP base T0 s i d=true:=by
 obtain ⟨dst,op,g,us,c,looks⟩:=d;cases c with
 | succ c=>rfl
 | zero =>
  cases g with
  | none =>
   obtain ⟨hz,h1⟩:=h;unfold kP;simp only [show b7 (cw T0 s.Vs us) none=some true from rfl];cases hp:aS (Src.ev (cw T0 s.Vs us)) op with
   | some v=>rfl
   | none=>exact rP hz hp h1
  | some p =>
   obtain ⟨t,w⟩:=p;unfold Jg mY at h;simp only at h;unfold kP;simp only [In];cases hg:ad (cw T0 s.Vs us) t with
   | bool b =>
    rw [hg] at h;simp only at h;by_cases hb:b=w
    ·rw [if_pos hb] at h;subst hb;simp only [beq_self_eq_true];cases hp:aS (Src.ev (cw T0 s.Vs us)) op with
     | some v=>rfl
     | none=>exact rP h.1 hp h.2
    ·have:(b == w)=false:=by simpa using hb
     simp only [this]
   | tup vs=>cases vs <;> rfl
   | _=>rw [hg] at h; exact h.elim
def wq {base:Nat} {T0:Tm} {s:DS}:∀ (ds:List jT) (i:Nat),ky tab base T0 s.Vs s.Cs s.Es i ds->ml base T0 s i ds=true
 | [],i,_=>rfl
 | d :: ds,i,h=>by
  unfold ml;rw [wq ds _ h.2,Fd h.1]; rfl
def UQ (tab:Nat->Option aA) (base:Nat) (T0:Tm) (ds:List jT) (late:List Nat) (Q:Tm->Heap->Prop) (s:DS):Prop:=ky tab base T0 s.Vs s.Cs s.Es 0 ds/\Q (gM T0 ds s.Vs) (dL base s.Es (s.Cs.getLastD default) late)
def aF {rd:Bool} {ds:List jT} {late:List Nat} {T:Tm} {H:Heap} {Q:Ex->Tm->Heap->Prop} (h:WD tab H.next T 0 ds ⟨[],[H.up ds.length],[]⟩ (UQ tab H.next T ds late (Q .nrm))):WC tab rd (.draw ds late) T H Q:=by
 obtain ⟨s,⟨hs,a⟩,N,g⟩:=AI _ _ _ _ h.run;have hs:=wq _ _ hs;refine ⟨.nrm,_,_,⟨N,fun m n hm hn=>?_⟩,a⟩;simp only [aL,Hj];rw [show ({ H with next:=H.next+ds.length }:Heap)=H.up ds.length from rfl,g m n hm hn];simp only [hs,if_true]
variable {base i k:Nat} {T0:Tm} {dst:Option Nat} {op:AOp} {us:List (Nat × Option Nat)} {adds:List Nat} {r:List (Nat × List Nat)} {ds:List jT} {Vs:List AV} {Cs:List Heap} {Es:List (Option Ent)} {Q:DS->Prop}
theorem SO:WD tab base T0 i [] ⟨Vs,Cs,Es⟩ Q=Q ⟨Vs,Cs,Es⟩:=by rw [Ej]; rfl
theorem QH:WD tab base T0 i (⟨dst,op,none,us,0,(k,adds) :: r⟩ :: ds) ⟨Vs,Cs,Es⟩ Q=(vI op=true/\nj tab (Src.ev (cw T0 Vs us)) (dL base Es (Cs.getD k default) adds) 0 op fun v _=>WD tab base T0 (i+1) ds ⟨Vs++[v],Cs,Es++[none]⟩ Q):=by rw [Ej]; rfl
def QG:WD tab base T0 i (⟨dst,op,none,us,1,r⟩ :: ds) ⟨Vs,Cs,Es⟩ Q=(op.makes=true/\nj tab (Src.ev (cw T0 Vs us)) (Heap.nil 0) (base+i) op fun v H'=>WD tab base T0 (i+1) ds ⟨Vs++[v],Cs,Es++[H'.get (base+i)]⟩ Q):=by
 rw [Ej]
 conv=>lhs; unfold wd
 cases r <;> rfl
theorem SP:WD tab base T0 i (⟨dst,op,none,us,2,[(k,adds)]⟩ :: ds) ⟨Vs,Cs,Es⟩ Q=nj tab (Src.ev (cw T0 Vs us)) (dL base Es (Cs.getD k default) adds) (base+i) op fun v H'=>WD tab base T0 (i+1) ds ⟨Vs++[v],Cs++[H'],Es++[none]⟩ Q:=by rw [Ej]; rfl
def NT {t:Nat} {w:Bool}:WD tab base T0 i (⟨dst,op,some (t,w),us,0,(k,adds) :: r⟩ :: ds) ⟨Vs,Cs,Es⟩ Q =
  mY (ad (cw T0 Vs us) t) w (vI op=true/\nj tab (Src.ev (cw T0 Vs us)) (dL base Es (Cs.getD k default) adds) 0 op fun v _=>WD tab base T0 (i+1) ds ⟨Vs++[v],Cs,Es++[none]⟩ Q) (WD tab base T0 (i+1) ds ⟨Vs++[.tup []],Cs,Es++[none]⟩ Q) () ():=by
 rw [Ej];have a:b7 (cw T0 Vs us) (some (t,w))=match ad (cw T0 Vs us) t with | .bool b=>some (b == w) | .tup []=>some false | _=>none:=by
  generalize cw T0 Vs us=T
  unfold ad;rw [iF];cases h:T[t]? with
  | none=>simp only [b7,h]; rfl
  | some v =>
   simp only [b7,h,Yc];cases v with
   | tup vs=>cases vs <;> rfl
   | _=>rfl
 conv=>lhs; unfold wd
 simp only [a,mY];cases ad (cw T0 Vs us) t with
 | bool b=>cases b <;> cases w <;> rfl
 | tup vs=>cases vs <;> rfl
 | _=>rfl
theorem N0 (T0:Tm) (Vs:List AV):cw T0 Vs []=List.replicate T0.length .undef:=rfl
theorem NZ (T0:Tm) (Vs:List AV) (u:Nat × Option Nat):cw T0 Vs [u]=(List.replicate T0.length .undef).set u.1 (nk T0 Vs u):=rfl
theorem NY (T0:Tm) (Vs:List AV) (u v:Nat × Option Nat):cw T0 Vs [u,v]=((List.replicate T0.length .undef).set u.1 (nk T0 Vs u)).set v.1 (nk T0 Vs v):=rfl
theorem Is (T0:Tm) (Vs:List AV) (u v w:Nat × Option Nat):cw T0 Vs [u,v,w]=(((List.replicate T0.length .undef).set u.1 (nk T0 Vs u)).set v.1 (nk T0 Vs v)).set w.1 (nk T0 Vs w):=rfl
theorem NW (T0:Tm) (Vs:List AV) (n:Nat):nk T0 Vs (n,none)=ad T0 n:=rfl
theorem NX (T0:Tm) (Vs:List AV) (n j:Nat):nk T0 Vs (n,some j)=Vs.getD j .undef:=rfl
theorem tF (base:Nat) (Es:List (Option Ent)) (C:Heap):dL base Es C []=C:=rfl
theorem qC (base:Nat) (Es:List (Option Ent)) (C:Heap) (a:Nat) (l:List Nat):dL base Es C (a :: l)=dL base Es (match Es.getD a none with | some e=>C.put (base+a) e | none=>C) l:=rfl
theorem je (T:Tm) (d:jT) (ds:List jT) (v:AV) (vs:List AV):gM T (d :: ds) (v :: vs)=gM (putT T d.dst v) ds vs:=rfl
theorem ko (T:Tm) (vs:List AV):gM T [] vs=T:=by cases vs <;> rfl
theorem RH {base:Nat} {T0:Tm} {ds:List jT} {late:List Nat} {Q:Tm->Heap->Prop}:UQ tab base T0 ds late Q ⟨Vs,Cs,Es⟩=(ky tab base T0 Vs Cs Es 0 ds/\Q (gM T0 ds Vs) (dL base Es (Cs.getLastD default) late)):=rfl
theorem Ts {Vs:List AV} {Cs:List Heap} {Es:List (Option Ent)} {i:Nat}:ky tab base T0 Vs Cs Es i []=True:=rfl
def Rm {g:Option (Nat × Bool)} {r:List (Nat × List Nat)}:ky tab base T0 Vs Cs Es i (⟨dst,op,g,us,1,r⟩ :: ds)=ky tab base T0 Vs Cs Es (i+1) ds:=by
 show (True/\_)=_
 simp
def Rl {g:Option (Nat × Bool)} {r:List (Nat × List Nat)}:ky tab base T0 Vs Cs Es i (⟨dst,op,g,us,2,r⟩ :: ds)=ky tab base T0 Vs Cs Es (i+1) ds:=by
 show (True/\_)=_
 simp
theorem Rk {r:List (Nat × List Nat)}:ky tab base T0 Vs Cs Es i (⟨dst,op,none,us,0,r⟩ :: ds)=((vI op=true/\lW tab base (cw T0 Vs us) Cs Es op (Vs.getD i .undef) r)/\ky tab base T0 Vs Cs Es (i+1) ds):=rfl
theorem O4 {t:Nat} {w:Bool} {r:List (Nat × List Nat)}:ky tab base T0 Vs Cs Es i (⟨dst,op,some (t,w),us,0,r⟩ :: ds)=(mY (ad (cw T0 Vs us) t) w (vI op=true/\lW tab base (cw T0 Vs us) Cs Es op (Vs.getD i .undef) r) True () ()/\ky tab base T0 Vs Cs Es (i+1) ds):=rfl
theorem Tx {T:Tm} {w:AV}:lW tab base T Cs Es op w []=True:=rfl
theorem Rq {T:Tm} {w:AV} {r:List (Nat × List Nat)}:lW tab base T Cs Es op w ((k,adds) :: r)=(nj tab (Src.ev T) (dL base Es (Cs.getD k default) adds) 0 op (fun v _=>v=w)/\lW tab base T Cs Es op w r):=rfl
theorem Ss {x:Src}:vI (.mv x)=true:=rfl
theorem Nr {a b c:Src}:vI (.pick a b c)=true:=rfl
theorem Lj {z:List AV} {ps:List ((Nat × Nat) × Src)}:vI (.build z ps)=true:=rfl
theorem Lh {x:Src}:vI (.nilCheck x)=true:=rfl
theorem Qi {o:BinOp} {k:BK} {x y:Src}:vI (.bin o k x y)=true:=rfl
theorem Sr {o:UnOp} {x:Src}:vI (.un o x)=true:=rfl
theorem Nu {k:IntKind} {x:Src}:vI (.conv k x)=true:=rfl
theorem Ns {f:Fn} {a b:List Src}:vI (.mkfn f a b)=true:=rfl
theorem Lg {n:Nat} {x:Src} {a b c:Option Src}:vI (.slice n x a b c)=true:=rfl
theorem St {n:Nat} {x:Src}:vI (.fieldAddr n x)=true:=rfl
theorem Li {k:Option Nat} {n:Nat} {x:Src}:vI (.field k n x)=true:=rfl
theorem Qg {n:Nat} {x y:Src}:vI (.indexAddr n x y)=true:=rfl
theorem Qh {n:Nat} {x:Src}:vI (.extract n x)=true:=rfl
theorem Qf {x:Src}:vI (.len x)=true:=rfl
theorem Nt {k:Option Nat} {x:Src}:vI (.load k x)=true:=rfl
theorem Qd {xs:List Src}:vI (.min xs)=true:=rfl
theorem Qe {xs:List Src}:vI (.max xs)=true:=rfl
theorem Mh {n:Nat} {z:List AV}:AOp.makes (.alloc n z)=true:=rfl
theorem Ri {n:Nat} {x:Src}:AOp.makes (.box n x)=true:=rfl
theorem To {n m k:Nat} {z:List AV} {ps:List ((Nat × Nat) × Src)}:AOp.makes (.buildSlice n m z k ps)=true:=rfl
theorem O2 {n m k:Nat} {z:List AV} {a b:Src}:AOp.makes (.mksl n m k z a b)=true:=rfl
end
def aE {c d:Prop} (a:c) (b:d):c/\d:=⟨a,b⟩
def aD {d e f:Prop} (a:d) (b:e) (c:f):d/\e/\f:=⟨a,b,c⟩
def aO {e f g h:Prop} (a:e) (b:f) (c:g) (d:h):e/\f/\g/\h:=⟨a,b,c,d⟩
def bB {f g h i j:Prop} (a:f) (b:g) (c:h) (d:i) (e:j):f/\g/\h/\i/\j:=⟨a,b,c,d,e⟩
def dj {g h i j k l:Prop} (a:g) (b:h) (c:i) (d:j) (e:k) (f:l):g/\h/\i/\j/\k/\l:=⟨a,b,c,d,e,f⟩
def fo {h i j k l m G1:Prop} (a:h) (b:i) (c:j) (d:k) (e:l) (f:m) (g:G1):h/\i/\j/\k/\l/\m/\G1:=⟨a,b,c,d,e,f,g⟩
def fX {i j k l m n G1 o:Prop} (a:i) (b:j) (c:k) (d:l) (e:m) (f:n) (g:G1) (h:o):i/\j/\k/\l/\m/\n/\G1/\o:=⟨a,b,c,d,e,f,g,h⟩
def jU {j k l m n o G1 p q:Prop} (a:j) (b:k) (c:l) (d:m) (e:n) (f:o) (g:G1) (h:p) (i:q):j/\k/\l/\m/\n/\o/\G1/\p/\q:=⟨a,b,c,d,e,f,g,h,i⟩
def oK {k l m n o p G1 q r s:Prop} (a:k) (b:l) (c:m) (d:n) (e:o) (f:p) (g:G1) (h:q) (i:r) (j:s):k/\l/\m/\n/\o/\p/\G1/\q/\r/\s:=⟨a,b,c,d,e,f,g,h,i,j⟩
def ia {l m n o p q G1 r s t u:Prop} (a:l) (b:m) (c:n) (d:o) (e:p) (f:q) (g:G1) (h:r) (i:s) (j:t) (k:u):l/\m/\n/\o/\p/\q/\G1/\r/\s/\t/\u:=⟨a,b,c,d,e,f,g,h,i,j,k⟩
def qQ {m n o p q r G1 s t u v w:Prop} (a:m) (b:n) (c:o) (d:p) (e:q) (f:r) (g:G1) (h:s) (i:t) (j:u) (k:v) (l:w):m/\n/\o/\p/\q/\r/\G1/\s/\t/\u/\v/\w:=⟨a,b,c,d,e,f,g,h,i,j,k,l⟩
def Ih {n o p q r s G1 t u v w x y:Prop} (a:n) (b:o) (c:p) (d:q) (e:r) (f:s) (g:G1) (h:t) (i:u) (j:v) (k:w) (l:x) (m:y):n/\o/\p/\q/\r/\s/\G1/\t/\u/\v/\w/\x/\y:=⟨a,b,c,d,e,f,g,h,i,j,k,l,m⟩
def Ln {o p q r s t G1 u v w x y z A:Prop} (a:o) (b:p) (c:q) (d:r) (e:s) (f:t) (g:G1) (h:u) (i:v) (j:w) (k:x) (l:y) (m:z) (n:A):o/\p/\q/\r/\s/\t/\G1/\u/\v/\w/\x/\y/\z/\A:=⟨a,b,c,d,e,f,g,h,i,j,k,l,m,n⟩
def Ny {p q r s t u G1 v w x y z A B C:Prop} (a:p) (b:q) (c:r) (d:s) (e:t) (f:u) (g:G1) (h:v) (i:w) (j:x) (k:y) (l:z) (m:A) (n:B) (o:C):p/\q/\r/\s/\t/\u/\G1/\v/\w/\x/\y/\z/\A/\B/\C:=⟨a,b,c,d,e,f,g,h,i,j,k,l,m,n,o⟩
def Uc {q r s t u v G1 w x y z A B C D E:Prop} (a:q) (b:r) (c:s) (d:t) (e:u) (f:v) (g:G1) (h:w) (i:x) (j:y) (k:z) (l:A) (m:B) (n:C) (o:D) (p:E):q/\r/\s/\t/\u/\v/\G1/\w/\x/\y/\z/\A/\B/\C/\D/\E:=⟨a,b,c,d,e,f,g,h,i,j,k,l,m,n,o,p⟩
def Lm {r s t u v w G1 x y z A B C D E F G:Prop} (a:r) (b:s) (c:t) (d:u) (e:v) (f:w) (g:G1) (h:x) (i:y) (j:z) (k:A) (l:B) (m:C) (n:D) (o:E) (p:F) (q:G):r/\s/\t/\u/\v/\w/\G1/\x/\y/\z/\A/\B/\C/\D/\E/\F/\G:=⟨a,b,c,d,e,f,g,h,i,j,k,l,m,n,o,p,q⟩
def Nx {s t u v w x G1 y z A B C D E F G H I:Prop} (a:s) (b:t) (c:u) (d:v) (e:w) (f:x) (g:G1) (h:y) (i:z) (j:A) (k:B) (l:C) (m:D) (n:E) (o:F) (p:G) (q:H) (r:I):s/\t/\u/\v/\w/\x/\G1/\y/\z/\A/\B/\C/\D/\E/\F/\G/\H/\I:=⟨a,b,c,d,e,f,g,h,i,j,k,l,m,n,o,p,q,r⟩
def Qj {t u v w x y G1 z A B C D E F G H I J K:Prop} (a:t) (b:u) (c:v) (d:w) (e:x) (f:y) (g:G1) (h:z) (i:A) (j:B) (k:C) (l:D) (m:E) (n:F) (o:G) (p:H) (q:I) (r:J) (s:K):t/\u/\v/\w/\x/\y/\G1/\z/\A/\B/\C/\D/\E/\F/\G/\H/\I/\J/\K:=⟨a,b,c,d,e,f,g,h,i,j,k,l,m,n,o,p,q,r,s⟩
def U5 {u v w x y z G1 A B C D E F G H I J K L T1:Prop} (a:u) (b:v) (c:w) (d:x) (e:y) (f:z) (g:G1) (h:A) (i:B) (j:C) (k:D) (l:E) (m:F) (n:G) (o:H) (p:I) (q:J) (r:K) (s:L) (t:T1):u/\v/\w/\x/\y/\z/\G1/\A/\B/\C/\D/\E/\F/\G/\H/\I/\J/\K/\L/\T1:=⟨a,b,c,d,e,f,g,h,i,j,k,l,m,n,o,p,q,r,s,t⟩
def Ub {v w x y z A G1 B C D E F G H I J K L M T1 N:Prop} (a:v) (b:w) (c:x) (d:y) (e:z) (f:A) (g:G1) (h:B) (i:C) (j:D) (k:E) (l:F) (m:G) (n:H) (o:I) (p:J) (q:K) (r:L) (s:M) (t:T1) (u:N):v/\w/\x/\y/\z/\A/\G1/\B/\C/\D/\E/\F/\G/\H/\I/\J/\K/\L/\M/\T1/\N:=⟨a,b,c,d,e,f,g,h,i,j,k,l,m,n,o,p,q,r,s,t,u⟩
def Ua {w x y z A B G1 C D E F G H I J K L M N T1 O P:Prop} (a:w) (b:x) (c:y) (d:z) (e:A) (f:B) (g:G1) (h:C) (i:D) (j:E) (k:F) (l:G) (m:H) (n:I) (o:J) (p:K) (q:L) (r:M) (s:N) (t:T1) (u:O) (v:P):w/\x/\y/\z/\A/\B/\G1/\C/\D/\E/\F/\G/\H/\I/\J/\K/\L/\M/\N/\T1/\O/\P:=⟨a,b,c,d,e,f,g,h,i,j,k,l,m,n,o,p,q,r,s,t,u,v⟩
def yM:=jy (jy (jy (jy (jy (jy (@On) (@Om)) (jy (@LP) (@LO))) (jy (jy (@PS) (@PR)) (jy (@M2) (@M3)))) (jy (jy (jy (@Oq) (@Oo)) (jy (@LS) (@GH))) (jy (jy (@O6) (@Mo)) (jy (@Mn) (jy (@Qk) (@Su)))))) (jy (jy (jy (jy (@Qu) (@FT)) (jy (@Qs) (@Qr))) (jy (jy (@Sv) (@NB)) (jy (@Qp) (@NC)))) (jy (jy (jy (@AE) (@El)) (jy (@R6) (@Qo))) (jy (jy (@NJ) (@Qv)) (jy (@DE) (jy (@BZ) (@HD))))))) (jy (jy (jy (jy (jy (@Cp) (@Ql)) (jy (@Ij) (@Ud))) (jy (jy (@Qt) (@Sz)) (jy (@SA) (@Uf)))) (jy (jy (jy (@NF) (@SB)) (jy (@NI) (@ND))) (jy (jy (@NA) (@Qq)) (jy (@Nz) (jy (@SD) (@Ue)))))) (jy (jy (jy (jy (@CV) (@SC)) (jy (@Sy) (@Sx))) (jy (jy (@Ii) (@Lo)) (jy (@Oz) (jy (@Oy) (@Pq))))) (jy (jy (jy (@Pp) (@ME)) (jy (@MF) (@QE))) (jy (jy (@QD) (@NR)) (jy (@NS) (jy (@NG) (@FS)))))))
def yL:=jy (jy (jy (jy (jy (jy (jy (@xS) (@DE)) (jy (@BZ) (@HD))) (jy (jy (@Cp) (@JK)) (jy (@EP) (jy (@J4) (@My))))) (jy (jy (jy (@TH) (@UP)) (jy (@jd) (jy (@mo) (@XI)))) (jy (jy (@RT) (@RP)) (jy (@K8) (jy (@RQ) (@RR)))))) (jy (jy (jy (jy (@RS) (@PF)) (jy (@Mb) (jy (@SU) (@RV)))) (jy (jy (@RU) (@Fa)) (jy (@Av) (jy (@TR) (@RN))))) (jy (jy (jy (@List.length_set.{0}) (jy (@if_true.{1}) (@if_true.{0}))) (jy (jy (@if_false.{1}) (@if_false.{0})) (jy (@List.length_cons.{0}) (@List.length_nil.{0})))) (jy (jy (@List.map_cons.{0,0}) (@List.map_nil.{0,0})) (jy (@List.append_nil.{0}) (jy (@List.nil_append.{0}) (@List.cons_append.{0}))))))) (jy (jy (jy (jy (jy (@Option.map_some.{0,0}) (@Option.map_none.{0,0})) (jy (@ZU) (jy (@Bool.not_false) (@Bool.not_eq_true)))) (jy (jy (@decide_eq_true_eq) (@XE)) (jy (@decide_eq_false_iff_not) (jy (@XC) (@true_or))))) (jy (jy (jy (@or_true) (@true_and)) (jy (@and_true) (jy (@false_or) (@or_false)))) (jy (jy (@ne_eq.{1}) (@not_false_eq_true)) (jy (@not_true_eq_false) (jy (@eq_self.{1}) (@RO)))))) (jy (jy (jy (jy (@Yj) (@GV)) (jy (@Jp) (jy (@JJ) (@Hv)))) (jy (jy (@Um) (@Tg)) (jy (@Rt) (jy (@dg) (@next_put))))) (jy (jy (jy (@next_kill) (@Tc)) (jy (@Tb) (jy (@Ta) (@Ov)))) (jy (jy (@LY) (@OA)) (jy (@LD) (jy (@LC) (@Tv)))))))) (jy (jy (jy (jy (jy (jy (@Mt) (@TD)) (jy (@al) (jy (@au) (@cM)))) (jy (jy (@S6) (@O7)) (jy (@VI) (jy (@VH) (@Vu))))) (jy (jy (jy (@U7) (@U6)) (jy (@UN) (jy (@Sg) (@TP)))) (jy (jy (@CL) (@HN)) (jy (@ai) (jy (@bo) (@bH)))))) (jy (jy (jy (jy (@cY) (@b9)) (jy (@Nat.add_eq) (jy (@List.take_zero.{0}) (@List.drop_zero.{0})))) (jy (jy (@List.take_succ_cons.{0}) (@List.drop_succ_cons.{0})) (jy (@List.append_eq.{0}) (jy (@decide_true) (@decide_false))))) (jy (jy (jy (@Bool.and_true) (@Bool.and_false)) (jy (@Bool.true_and) (jy (@Bool.false_and) (@Int.lt_irrefl)))) (jy (jy (@U9) (@U8)) (jy (@Mj) (jy (@List.set_cons_zero.{0}) (@List.set_cons_succ.{0}))))))) (jy (jy (jy (jy (jy (@Int.ofNat_lt) (@Int.ofNat_le)) (jy (@Int.natCast_inj) (jy (@Int.natCast_pos) (@IP)))) (jy (jy (@L4) (@List.zip_cons_cons.{0,0})) (jy (@List.zip_nil_left.{0,0}) (jy (@List.zip_nil_right.{0,0}) (@Vo))))) (jy (jy (jy (@Vn) (@Vm)) (jy (@TG) (jy (@MH) (@Rf)))) (jy (jy (@Tl) (@TE)) (jy (@Fx) (jy (@TQ) (@TI)))))) (jy (jy (jy (jy (@SV) (@M9)) (jy (@M4) (jy (@M6) (@M8)))) (jy (jy (@yD) (@yC)) (jy (@JO) (jy (@M5) (@pf))))) (jy (jy (jy (@Mr) (@EE)) (jy (@mX) (jy (@jB) (@KB)))) (jy (jy (@TC) (@Yb)) (jy (@Vg) (jy (@Vf) (@UM))))))))
def Uk:=jy (jy (jy (@SO) (jy (@QH) (@NT))) (jy (@QG) (jy (@SP) (@RH)))) (jy (jy (@Ts) (jy (@Rm) (@Rl))) (jy (jy (@Rk) (@O4)) (jy (@Tx) (@Rq))))
def Uj:=jy (jy (jy (jy (jy (@N0) (@NZ)) (jy (@NY) (@Is))) (jy (jy (@NW) (@NX)) (jy (@tF) (jy (@qC) (@je))))) (jy (jy (jy (@ko) (@List.length_replicate.{0})) (jy (@List.getD_cons_zero.{0}) (@List.getD_cons_succ.{0}))) (jy (jy (@List.getLastD_cons.{0}) (@List.getLastD_nil.{0})) (jy (@Ss) (jy (@Nr) (@Lj)))))) (jy (jy (jy (jy (@Lh) (@Qi)) (jy (@Sr) (@Nu))) (jy (jy (@Ns) (@Lg)) (jy (@St) (jy (@Li) (@Qg))))) (jy (jy (jy (@Qh) (@Qf)) (jy (@Nt) (@Qd))) (jy (jy (@Qe) (@Mh)) (jy (@Ri) (jy (@To) (@O2))))))
def VF:=jy (jy (@Tz) (@Rr)) (jy (@UF) (jy (@Ty) (@Rs)))
def VG:=jy (@SN) (jy (@Ui) (@QF))
def zW {F P Q:Prop} (f:F) (q:Q) (h:F->Q->P:=by intro h q; simp -dsimp (maxSteps:=1000000) (disch:=(first | omega | assumption | exact ai _ | exact bo _ _ | exact bH | exact cY _ _ _ | exact b9 _ _ | exact bT _ _ _ _ _ _ | exact dm _ _ | exact cz _)) only [↓yM,yL,Nat.reduceLT,Nat.reduceEqDiff,Nat.reduceAdd,reduceIte,reduceCtorEq,Nat.reduceBEq,Int.reduceEq,Int.reduceLT,Int.reduceLE,Int.reduceAdd,Int.reduceSub,h]; exact q):P:=h f q
def vH {P Q:Prop} (q:Q) (h:Q->P:=by intro q; simp -dsimp (maxSteps:=1000000) (disch:=(first | omega | assumption | exact ai _ | exact bo _ _ | exact bH | exact cY _ _ _ | exact b9 _ _ | exact bT _ _ _ _ _ _ | exact dm _ _ | exact cz _)) only [↓yM,yL,Nat.reduceLT,Nat.reduceEqDiff,Nat.reduceAdd,reduceIte,reduceCtorEq,Nat.reduceBEq,Int.reduceEq,Int.reduceLT,Int.reduceLE,Int.reduceAdd,Int.reduceSub]; exact q):P:=h q
def zV {F P:Prop} (f:F) (h:F->P:=by intro h; simp -dsimp (maxSteps:=1000000) (disch:=(first | omega | assumption | exact ai _ | exact bo _ _ | exact bH | exact cY _ _ _ | exact b9 _ _ | exact bT _ _ _ _ _ _ | exact dm _ _ | exact cz _)) only [↓yM,yL,Nat.reduceLT,Nat.reduceEqDiff,Nat.reduceAdd,reduceIte,reduceCtorEq,Nat.reduceBEq,Int.reduceEq,Int.reduceLT,Int.reduceLE,Int.reduceAdd,Int.reduceSub,h]):P:=h f
def cC {P:Prop} (h:P:=by simp -dsimp (maxSteps:=1000000) (disch:=(first | omega | assumption | exact ai _ | exact bo _ _ | exact bH | exact cY _ _ _ | exact b9 _ _ | exact bT _ _ _ _ _ _ | exact dm _ _ | exact cz _)) only [↓yM,yL,Nat.reduceLT,Nat.reduceEqDiff,Nat.reduceAdd,reduceIte,reduceCtorEq,Nat.reduceBEq,Int.reduceEq,Int.reduceLT,Int.reduceLE,Int.reduceAdd,Int.reduceSub]):P:=h
def zD {F P Q:Prop} (f:F) (q:Q) (h:F->Q->P:=by intro h q; simp -dsimp (maxSteps:=1000000) (disch:=(first | omega | assumption | exact ai _ | exact bo _ _ | exact bH | exact cY _ _ _ | exact b9 _ _ | exact bT _ _ _ _ _ _ | exact dm _ _ | exact cz _)) only [↓yM,yL,↓Uk,Uj,Nat.reduceLT,Nat.reduceEqDiff,Nat.reduceAdd,reduceIte,reduceCtorEq,Nat.reduceBEq,Int.reduceEq,Int.reduceLT,Int.reduceLE,Int.reduceAdd,Int.reduceSub,h]; exact q):P:=h f q
def zE {F P:Prop} (f:F) (h:F->P:=by intro h; simp -dsimp (maxSteps:=1000000) (disch:=(first | omega | assumption | exact ai _ | exact bo _ _ | exact bH | exact cY _ _ _ | exact b9 _ _ | exact bT _ _ _ _ _ _ | exact dm _ _ | exact cz _)) only [↓yM,yL,↓Uk,Uj,Nat.reduceLT,Nat.reduceEqDiff,Nat.reduceAdd,reduceIte,reduceCtorEq,Nat.reduceBEq,Int.reduceEq,Int.reduceLT,Int.reduceLE,Int.reduceAdd,Int.reduceSub,h]):P:=h f
def zK {P:Prop} (h:P:=by first | assumption | simp (disch:=(first | omega | assumption | (simp only [dg,next_put,next_kill]; omega))) only [VF] <;> assumption):P:=h
def zF {P:Prop} (h:P:=by first | assumption | simp (disch:=(first | omega | assumption | (simp only [dg,next_put,next_kill]; omega))) only [VG] <;> assumption):P:=h
def zU {P:Prop} (h:P:=by decide):P:=h
def zG (A:Heap) {G:Heap} (h:Kp A G:=by first | assumption | simp (disch:=(first | omega | assumption | (simp only [dg,next_put,next_kill]; omega))) only [VF] <;> assumption):Sub A G:=h.sub
def zT (A:Heap) {G C:Heap} (h:Kp A G) (h2:Kp G C):Kp A C/\A.next<=C.next/\Wf C:=⟨h.trans h2,(h.trans h2).le,h2.wf⟩
set_option maxRecDepth 100000
abbrev l3:Nat:=6
abbrev fI:Nat:=17
abbrev gy:Nat:=18
abbrev fH:Nat:=19
abbrev fF:Nat:=27
abbrev dQ:Nat:=9
abbrev kU:Nat:=22
abbrev y8:Nat:=11
abbrev Wg:Nat:=13
abbrev Wd:Nat:=28
abbrev BG:Nat:=26
abbrev uM:Nat:=29
abbrev iC:Nat:=20
abbrev gm:Nat:=15
abbrev eY:Nat:=49
abbrev iD:Nat:=50
abbrev pa:Nat:=36
abbrev fD:Nat:=12
abbrev fG:Nat:=38
abbrev lB:Nat:=52
abbrev x9:Nat:=56
abbrev rH:Nat:=57
abbrev oD:Nat:=53
abbrev fj:Nat:=58
abbrev iL:Nat:=59
abbrev pW:Nat:=60
abbrev il:Nat:=61
abbrev rL:Nat:=62
abbrev pS:Nat:=39
abbrev gn:Nat:=40
abbrev wG:Nat:=42
abbrev pR:Nat:=43
abbrev ik:Nat:=44
abbrev zn:Nat:=72
abbrev Wc:Nat:=73
abbrev BI:Nat:=75
abbrev A4:Nat:=74
abbrev BM:Nat:=51
abbrev gq:Nat:=47
abbrev fK:Nat:=78
abbrev e9:Nat:=79
abbrev kW:Nat:=80
abbrev oF:Nat:=82
abbrev rJ:Nat:=81
abbrev fE:Nat:=41
abbrev cm:Nat:=99
abbrev mN:Nat:=100
abbrev ya:Nat:=101
abbrev rz:Nat:=102
abbrev V3:Nat:=68
abbrev ry:Nat:=69
abbrev cZ:Nat:=54
abbrev rA:Nat:=71
abbrev fS:Nat:=103
abbrev fJ:Nat:=89
abbrev eZ:Nat:=90
abbrev mR:Nat:=91
abbrev rK:Nat:=92
abbrev rM:Nat:=83
abbrev rD:Nat:=84
abbrev yc:Nat:=66
abbrev uR:Nat:=67
abbrev zi:Nat:=111
abbrev pT:Nat:=112
abbrev BL:Nat:=93
abbrev eE:Nat:=87
abbrev eD:Nat:=88
abbrev eJ:Nat:=116
abbrev bR:Nat:=115
abbrev eI:Nat:=117
abbrev rI:Nat:=118
abbrev rO:Nat:=119
abbrev bP:Nat:=120
abbrev kw:Nat:=121
abbrev pX:Nat:=122
abbrev dO:Nat:=10
abbrev cI:Nat:=137
abbrev vz:Nat:=64
abbrev rv:Nat:=138
abbrev pK:Nat:=139
abbrev oh:Nat:=94
abbrev nW:Nat:=98
abbrev xT:Nat:=97
abbrev lA:Nat:=106
abbrev xZ:Nat:=107
abbrev ru:Nat:=110
abbrev js:Nat:=104
abbrev eH:Nat:=135
abbrev bQ:Nat:=134
abbrev eF:Nat:=136
abbrev uN:Nat:=124
abbrev gP:Nat:=123
abbrev gO:Nat:=125
abbrev aX:Nat:=126
abbrev aW:Nat:=127
abbrev pM:Nat:=128
abbrev dG:Nat:=146
abbrev oC:Nat:=65
abbrev VW:Nat:=145
abbrev eh:Nat:=147
abbrev cF:Nat:=148
abbrev cA:Nat:=109
abbrev gt:Nat:=133
abbrev ck:Nat:=149
abbrev mS:Nat:=150
abbrev rN:Nat:=151
abbrev uV:Nat:=152
abbrev da:Nat:=153
abbrev mP:Nat:=154
abbrev oy:Nat:=155
abbrev dE:Nat:=156
abbrev jA:Nat:=157
abbrev cd:Nat:=159
abbrev nB:Nat:=105
abbrev iB:Nat:=142
abbrev oB:Nat:=141
abbrev xX:Nat:=143
abbrev xW:Nat:=144
abbrev dq:Nat:=140
abbrev cj:Nat:=170
abbrev bj:Nat:=160
abbrev Wb:Nat:=180
abbrev gu:Nat:=169
abbrev lV:Nat:=181
abbrev gB:Nat:=182
abbrev iY:Nat:=185
abbrev iG:Nat:=186
abbrev oo:Nat:=187
abbrev iX:Nat:=188
abbrev pN:Nat:=70
abbrev xV:Nat:=158
abbrev pV:Nat:=171
abbrev rG:Nat:=172
abbrev xY:Nat:=174
abbrev uQ:Nat:=173
abbrev BJ:Nat:=175
abbrev oA:Nat:=176
abbrev pU:Nat:=177
abbrev jx:Nat:=178
abbrev jt:Nat:=179
abbrev gw:Nat:=193
abbrev p8:Nat:=184
abbrev wy:Nat:=183
abbrev fg:Nat:=197
abbrev nE:Nat:=198
abbrev pY:Nat:=200
abbrev A5:Nat:=199
abbrev nz:Nat:=201
abbrev cN:Nat:=203
abbrev cJ:Nat:=202
abbrev gD:Nat:=204
abbrev rB:Nat:=205
abbrev pQ:Nat:=207
abbrev mO:Nat:=206
abbrev mJ:Nat:=95
abbrev oi:Nat:=108
abbrev bg:Nat:=191
abbrev pP:Nat:=192
abbrev ju:Nat:=194
abbrev uP:Nat:=195
abbrev rE:Nat:=196
abbrev rC:Nat:=219
abbrev uU:Nat:=220
abbrev rx:Nat:=221
abbrev xU:Nat:=55
abbrev mL:Nat:=222
abbrev ot:Nat:=223
abbrev cH:Nat:=224
abbrev oj:Nat:=225
abbrev mM:Nat:=226
abbrev ol:Nat:=228
abbrev gN:Nat:=218
abbrev pO:Nat:=96
abbrev yd:Nat:=236
abbrev nV:Nat:=227
abbrev fh:Nat:=238
abbrev oE:Nat:=241
abbrev ye:Nat:=242
abbrev kv:Nat:=237
abbrev oG:Nat:=244
abbrev uT:Nat:=245
abbrev dN:Nat:=246
abbrev BH:Nat:=247
abbrev gA:Nat:=248
abbrev gQ:Nat:=249
abbrev gR:Nat:=250
abbrev uS:Nat:=252
abbrev uO:Nat:=251
abbrev cQ:Nat:=253
abbrev jw:Nat:=254
abbrev jv:Nat:=217
abbrev rF:Nat:=255
abbrev bh:Nat:=256
abbrev d9:Nat:=3
abbrev af:Nat:=24
abbrev t_api_Con:Nat:=26
abbrev ag:Nat:=28
abbrev fC:Nat:=30
abbrev am:Nat:=32
abbrev sG:Nat:=50
abbrev aK:Nat:=51
abbrev aa:Nat:=53
abbrev bu:Nat:=55
abbrev aV:Nat:=57
abbrev mC:Nat:=96
abbrev re:Nat:=105
abbrev ae:Nat:=115
abbrev fz:Nat:=119
abbrev tK:Nat:=120
abbrev fy:Nat:=128
abbrev tJ:Nat:=129
abbrev EF:Nat:=153
abbrev aT:Nat:=182
abbrev aJ:Nat:=208
abbrev eR:Nat:=215
abbrev mD:Nat:=238
abbrev fZ:Nat:=288
theorem Vb (n:Nat):Int.ofNat n=(OfNat.ofNat n:Int):=rfl
theorem UC:Int.negSucc 0 = -1:=rfl
theorem UK (id id1 i n c k:Nat) (body:ACode):ACode.block id (.loop (.seq (.region [⟨some c,.bin .lss .int (.t i) (.t n),none⟩]) (.seq (.cond (.t c) .skip (.exit id)) (.seq (.block id1 body) (.region [⟨some k,.bin .add .int (.t i) (.c (.int .i64 1)),none⟩,⟨some i,.mv (.t k),none⟩])))))=RD id id1 i n c k body:=rfl
theorem UL (id:Nat) (c:ACode):ACode.block id (.loop c)=PQ id c:=rfl
set_option maxHeartbeats 8000000
def ak (f:Func) (a:aA) (_:TN Tryz.prog f=some a:=by conv=>lhs; reduce; dsimp only [↓Vb,↓UC]; (try dsimp only [UK]); (try dsimp only [UL])):aA:=a
def c_facetroomlaw23_ImageGrows:aA:=ak Tryz.f6 _
def jM:aA:=ak Tryz.f17 _
def ke:aA:=ak Tryz.f18 _
def jL:aA:=ak Tryz.f19 _
def jJ:aA:=ak Tryz.f27 _
def h9:aA:=ak Tryz.f9 _
def zY:aA:=ak Tryz.f22 _
def Wj:aA:=ak Tryz.f11 _
def WE:aA:=ak Tryz.f13 _
def Wu:aA:=ak Tryz.f28 _
def HF:aA:=ak Tryz.f26 _
def Cq:aA:=ak Tryz.f29 _
def lO:aA:=ak Tryz.f20 _
def jY:aA:=ak Tryz.f15 _
def iP:aA:=ak Tryz.f49 _
def lP:aA:=ak Tryz.f50 _
def Ed:aA:=ak Tryz.f36 _
def jH:aA:=ak Tryz.f12 _
def jK:aA:=ak Tryz.f38 _
def qP:aA:=ak Tryz.f52 _
def zJ:aA:=ak Tryz.f56 _
def zR:aA:=ak Tryz.f57 _
def uy:aA:=ak Tryz.f53 _
def su:aA:=ak Tryz.f58 _
def c_image_moved:aA:=ak Tryz.f59 _
def xp:aA:=ak Tryz.f60 _
def xo:aA:=ak Tryz.f61 _
def Ac:aA:=ak Tryz.f62 _
def xh:aA:=ak Tryz.f39 _
def qa:aA:=ak Tryz.f40 _
def VZ:aA:=ak Tryz.f42 _
def xg:aA:=ak Tryz.f43 _
def xf:aA:=ak Tryz.f44 _
def V8:aA:=ak Tryz.f72 _
def Wt:aA:=ak Tryz.f73 _
def HH:aA:=ak Tryz.f75 _
def wS:aA:=ak Tryz.f74 _
def HK:aA:=ak Tryz.f51 _
def jZ:aA:=ak Tryz.f47 _
def jO:aA:=ak Tryz.f78 _
def uC:aA:=ak Tryz.f79 _
def Aa:aA:=ak Tryz.f80 _
def c_dual_points:aA:=ak Tryz.f82 _
def Ab:aA:=ak Tryz.f81 _
def jI:aA:=ak Tryz.f41 _
def ly:aA:=ak Tryz.f99 _
def VY:aA:=ak Tryz.f100 _
def D9:aA:=ak Tryz.f101 _
def zB:aA:=ak Tryz.f102 _
def DW:aA:=ak Tryz.f68 _
def zA:aA:=ak Tryz.f69 _
def fm:aA:=ak Tryz.f54 _
def zC:aA:=ak Tryz.f71 _
def qO:aA:=ak Tryz.f103 _
def jN:aA:=ak Tryz.f89 _
def uB:aA:=ak Tryz.f90 _
def CB:aA:=ak Tryz.f91 _
def c_dual_cons:aA:=ak Tryz.f92 _
def Ad:aA:=ak Tryz.f83 _
def zL:aA:=ak Tryz.f84 _
def Ea:aA:=ak Tryz.f66 _
def CA:aA:=ak Tryz.f67 _
def V7:aA:=ak Tryz.f111 _
def Cw:aA:=ak Tryz.f112 _
def HJ:aA:=ak Tryz.f93 _
def ir:aA:=ak Tryz.f87 _
def iq:aA:=ak Tryz.f88 _
def iy:aA:=ak Tryz.f116 _
def cX:aA:=ak Tryz.f115 _
def tn:aA:=ak Tryz.f117 _
def zZ:aA:=ak Tryz.f118 _
def c_cone_Gens:aA:=ak Tryz.f119 _
def cV:aA:=ak Tryz.f120 _
def pu:aA:=ak Tryz.f121 _
def xu:aA:=ak Tryz.f122 _
def gZ:aA:=ak Tryz.f10 _
def dW:aA:=ak Tryz.f137 _
def uj:aA:=ak Tryz.f64 _
def zy:aA:=ak Tryz.f138 _
def wR:aA:=ak Tryz.f139 _
def ul:aA:=ak Tryz.f94 _
def uk:aA:=ak Tryz.f98 _
def DU:aA:=ak Tryz.f97 _
def qN:aA:=ak Tryz.f106 _
def D7:aA:=ak Tryz.f107 _
def zx:aA:=ak Tryz.f110 _
def wU:aA:=ak Tryz.f104 _
def tk:aA:=ak Tryz.f135 _
def cW:aA:=ak Tryz.f134 _
def iu:aA:=ak Tryz.f136 _
def Cu:aA:=ak Tryz.f124 _
def sw:aA:=ak Tryz.f123 _
def sv:aA:=ak Tryz.f125 _
def bL:aA:=ak Tryz.f126 _
def bJ:aA:=ak Tryz.f127 _
def wT:aA:=ak Tryz.f128 _
def kV:aA:=ak Tryz.f146 _
def ux:aA:=ak Tryz.f65 _
def Wk:aA:=ak Tryz.f145 _
def lx:aA:=ak Tryz.f147 _
def fV:aA:=ak Tryz.f148 _
def ft:aA:=ak Tryz.f109 _
def j8:aA:=ak Tryz.f133 _
def dw:aA:=ak Tryz.f149 _
def c_cone_checked:aA:=ak Tryz.f150 _
def Ah:aA:=ak Tryz.f151 _
def CI:aA:=ak Tryz.f152 _
def c_P_cone_under_add:aA:=ak Tryz.f153 _
def sq:aA:=ak Tryz.f154 _
def uu:aA:=ak Tryz.f155 _
def dF:aA:=⟨2,2,[],.skip,(some (.sortF af [jA]))⟩
def V2:aA:=ak Tryz.f157 _
def dt:aA:=ak Tryz.f159 _
def zP:aA:=ak Tryz.f105 _
def wz:aA:=ak Tryz.f142 _
def uw:aA:=ak Tryz.f141 _
def DZ:aA:=ak Tryz.f143 _
def DY:aA:=ak Tryz.f144 _
def fq:aA:=ak Tryz.f140 _
def du:aA:=ak Tryz.f170 _
def bZ:aA:=ak Tryz.f160 _
def Wq:aA:=ak Tryz.f180 _
def j9:aA:=ak Tryz.f169 _
def xe:aA:=ak Tryz.f181 _
def kh:aA:=ak Tryz.f182 _
def c_P_cone_under_cut:aA:=ak Tryz.f185 _
def c_P_cone_under_fold:aA:=ak Tryz.f186 _
def ur:aA:=ak Tryz.f187 _
def ng:aA:=ak Tryz.f188 _
def Ct:aA:=ak Tryz.f70 _
def DX:aA:=ak Tryz.f158 _
def xm:aA:=ak Tryz.f171 _
def zQ:aA:=ak Tryz.f172 _
def D6:aA:=ak Tryz.f174 _
def Cz:aA:=ak Tryz.f173 _
def HI:aA:=ak Tryz.f175 _
def uv:aA:=ak Tryz.f176 _
def xl:aA:=ak Tryz.f177 _
def nP:aA:=⟨3,3,[],
 .skip,
 (some .add64)⟩
def nL:aA:=⟨3,3,[],
 .skip,
 (some .sub64)⟩
def ka:aA:=ak Tryz.f193 _
def CH:aA:=ak Tryz.f184 _
def Af:aA:=ak Tryz.f183 _
def lS:aA:=ak Tryz.f197 _
def Ag:aA:=ak Tryz.f198 _
def CE:aA:=ak Tryz.f200 _
def CF:aA:=ak Tryz.f199 _
def zH:aA:=ak Tryz.f201 _
def ee:aA:=ak Tryz.f203 _
def dX:aA:=ak Tryz.f202 _
def c_P_rows_form_put:aA:=ak Tryz.f204 _
def zI:aA:=ak Tryz.f205 _
def xd:aA:=ak Tryz.f207 _
def so:aA:=ak Tryz.f206 _
def Cr:aA:=ak Tryz.f95 _
def um:aA:=ak Tryz.f108 _
def bV:aA:=ak Tryz.f191 _
def xc:aA:=ak Tryz.f192 _
def nM:aA:=ak Tryz.f194 _
def Cy:aA:=ak Tryz.f195 _
def zM:aA:=ak Tryz.f196 _
def c_sat_Signs:aA:=ak Tryz.f219 _
def CG:aA:=ak Tryz.f220 _
def zz:aA:=ak Tryz.f221 _
def DV:aA:=ak Tryz.f55 _
def sf:aA:=ak Tryz.f222 _
def ut:aA:=ak Tryz.f223 _
def dV:aA:=⟨3,3,[],
 .skip,
 (some (.insert 1 24 af))⟩
def uo:aA:=ak Tryz.f225 _
def sj:aA:=ak Tryz.f226 _
def uq:aA:=ak Tryz.f228 _
def sr:aA:=ak Tryz.f218 _
def wW:aA:=ak Tryz.f96 _
def Ec:aA:=ak Tryz.f236 _
def ui:aA:=ak Tryz.f227 _
def pq:aA:=ak Tryz.f238 _
def uA:aA:=ak Tryz.f241 _
def Ee:aA:=ak Tryz.f242 _
def po:aA:=ak Tryz.f237 _
def uD:aA:=ak Tryz.f244 _
def CD:aA:=ak Tryz.f245 _
def gY:aA:=ak Tryz.f246 _
def HG:aA:=ak Tryz.f247 _
def kg:aA:=ak Tryz.f248 _
def lq:aA:=ak Tryz.f249 _
def lu:aA:=ak Tryz.f250 _
def CC:aA:=ak Tryz.f252 _
def Cx:aA:=ak Tryz.f251 _
def eU:aA:=ak Tryz.f253 _
def nO:aA:=ak Tryz.f254 _
def nN:aA:=⟨1,25,[(2,none)],
 .seq (.region [
 ⟨(some 2),.mv (.c (.int .i64 0)),none⟩]) <|
 .seq (.seq (.region [
 ⟨(some 3),.mv (.t 0),none⟩,
 ⟨(some 4),.bin .geq .int (.t 3) (.c (.int .u64 4294967296)),none⟩]) <|
 .cond (.t 4)
 (.seq (.region [
  ⟨(some 5),.mv (.t 0),none⟩,
  ⟨(some 6),.bin .shr .int (.t 5) (.c (.int .u64 32)),none⟩,
  ⟨(some 0),.mv (.t 6),none⟩]) <|
 .region [
  ⟨(some 2),.mv (.c (.int .i64 32)),none⟩])
 (.skip)) <|
 .seq (.seq (.region [
 ⟨(some 7),.mv (.t 0),none⟩,
 ⟨(some 8),.bin .geq .int (.t 7) (.c (.int .u64 65536)),none⟩]) <|
 .cond (.t 8)
 (.seq (.region [
  ⟨(some 9),.mv (.t 0),none⟩,
  ⟨(some 10),.bin .shr .int (.t 9) (.c (.int .u64 16)),none⟩,
  ⟨(some 0),.mv (.t 10),none⟩]) <|
 .region [
  ⟨(some 11),.mv (.t 2),none⟩,
  ⟨(some 12),.bin .add .int (.t 11) (.c (.int .i64 16)),none⟩,
  ⟨(some 2),.mv (.t 12),none⟩])
 (.skip)) <|
 .seq (.seq (.region [
 ⟨(some 13),.mv (.t 0),none⟩,
 ⟨(some 14),.bin .geq .int (.t 13) (.c (.int .u64 256)),none⟩]) <|
 .cond (.t 14)
 (.seq (.region [
  ⟨(some 15),.mv (.t 0),none⟩,
  ⟨(some 16),.bin .shr .int (.t 15) (.c (.int .u64 8)),none⟩,
  ⟨(some 0),.mv (.t 16),none⟩]) <|
 .region [
  ⟨(some 17),.mv (.t 2),none⟩,
  ⟨(some 18),.bin .add .int (.t 17) (.c (.int .i64 8)),none⟩,
  ⟨(some 2),.mv (.t 18),none⟩])
 (.skip)) <|
 .seq (.region [
 ⟨(some 19),.mv (.t 2),none⟩,
 ⟨(some 20),.mv (.t 0),none⟩,
 ⟨(some 21),.conv .u8 (.t 20),none⟩,
 ⟨(some 22),.indexStr (.c (.str ⟨#[0,1,2,2,3,3,3,3,4,4,4,4,4,4,4,4,5,5,5,5,5,5,5,5,5,5,5,5,5,5,5,5,6,6,6,6,6,6,6,6,6,6,6,6,6,6,6,6,6,6,6,6,6,6,6,6,6,6,6,6,6,6,6,6,7,7,7,7,7,7,7,7,7,7,7,7,7,7,7,7,7,7,7,7,7,7,7,7,7,7,7,7,7,7,7,7,7,7,7,7,7,7,7,7,7,7,7,7,7,7,7,7,7,7,7,7,7,7,7,7,7,7,7,7,7,7,7,7,8,8,8,8,8,8,8,8,8,8,8,8,8,8,8,8,8,8,8,8,8,8,8,8,8,8,8,8,8,8,8,8,8,8,8,8,8,8,8,8,8,8,8,8,8,8,8,8,8,8,8,8,8,8,8,8,8,8,8,8,8,8,8,8,8,8,8,8,8,8,8,8,8,8,8,8,8,8,8,8,8,8,8,8,8,8,8,8,8,8,8,8,8,8,8,8,8,8,8,8,8,8,8,8,8,8,8,8,8,8,8,8,8,8,8,8,8,8,8,8,8,8,8,8,8,8,8,8]⟩)) (.t 21),none⟩,
 ⟨(some 23),.conv .i64 (.t 22),none⟩,
 ⟨(some 24),.bin .add .int (.t 19) (.t 23),none⟩,
 ⟨(some 2),.mv (.t 24),none⟩]) <|
 .ret,
 none⟩
def zN:aA:=ak Tryz.f255 _
def dJ:aA:=ak Tryz.f256 _
structure Code (tab:Nat->Option aA):Prop where
 q0:tab l3=some c_facetroomlaw23_ImageGrows
 q1:tab fI=some jM
 q2:tab gy=some ke
 q3:tab fH=some jL
 q4:tab fF=some jJ
 q5:tab dQ=some h9
 q6:tab kU=some zY
 q7:tab y8=some Wj
 q8:tab Wg=some WE
 q9:tab Wd=some Wu
 q10:tab BG=some HF
 q11:tab uM=some Cq
 q12:tab iC=some lO
 q13:tab gm=some jY
 q14:tab eY=some iP
 q15:tab iD=some lP
 q16:tab pa=some Ed
 q17:tab fD=some jH
 q18:tab fG=some jK
 q19:tab lB=some qP
 q20:tab x9=some zJ
 q21:tab rH=some zR
 q22:tab oD=some uy
 q23:tab fj=some su
 q24:tab iL=some c_image_moved
 q25:tab pW=some xp
 q26:tab il=some xo
 q27:tab rL=some Ac
 q28:tab pS=some xh
 q29:tab gn=some qa
 q30:tab wG=some VZ
 q31:tab pR=some xg
 q32:tab ik=some xf
 q33:tab zn=some V8
 q34:tab Wc=some Wt
 q35:tab BI=some HH
 q36:tab A4=some wS
 q37:tab BM=some HK
 q38:tab gq=some jZ
 q39:tab fK=some jO
 q40:tab e9=some uC
 q41:tab kW=some Aa
 q42:tab oF=some c_dual_points
 q43:tab rJ=some Ab
 q44:tab fE=some jI
 q45:tab cm=some ly
 q46:tab mN=some VY
 q47:tab ya=some D9
 q48:tab rz=some zB
 q49:tab V3=some DW
 q50:tab ry=some zA
 q51:tab cZ=some fm
 q52:tab rA=some zC
 q53:tab fS=some qO
 q54:tab fJ=some jN
 q55:tab eZ=some uB
 q56:tab mR=some CB
 q57:tab rK=some c_dual_cons
 q58:tab rM=some Ad
 q59:tab rD=some zL
 q60:tab yc=some Ea
 q61:tab uR=some CA
 q62:tab zi=some V7
 q63:tab pT=some Cw
 q64:tab BL=some HJ
 q65:tab eE=some ir
 q66:tab eD=some iq
 q67:tab eJ=some iy
 q68:tab bR=some cX
 q69:tab eI=some tn
 q70:tab rI=some zZ
 q71:tab rO=some c_cone_Gens
 q72:tab bP=some cV
 q73:tab kw=some pu
 q74:tab pX=some xu
 q75:tab dO=some gZ
 q76:tab cI=some dW
 q77:tab vz=some uj
 q78:tab rv=some zy
 q79:tab pK=some wR
 q80:tab oh=some ul
 q81:tab nW=some uk
 q82:tab xT=some DU
 q83:tab lA=some qN
 q84:tab xZ=some D7
 q85:tab ru=some zx
 q86:tab js=some wU
 q87:tab eH=some tk
 q88:tab bQ=some cW
 q89:tab eF=some iu
 q90:tab uN=some Cu
 q91:tab gP=some sw
 q92:tab gO=some sv
 q93:tab aX=some bL
 q94:tab aW=some bJ
 q95:tab pM=some wT
 q96:tab dG=some kV
 q97:tab oC=some ux
 q98:tab VW=some Wk
 q99:tab eh=some lx
 q100:tab cF=some fV
 q101:tab cA=some ft
 q102:tab gt=some j8
 q103:tab ck=some dw
 q104:tab mS=some c_cone_checked
 q105:tab rN=some Ah
 q106:tab uV=some CI
 q107:tab da=some c_P_cone_under_add
 q108:tab mP=some sq
 q109:tab oy=some uu
 q110:tab dE=some dF
 q111:tab jA=some V2
 q112:tab cd=some dt
 q113:tab nB=some zP
 q114:tab iB=some wz
 q115:tab oB=some uw
 q116:tab xX=some DZ
 q117:tab xW=some DY
 q118:tab dq=some fq
 q119:tab cj=some du
 q120:tab bj=some bZ
 q121:tab Wb=some Wq
 q122:tab gu=some j9
 q123:tab lV=some xe
 q124:tab gB=some kh
 q125:tab iY=some c_P_cone_under_cut
 q126:tab iG=some c_P_cone_under_fold
 q127:tab oo=some ur
 q128:tab iX=some ng
 q129:tab pN=some Ct
 q130:tab xV=some DX
 q131:tab pV=some xm
 q132:tab rG=some zQ
 q133:tab xY=some D6
 q134:tab uQ=some Cz
 q135:tab BJ=some HI
 q136:tab oA=some uv
 q137:tab pU=some xl
 q138:tab jx=some nP
 q139:tab jt=some nL
 q140:tab gw=some ka
 q141:tab p8=some CH
 q142:tab wy=some Af
 q143:tab fg=some lS
 q144:tab nE=some Ag
 q145:tab pY=some CE
 q146:tab A5=some CF
 q147:tab nz=some zH
 q148:tab cN=some ee
 q149:tab cJ=some dX
 q150:tab gD=some c_P_rows_form_put
 q151:tab rB=some zI
 q152:tab pQ=some xd
 q153:tab mO=some so
 q154:tab mJ=some Cr
 q155:tab oi=some um
 q156:tab bg=some bV
 q157:tab pP=some xc
 q158:tab ju=some nM
 q159:tab uP=some Cy
 q160:tab rE=some zM
 q161:tab rC=some c_sat_Signs
 q162:tab uU=some CG
 q163:tab rx=some zz
 q164:tab xU=some DV
 q165:tab mL=some sf
 q166:tab ot=some ut
 q167:tab cH=some dV
 q168:tab oj=some uo
 q169:tab mM=some sj
 q170:tab ol=some uq
 q171:tab gN=some sr
 q172:tab pO=some wW
 q173:tab yd=some Ec
 q174:tab nV=some ui
 q175:tab fh=some pq
 q176:tab oE=some uA
 q177:tab ye=some Ee
 q178:tab kv=some po
 q179:tab oG=some uD
 q180:tab uT=some CD
 q181:tab dN=some gY
 q182:tab BH=some HG
 q183:tab gA=some kg
 q184:tab gQ=some lq
 q185:tab gR=some lu
 q186:tab uS=some CC
 q187:tab uO=some Cx
 q188:tab cQ=some eU
 q189:tab jw=some nO
 q190:tab jv=some nN
 q191:tab rF=some zN
 q192:tab bh=some dJ
end Go.Proofs.YteaefaohjlmjdaaGreat.Ev
namespace Go.Proofs.YteaefaohjlmjdaaGreat.Nn
abbrev B:Nat:=18446744073709551616
def val:List Nat->Nat
 | []=>0
 | a :: l=>a+B*val l
def Lim (l:List Nat):Prop:=∀ a∈l,a<B
def Np (l:List Nat):Prop:=l.getLast? ≠ some 0
def Lim.nil:Lim []:=fun a h=>by cases h
def Lim.cons {a:Nat} {l:List Nat} (h:a<B) (hl:Lim l):Lim (a :: l):=fun b hb=>by
 rcases FC.1 hb with rfl | hb
 ·exact h
 ·exact hl b hb
def Lim.head {a:Nat} {l:List Nat} (h:Lim (a :: l)):a<B:=h a (Al ..)
def Lim.tail {a:Nat} {l:List Nat} (h:Lim (a :: l)):Lim l:=fun b hb=>h b (tZ _ hb)
def Lim.append {l m:List Nat} (h:Lim l) (h':Lim m):Lim (l++m):=fun b hb=>by
 rcases Eu.1 hb with hb | hb
 ·exact h b hb
 ·exact h' b hb
def Lim.take {l:List Nat} (h:Lim l) (n:Nat):Lim (l.take n):=fun b hb=>h b (YS hb)
def Lim.drop {l:List Nat} (h:Lim l) (n:Nat):Lim (l.drop n):=fun b hb=>h b (Zo hb)
def Lim.replicate (n:Nat):Lim (List.replicate n 0):=fun b hb=>by
 rw [Yw hb]; decide
def Lim.at {l:List Nat} (h:Lim l) (i:Nat):l.getD i 0<B:=by
 rw [iF];cases hi:l[i]? with
 | none=>show 0<B; decide
 | some a=>exact h a (Cv hi)
def pF:∀ (l m:List Nat),val (l++m)=val l+B^l.length*val m
 | [],m=>by simp [val]
 | a :: l,m=>by
  simp only [YQ,val,pF l m,Sb,Rb];rw [XH,<- Se,EV (B^l.length) B];omega
def xI:∀ {l:List Nat},Lim l->val l<B^l.length
 | [],_=>by simp [val]
 | a :: l,h=>by
  have b:=xI h.tail;have ha:=h.head;simp only [val,Sb,Rb]
  have:B*(val l+1)<=B*B^l.length:=YY B b
  rw [EV (B^l.length) B];rw [XH] at this;omega
def tg (n:Nat):val (List.replicate n 0)=0:=by
 induction n with
 | zero=>rfl
 | succ n a=>simp [Ya,val,a]
def km (l:List Nat) (a:Nat):val (l++[a])=val l+B^l.length*a:=by
 rw [pF]; simp [val]
def J3:∀ {l m:List Nat},Lim l->Lim m->l.length=m.length->val l=val m->l=m
 | [],[],_,_,_,_=>rfl
 | [],_ :: _,_,_,h,_=>by simp at h
 | _ :: _,[],_,_,h,_=>by simp at h
 | a :: l,b :: m,h1,h2,h,e=>by
  have ha:=h1.head;have hb:=h2.head;simp only [val] at e;have c:a=b:=by
   have:(a+B*val l) % B=(b+B*val m) % B:=by rw [e]
   rw [Zk,Zk,Sl ha,Sl hb] at this;exact this
  subst c;have d:val l=val m:=Nat.eq_of_mul_eq_mul_left (by decide) (Nat.add_left_cancel e);rw [J3 h1.tail h2.tail (by simpa using h) d]
def At {l:List Nat} (hn:Np l) (hne:l≠[]):B^(l.length-1)<=val l:=by
 rcases YL l with rfl | ⟨b,a,rfl⟩
 ·exact absurd rfl hne
 ·rw [YM] at *;rw [km];have ha:a≠0:=fun e=>hn (by rw [e]; simp)
  have:B^b.length*1<=B^b.length*a:=YY _ zO
  simp only [C5,List.length_singleton,YP];omega
def Rc {l m:List Nat} (h1:Lim l) (h2:Lim m) (b:Np l) (a:Np m) (e:val l=val m):l=m:=by
 have key:∀ {l m:List Nat},Lim l->Np m->val l=val m->m.length<=l.length:=by
  intro l m h1 a e;by_cases hm:m=[]
  ·subst hm; simp
  ·have c:=xI h1;have d:=At a hm
   apply Y6
   intro hlt
   have:B^l.length<=B^(m.length-1):=JR (by decide) zO
   omega
 exact J3 h1 h2 (Y3 (key h2 b e.symm) (key h1 a e)) e
def ah (n:Nat):List Nat:=if h:n=0 then [] else n % B :: ah (n / B)
 termination_by n
 decreasing_by exact Nat.div_lt_self zO (by decide)
theorem cR:ah 0=[]:=by unfold ah; rfl
def kz {n:Nat} (h:n≠0):ah n=n % B :: ah (n / B):=by rw [ah,dif_neg h]
def bM (n:Nat):val (ah n)=n:=by
 induction n using Nat.strongRecOn with
 | _ n a =>
  by_cases h:n=0
  ·subst h; rw [cR]; rfl
  ·rw [kz h];simp only [val];rw [a _ (Nat.div_lt_self zO (by decide))]
   have:=Nat.mod_add_div n B
   omega
def aY (n:Nat):Lim (ah n):=by
 induction n using Nat.strongRecOn with
 | _ n a =>
  by_cases h:n=0
  ·subst h; rw [cR]; exact Lim.nil
  ·rw [kz h];exact Lim.cons (XD _ (by decide)) (a _ (Nat.div_lt_self zO (by decide)))
def dK (n:Nat):Np (ah n):=by
 induction n using Nat.strongRecOn with
 | _ n a =>
  by_cases h:n=0
  ·subst h; rw [cR]; simp [Np]
  ·rw [kz h];have a:=a _ (Nat.div_lt_self zO (by decide:1<B));unfold Np at a ⊢;by_cases h2:n / B=0
   ·rw [h2,cR]
    have:n % B=n:=Sl (by
     rcases Nat.lt_or_ge n B with h | h
     ·exact h
     ·have:=Nat.div_pos h (by decide:0<B); omega)
    rw [this];simp [h]
   ·rw [kz h2] at a ⊢;rw [List.getLast?_cons_cons]; exact a
def Wi {l:List Nat} (h:Lim l) (n:Np l):ah (val l)=l:=Rc (aY _) h (dK _) n (bM _)
def br {n k:Nat} (h:n<B^k):(ah n).length<=k:=by
 by_cases h0:ah n=[]
 ·rw [h0]; simp
 ·have g:=At (dK n) h0;rw [bM] at g
  apply Y6
  intro hlt
  have:B^k<=B^((ah n).length-1):=JR (by decide) zO
  omega
def iM (n:Nat):n<B^(ah n).length:=by
 have:=xI (aY n)
 rw [bM] at this; exact this
def limbs_nil {n:Nat}:ah n=[] ↔ n=0:=by
 constructor
 ·intro h
  have:=bM n
  rw [h] at this
  simpa [val] using this.symm
 ·rintro rfl; exact cR
def fc (l:List Nat):List Nat:=(l.reverse.dropWhile (· == 0)).reverse
def eQ (l:List Nat):fc (l++[0])=fc l:=by simp [fc]
def jp {l:List Nat} {a:Nat} (h:a≠0):fc (l++[a])=l++[a]:=by simp [fc,h]
theorem xJ:fc []=[]:=rfl
def AT:∀ (n:Nat) (l:List Nat),l.length=n->Lim l->fc l=ah (val l)
 | 0,l,hl,_=>by
  have:l=[]:=OK hl
  subst this;rw [xJ]; show []=ah 0; rw [cR]
 | n+1,l,hl,h=>by
  rcases YL l with rfl | ⟨b,a,rfl⟩
  ·simp at hl
  ·rw [YM] at *;have c:b.length=n:=by simpa using hl
   have d:Lim b:=fun x hx=>h x (XF _ hx);by_cases ha:a=0
   ·subst ha;rw [eQ,AT n b c d,km]; simp
   ·rw [jp ha,Wi h];unfold Np;simp [ha]
def eW {l:List Nat} (h:Lim l):fc l=ah (val l):=AT _ l rfl h
end Go.Proofs.YteaefaohjlmjdaaGreat.Nn
namespace Go.Proofs.YteaefaohjlmjdaaGreat.Ev
open Go Nn
abbrev Lb (H:Heap) (v:AV) (l:List Nat):Prop:=AD gg ae H v l
abbrev bO (H:Heap) (v:AV) (n:Nat):Prop:=Lb H v (ah n)
def Sm (n:Nat):Prop:=(ah n).length<1099511627776
section
variable {tab:Nat->Option aA} {H:Heap} {s:AV} {l:List Nat}
def fM (hs:Lb H s l) {i:Nat} (hi:i<l.length):bk H none (aB s i)=some (.int .u64 (l.getD i 0:Nat)):=by
 obtain ⟨c,hc,h⟩:=SlV.at1 hs (i:=i) (a:=l.getD i 0) (by simp [hi,iF]);rw [h,hc]
def oZ (C:Code tab) (j:Wf H) (hs:Lb H s l) (e:l.length<4611686018427387904) :
  Ans tab (.fn nB [s]) H fun v H'=>v=.int .i64 (if l.getLast? = some 0 then 8 else 0)/\Kp H H':=by
 refine cT C.q113 zU fun T hl c=>?_;rcases YL l with rfl | ⟨b,a,rfl⟩
 ·have d:lenV s=some (.int .i64 0):=hs.lenV;refine zW (aD hl c d) ?_;exact ⟨rfl,zK⟩
 ·rw [YM] at *;have d:lenV s=some (.int .i64 ((b.length:Int)+1)):=by have:=hs.lenV; simpa using this
  have i:IntKind.i64.wrap ((b.length:Int)+1-1)=(b.length:Int):=by rw [wrap_i64] <;> simp at e <;> omega
  have g:(0:Int)<(b.length:Int)+1:=zO;have hi:=SlV.idx1 hs .i64 b.length (by simp);have f:bk H none (aB s b.length)=some (.int .u64 (a:Nat)):=by rw [fM hs (by simp)]; simp
  refine zW (fo hl c d i g hi f) ?_;refine iteH.split (fun h=>?_) fun h=>?_
  ·refine zW (aE hl c) ?_;exact ⟨by rw [if_pos]; simp; omega,zK⟩
  ·refine zW (aE hl c) ?_;exact ⟨by rw [if_neg]; simp; omega,zK⟩
def rt (C:Code tab) (q:Wf H) {ls:List (List Nat)} {ty:Nat} (hs:AD (tT (bU gg) ae) ty H s ls) (p:ls.length<4611686018427387904) (hc:∀ c∈ls,c.length<4611686018427387904/\c.getLast? ≠ some 0) :
  Ans tab (.fn oA [s]) H fun v H'=>v=.int .i64 0/\Kp H H':=by
 refine cT C.q136 zU fun T hl d=>?_;refine zW (aD hl d hs.lenV) ?_;refine aq H [] (fun _ _ _=>True) (a:=0) (N:=ls.length) rfl (by refine zW (aE hl d) ?_; rfl) (zV (aE hl d)) (xq _) zO (by simp only [dz,hl]; rfl) rfl (fun _ _ _ _ h=>h) zK trivial ?_ ?_
 ·intro j T1 i _ hj b l g e _;have w1:=e.wf;have r:=e.le;have o:ad T1 6=s:=(g.at_ 6 zU).trans (zV (aE hl d));obtain ⟨c,k,n⟩:=SlV.at1 (hs.mono e.sub) (eA hj);have m:=SlV.idx1 hs .i64 j hj;have f:=hc _ (mQ hj);simp only [dz,hl] at b;refine zW (bB b o l m n) ?_;refine AnsH.eq (oZ C zF k f.1) fun H2 h2=>?_;rw [if_neg f.2];refine zW b ?_;have k2:Kp H H2:=Kp.trans zK h2;have t:=k2.le;exact zK
 ·intro T1 i b g e _;simp only [dz,hl] at b;refine zW b ?_;exact zK
def qH (C:Code tab) (c:Wf H) (hs:Lb H s l):Ans tab (.fn cF [s]) H fun v H'=>Lb H' v l/\Kp H H':=by
 refine cT C.q100 zU fun T hl a=>?_;obtain ⟨b,e,hr⟩:=hs.clip .i64 .i64;have e':cG 1 s none (some (.int .i64 (l.length:Int))) (some (.int .i64 (l.length:Int)))=some b:=e;refine zW (aO hl a hs.lenV e') ?_;exact ⟨hr.mono (Sub.bump H _),zK⟩
def wh (C:Code tab) (D:Wf H) (hs:Lb H s l) (y:l.length<4611686018427387904) :
  Ans tab (.fn pT [s]) H fun v H'=>Lb H' v (fc l)/\Kp H H':=by
 refine cT C.q63 zU fun T hl j=>?_;refine zW (aE hl j) ?_;refine cu H [0] (fun k vs H'=>∃ v,vs=[v]/\Lb H' v (l.take k)/\fc (l.take k)=fc l/\k<=l.length) l.length (by simp only [dz]; exact hl) rfl zK ⟨s,by exact zV (aE hl j),by rw [KO]; exact hs,by rw [KO],o0 _⟩ ?_;rintro k T1 f c B m ⟨v,g,hr,d,z⟩;have w1:=m.wf;have E:=m.le;simp only [uz,B3,Ae,and_true] at g;rcases YL (l.take k) with h0 | ⟨b,a,h0⟩
 ·rw [h0] at hr d;have h:lenV v=some (.int .i64 0):=hr.lenV;refine zW (aD c g h) ?_;refine AnsH.use (qH C zF (hr.mono (Sub.bump f _))) ?_;rintro v2 H2 ⟨h1,h2⟩;have k2:Kp H H2:=Kp.trans zK h2;have x:=k2.le;rw [<- d];refine zW c ?_;exact ⟨h1,zK⟩
 ·rw [YM] at h0;have A:k=b.length+1:=by have:=congrArg List.length h0; simp at this; omega
  have n:l.take b.length=b:=by
   have:=congrArg (List.take b.length) h0
   rw [YW,XO zO] at this
   simpa using this
  rw [h0] at hr d;have h:lenV v=some (.int .i64 ((b.length:Int)+1)):=by have:=hr.lenV; simpa using this
  have u:(0:Int)<(b.length:Int)+1:=zO;have r:=SlV.idx1 hr .i64 b.length (by simp);have t:bk f none (aB v b.length)=some (.int .u64 (a:Nat)):=by rw [fM hr (by simp)]; simp
  have o:IntKind.i64.wrap ((b.length:Int)+1-1)=(b.length:Int):=by rw [wrap_i64] <;> omega
  refine zW (fo c g h u r t o) ?_;refine iteH.split (fun ha=>?_) fun ha=>?_
  ·obtain ⟨i,e,w⟩:=hr.hi .i64 b.length (by simp);have e':cG 1 v none (some (.int .i64 (b.length:Int))) none=some i:=e;have q:a=0:=zO;subst q;refine zW (bB c g h o e') ?_;refine ⟨zK,b.length,zO,i,rfl,?_,?_,zO⟩
   ·rw [n];have h3:Lb f i b:=by simpa using w
    exact h3.mono (Sub.bump f _)
   ·rw [n,<- d,eQ]
  ·have p:a≠0:=zO;refine zW (aE c g) ?_;refine AnsH.use (qH C zF (hr.mono (Sub.bump f _))) ?_;rintro v2 H2 ⟨h1,h2⟩;have k2:Kp H H2:=Kp.trans zK h2;have x:=k2.le;rw [jp p] at d;rw [<- d];refine zW c ?_;exact ⟨h1,zK⟩
def I5 (C:Code tab) (b:Wf H) {n:Nat} (hn:n<B):Ans tab (.fn BI [.int .u64 (n:Int)]) H fun v H'=>bO H' v n/\Sm n/\Kp H H':=by
 refine cT C.q35 zU fun T hl a=>?_;refine zW (aE hl a) ?_;have k1:Kp H ((H.up 5).put (H.next+2) (.cells [.int .u64 (n:Int)] ae true)):=zK;have c:=k1.le;have hs:Lb ((H.up 5).put (H.next+2) (.cells [.int .u64 (n:Int)] ae true)) (.own (H.next+2) 0 1 1 1 true) [n] :=
  (show Own (bU gg) ae H _ _ true _ [n] from ⟨_,rfl,al _ _ _,Cells.one ⟨_,rfl,rfl⟩,zO⟩).sl
 refine AnsH.use (wh C k1.wf hs (by simp)) ?_;rintro v H2 ⟨h1,h2⟩;have e:fc [n]=ah n:=by rw [eW (Lim.cons hn Lim.nil)]; simp [val]
 rw [e] at h1;refine zW (aE hl a) ?_;refine ⟨h1,?_,k1.trans h2⟩
 have:=br (n:=n) (k:=1) (by simpa using hn)
 unfold Sm; omega
def fw (C:Code tab) (d:Wf H) (hs:Lb H s l) (b:Bool) :
  Ans tab (.fn A4 [.bool b,s]) H fun v H'=>v=.agg [.bool (b && decide (0<l.length)),s]/\Kp H H':=by
 refine bA C.q36 zU fun T hl a c=>?_;have e:=hs.one;cases b
 ·refine zW (aO hl a c hs.lenV) ?_;exact zK
 ·refine zW (aO hl a c hs.lenV) ?_;exact zK
end
def dI (f:Nat->Nat->Nat->Nat × Nat) (a b:List Nat):Nat->List Nat × Nat
 | 0=>([],0)
 | k+1=>((dI f a b k).1++[(f (a.getD k 0) (b.getD k 0) (dI f a b k).2).1],(f (a.getD k 0) (b.getD k 0) (dI f a b k).2).2)
def ip (f:Nat->Nat->Nat->Nat × Nat) (a b:List Nat):∀ k,(dI f a b k).1.length=k
 | 0=>rfl
 | k+1=>by simp [dI,ip f a b k]
section
variable {tab:Nat->Option aA} {H:Heap}
def Mg (C:Code tab) (c:Wf H) {sa sb:AV} (ha:One sa) (hb:One sb) :
  Ans tab (.fn rE [sa,sb]) H fun v H'=>v=.fn (.func gN) [] [.ptr H.next 0,.ptr (H.next+1) 0]/\H'.get H.next=some (.cells [sa] aK true)/\H'.get (H.next+1)=some (.cells [sb] aK true)/\H.next+2<=H'.next/\Kp H H':=by
 refine bA C.q160 zU fun T hl a b=>?_;refine zW (aD hl a b) ?_;exact ⟨zO,zK⟩
def C0 (C:Code tab) {H0:Heap} {r s bb:Nat} {a b:List Nat} {sa sb:AV} (J:Nat->Heap->Prop) (B:a.length<4611686018427387904) (D:b.length<4611686018427387904) {M:Nat} (z:M=max a.length b.length)
  (A:Kp H0 H) (h0:J 0 H) (w:∀ k H m,J k H->J k (H.up m)) (hA:∀ k H,J k H->H.get s=some (.cells [sa] aK true)/\Lb H sa a/\H.get bb=some (.cells [sb] aK true)/\Lb H sb b)
  (hr:∀ k H,k<M->Kp H0 H->J k H->Ans tab (.round r [.int .u64 (a.getD k 0:Nat),.int .u64 (b.getD k 0:Nat)]) H fun v H'=>v=.bool true/\Kp H0 H'/\J (k+1) H') :
  Ans tab (.ent gN [.loopv r,.ptr s 0,.ptr bb 0]) H fun _ H'=>Kp H0 H'/\J M H':=by
 refine Vp C.q171 zU fun T hl i n o=>?_;obtain ⟨q1,q2,q3,q4⟩:=hA _ _ h0;have y:Mi (.int .i64 (a.length:Int)) (.int .i64 (b.length:Int))=some (.int .i64 (M:Int)):=by rw [Fa]; congr 2; split <;> omega
 refine zW (jU hl i n o q1 q3 q2.lenV q4.lenV y) ?_;refine aq H0 [] (fun j _ H'=>J j H') (a:=0) (N:=M) rfl (by refine zW (aO hl i n o) ?_; rfl) (zV (aO hl i n o)) (xq _) zO (by simp only [dz,hl]; rfl) rfl (fun j _ H' m h=>w _ _ _ h) zK (w _ _ _ h0) ?_ ?_
 ·intro j T1 x _ hj c d q u p;simp only [dz,hl] at c;have t0:ad T1 0=.loopv r:=(q.at_ 0 zU).trans (zV (aE hl i));have t1:ad T1 1=.ptr s 0:=(q.at_ 1 zU).trans (zV (bB hl i n o n));have g:ad T1 2=.ptr bb 0:=(q.at_ 2 zU).trans (zV (bB hl i n o o));obtain ⟨q1,q2,q3,q4⟩:=hA _ _ p;have t:∀ (l:List Nat),¬ j<l.length->l.getD j 0=0:=fun l h=>by rw [iF,Pi zO]; rfl
  have e:∀ m,Ans tab (.round r [.int .u64 (a.getD j 0:Nat),.int .u64 (b.getD j 0:Nat)]) (x.up m) fun v H'=>v=.bool true/\Kp H0 H'/\J (j+1) H':=fun m=>hr j _ hj (u.up m) (w _ _ _ p);refine zW (jU c t0 t1 g d q1 q3 q2.lenV q4.lenV) ?_;refine iteH.split (fun h1=>?_) fun h1=>?_
  ·have x1:=SlV.idx1 q2 .i64 j h1;have d1:=fM q2 h1;refine zW (ia c t0 t1 g d q1 q3 q2.lenV q4.lenV x1 d1) ?_;refine iteH.split (fun h2=>?_) fun h2=>?_
   ·have x2:=SlV.idx1 q4 .i64 j h2;have d2:=fM q4 h2;refine zW (ia c t0 t1 g d q1 q3 q2.lenV q4.lenV x2 d2) ?_;refine AnsH.eq (e _) fun H2 ⟨k2,f⟩=>?_;refine zW c ?_;exact ⟨zK,f⟩
   ·rw [t b h2] at e;refine zW (fo c t0 t1 g d q1 q3) ?_;refine AnsH.eq (e _) fun H2 ⟨k2,f⟩=>?_;refine zW c ?_;exact ⟨zK,f⟩
  ·rw [t a h1] at e;refine zW (jU c t0 t1 g d q1 q3 q2.lenV q4.lenV) ?_;refine iteH.split (fun h2=>?_) fun h2=>?_
   ·have x2:=SlV.idx1 q4 .i64 j h2;have d2:=fM q4 h2;refine zW (ia c t0 t1 g d q1 q3 q2.lenV q4.lenV x2 d2) ?_;refine AnsH.eq (e _) fun H2 ⟨k2,f⟩=>?_;refine zW c ?_;exact ⟨zK,f⟩
   ·rw [t b h2] at e;refine zW (fo c t0 t1 g d q1 q3) ?_;refine AnsH.eq (e _) fun H2 ⟨k2,f⟩=>?_;refine zW c ?_;exact ⟨zK,f⟩
 ·intro T1 x c q u p;refine zW c ?_;exact ⟨u,p⟩
def pJ {f:Src} {ps:List Nat} {a body:ACode} {T:Tm} {Q:Ex->Tm->Heap->Prop} {fi:Nat} {args:List AV} (b:iU (f.ev T) [.loopv H.next]=some (.fn fi args))
  (h:Ans tab (.ent fi args) ((H.up 1).put H.next (.loop T ps a body .ready none)) fun _ H2 =>
   (H2.get H.next=some (.loop T ps a body .ready none)/\Q .nrm T (H2.kill H.next))\/(H2.get H.next=some (.loop T ps a body .done (some .ret))/\Q .ret T (H2.kill H.next)) \/
   (∃ id,H2.get H.next=some (.loop T ps a body .done (some (.exit id)))/\Q (.exit id) T (H2.kill H.next))):rangeH tab f ps a body () () T H Q ():=rangeH.use b h
def BF (C:Code tab) (hw:Wf H) {sa sb:AV} {a b:List Nat} (ha:Lb H sa a) (hb:Lb H sb b) (aa:a.length<4398046511104) (ab:b.length<4398046511104) (P:Lim a) (Q:Lim b) {fi:Nat} {f:Nat->Nat->Nat->Nat × Nat}
  (hg:∀ H x y c,x<B->y<B->c<=1->Ans tab (.fn fi [.int .u64 (x:Nat),.int .u64 (y:Nat),.int .u64 (c:Nat)]) H fun v H'=>v=.tup [.int .u64 ((f x y c).1:Nat),.int .u64 ((f x y c).2:Nat)]/\H'=H) (V:∀ x y c,x<B->y<B->c<=1->(f x y c).2<=1) :
  Ans tab (.fn pU [sa,sb,.fn (.func fi) [] []]) H fun v H'=>∃ o,v=.tup [o,.int .u64 ((dI f a b (max a.length b.length)).2:Nat)]/\Bl (bU gg) ae H H' o (dI f a b (max a.length b.length)).1/\Kp H H':=by
 refine lC C.q137 zU fun T hl j l m=>?_;refine zW (aO hl j l m) ?_;have k1:Kp H ((((H.up 6).put H.next (.cells [.fn (.func fi) [] []] aJ true)).put (H.next+1) (.cells [.nilSl] aK true)).put (H.next+1+1) (.cells [.int .u64 0] ae true)):=zK;have ah:=k1.le;refine AnsH.use (Mg C k1.wf ha.one hb.one) ?_;rintro v H2 ⟨rfl,G,I,Y,t⟩;have k2:=k1.trans t;have p5:H2.get H.next=some (.cells [.fn (.func fi) [] []] aJ true):=t.get (cC)
 have p6:H2.get (H.next+1)=some (.cells [.nilSl] aK true):=t.get (cC);have p7:H2.get (H.next+1+1)=some (.cells [.int .u64 0] ae true):=t.get (cC);have X:((((H.up 6).put H.next (.cells [.fn (.func fi) [] []] aJ true)).put (H.next+1) (.cells [.nilSl] aK true)).put (H.next+1+1) (.cells [.int .u64 0] ae true)).next=H.next+6:=rfl
 rw [X] at G I Y ⊢;refine zW (aO hl j l m) ?_;refine pJ (fi:=gN) (args:=[.loopv H2.next,.ptr (H.next+6) 0,.ptr (H.next+6+1) 0]) (by refine zW (aO hl j l m) ?_; rfl) ?_
 generalize he:Ent.loop _ _ _ _ _ _=e0
 have A:Kp H ((H2.up 1).put H2.next e0):=zK;have aj:=A.le;refine (C0 C (H0:=H) (a:=a) (b:=b) (sa:=sa) (sb:=sb) (M:=max a.length b.length) (fun k H'=>H'.get H2.next=some e0/\H'.get H.next=some (.cells [.fn (.func fi) [] []] aJ true) /\
   (∃ o,H'.get (H.next+1)=some (.cells [o] aK true)/\Bl (bU gg) ae H H' o (dI f a b k).1/\∀ n,o ≠ .own (H.next+1+1) 0 n n 1 false)/\H'.get (H.next+1+1)=some (.cells [.int .u64 ((dI f a b k).2:Nat)] ae true)/\(dI f a b k).2<=1 /\
   H'.get (H.next+6)=some (.cells [sa] aK true)/\H'.get (H.next+6+1)=some (.cells [sb] aK true)/\Lb H' sa a/\Lb H' sb b) zO zO rfl A
  ⟨by exact cC,by exact zV p5,⟨.nilSl,by exact zV p6,Bl.nil,fun n h=>by cases h⟩,by refine zW p7 ?_; rfl,xq _,by exact zV G,by exact zV I,ha.mono A.sub,hb.mono A.sub⟩ (fun _ _ _ h=>h) (fun k H' h=>⟨h.2.2.2.2.2.1,h.2.2.2.2.2.2.2.1,h.2.2.2.2.2.2.1,h.2.2.2.2.2.2.2.2⟩) ?_).mono ?_
 ·rintro k d hk K ⟨g,r,⟨o,q,s,F⟩,w,E,L,N,-,-⟩;rw [<- he] at g;refine qB g rfl ?_;refine zW (fX hl j l m g r q w) ?_;refine AnsH.eq (hg _ _ _ _ (P.at k) (Q.at k) E) fun H3 e3=>?_;subst e3;have hlt:=K.wf _ _ g;have ad:=K.le;have hz:=V _ _ _ (P.at k) (Q.at k) E;refine zW (fX hl j l m g r q w) ?_
  generalize J:Ent.loop _ _ _ _ LoopState.busy none=p
  generalize u:f (a.getD k 0) (b.getD k 0) (dI f a b k).2=z
  have O:Kp H (((d.up 13).put H2.next p).put (H.next+2) (.cells [.int .u64 (z.2:Nat)] ae true)):=zK;have al:=O.le;have q1:Bl (bU gg) ae H (((d.up 13).put H2.next p).put (H.next+2) (.cells [.int .u64 (z.2:Nat)] ae true)) o (dI f a b k).1 :=
   (Bl.put (show Bl _ _ _ (d.up 13) _ _ from s) (s.ne g fun cs h=>by cases h) (SubT.nil _ _)).put F (SubT.nil _ _)
  have af:=ip f a b k;obtain ⟨n,i,S,q2,k5,Z,hp⟩:=q1.push (ty2:=ae) (bytes:=8) (id:=d.next+16) (id2:=d.next+15) (k:=5) (cs:=[.int .u64 (z.1:Nat)]) (a:=z.1) (fun h=>by cases h) O ⟨_,rfl,rfl⟩
   (by show d.next+13<=_; omega) (by show _<d.next+13+5; omega) (by show d.next+13<=_; omega) (by show _<d.next+13+5; omega) zO zO zO
  have U:dr ((((d.up 18).put H2.next p).put (H.next+2) (.cells [.int .u64 (z.2:Nat)] ae true)).put (d.next+15) (.cells [.int .u64 (z.1:Nat)] ae true)) (d.next+16) 1 8 ae o (.own (d.next+15) 0 1 1 1 true)=some (.own (d.next+16) 0 n n 1 false,i):=S;have r6:i.get (H.next+1)=some (.cells [o] aK true):=hp (H.next+1) (.cells [o] aK true) (zV q) (q1.ne (e:=.cells [o] aK true) (zV q) fun cs h=>by injection h with _ h2; exact absurd h2 zU);refine zW (dj hl j l m U r6) ?_;have R:∀ {o':AV} {cs:List AV},Ent.cells [o'] aK true ≠ .cells cs ae true:=fun h=>by injection h with _ h2; exact absurd h2 zU
  have r0:i.get H2.next=some p:=hp H2.next p (cC) (q1.ne (e:=p) (cC) fun cs h=>by rw [<- J] at h; cases h)
  have r5:i.get H.next=some (.cells [.fn (.func fi) [] []] aJ true):=hp H.next _ (zV r) (q1.ne (e:=.cells [.fn (.func fi) [] []] aJ true) (zV r) fun cs h=>by injection h with _ h2; exact absurd h2 zU)
  have r7:i.get (H.next+2)=some (.cells [.int .u64 (z.2:Nat)] ae true):=hp (H.next+2) _ (cC) F;have ra:i.get (H.next+6)=some (.cells [sa] aK true):=hp (H.next+6) (.cells [sa] aK true) (zV L) (q1.ne (e:=.cells [sa] aK true) (zV L) fun cs=>R);have rb:i.get (H.next+7)=some (.cells [sb] aK true):=hp (H.next+7) (.cells [sb] aK true) (zV N) (q1.ne (e:=.cells [sb] aK true) (zV N) fun cs=>R);have ag:i.next=d.next+18:=Z
  have D:Kp H ((i.put (H.next+1) (.cells [.own (d.next+16) 0 n n 1 false] aK true)).put H2.next e0):=zK;have am:=D.le;rw [vS];refine zW (fo J he r0 r5 r7 ra rb) ?_;refine ⟨D,⟨_,rfl,?_,fun n' h=>by injection h; omega⟩,?_,?_,ha.mono D.sub,hb.mono D.sub⟩
  ·have:(dI f a b (k+1)).1=(dI f a b k).1++[z.1]:=by rw [<- u]; rfl
   rw [this];exact (q2.put (fun n' h=>by injection h; omega) (SubT.nil _ _)).put (fun n' h=>by injection h; omega) (SubT.nil _ _)
  ·rw [<- u]; rfl
  ·have:(dI f a b (k+1)).2=z.2:=by rw [<- u]; rfl
   rw [this,<- u]; exact hz
 ·rintro _ H' ⟨W,g,r,⟨o,q,s,F⟩,w,E,-⟩;have hlt:=W.wf _ _ g;refine .inl ⟨g,?_⟩;refine zW (dj hl j l m q w) ?_;exact ⟨o,rfl,s.kill (s.ne g fun cs h=>by rw [<- he] at h; cases h) (SubT.nil _ _),zK⟩
end
def db (l:List Nat) (k:Nat):val (l.take (k+1))=val (l.take k)+B^k*l.getD k 0:=by
 by_cases h:k<l.length
 ·rw [BU h,km,L9,XO (Ys h)];simp [iF,h]
 ·rw [MU zO,MU zO,iF,Pi zO]
  simp
def fk (x y c:Nat):Nat × Nat:=((x+y+c) % B,(x+y+c) / B)
def jF (x y c:Nat):Nat × Nat:=((x+B-y-c) % B,if x<y+c then 1 else 0)
def Ay (x y c:Nat) (hx:x<B) (hy:y<B) (hc:c<=1):(fk x y c).2<=1:=by
 simp only [fk,B] at *; omega
def wL (x y c:Nat):(jF x y c).2<=1:=by
 unfold jF; simp only; split <;> omega
def Aw {f:Nat->Nat->Nat->Nat × Nat} {a b:List Nat} (d:Lim a) (e:Lim b) (h:∀ x y c,x<B->y<B->c<=1->(f x y c).2<=1):∀ k,(dI f a b k).2<=1
 | 0=>xq _
 | k+1=>h _ _ _ (d.at k) (e.at k) (Aw d e h k)
def BW {f:Nat->Nat->Nat->Nat × Nat} {a b:List Nat} (h:∀ x y c,(f x y c).1<B):∀ k,Lim (dI f a b k).1
 | 0=>Lim.nil
 | k+1=>(BW h k).append (Lim.cons (h _ _ _) Lim.nil)
def Le {a b:List Nat}:∀ k,val (dI fk a b k).1+B^k*(dI fk a b k).2=val (a.take k)+val (b.take k)
 | 0=>by simp [dI,val]
 | k+1=>by
  have c:=Le (a:=a) (b:=b) k;rw [db,db];simp only [dI,km,ip]
  generalize dI fk a b k=r at c ⊢
  generalize a.getD k 0=x
  generalize b.getD k 0=y
  simp only [fk];have e:=XP (x+y+r.2) B
  have:B^(k+1)*((x+y+r.2) / B)=B^k*(B*((x+y+r.2) / B)):=by rw [Rb,Se]
  rw [this]
  generalize B*((x+y+r.2) / B)=q at *
  generalize (x+y+r.2) % B=m at *
  have:B^k*(x+y+r.2)=B^k*q+B^k*m:=by rw [<- e,XH]
  rw [XH,XH] at this;omega
def J7 {a b:List Nat} (d:Lim a) (e:Lim b):∀ k,val (dI jF a b k).1+val (b.take k)=val (a.take k)+B^k*(dI jF a b k).2
 | 0=>by simp [dI,val]
 | k+1=>by
  have f:=J7 d e k;have hc:(dI jF a b k).2<=1:=Aw d e (fun x y c _ _ _=>wL x y c) k;rw [db,db];simp only [dI,km,ip];have hx:=d.at k;have hy:=e.at k
  generalize dI jF a b k=r at f hc ⊢
  generalize a.getD k 0=x at *
  generalize b.getD k 0=y at *
  have key:(jF x y r.2).1+y+r.2=x+B*(jF x y r.2).2:=by
   clear f;simp only [jF,B] at *;split <;> omega
  have:B^(k+1)*(jF x y r.2).2=B^k*(B*(jF x y r.2).2):=by rw [Rb,Se]
  rw [this]
  have:=congrArg (B^k * ·) key
  simp only [XH] at this
  generalize B^k*(B*(jF x y r.2).2)=q at *
  generalize B^k*(jF x y r.2).1=m at *
  omega
section
variable {tab:Nat->Option aA} {H:Heap}
def ji (C:Code tab) (H:Heap) (x y c:Nat) (_:x<B) (_:y<B) (hc:c<=1):Ans tab (.fn jx [.int .u64 (x:Nat),.int .u64 (y:Nat),.int .u64 (c:Nat)]) H fun v H'=>v=.tup [.int .u64 ((fk x y c).1:Nat),.int .u64 ((fk x y c).2:Nat)]/\H'=H :=
 AA C.q138 rfl rfl (v:=.tup [.int .u64 ((fk x y c).1:Nat),.int .u64 ((fk x y c).2:Nat)]) (H':=H) (by
  show (if c<=1 then _ else _)=_;rw [if_pos hc]; rfl) ⟨rfl,rfl⟩
def yF (C:Code tab) (H:Heap) (x y c:Nat) (_:x<B) (_:y<B) (hc:c<=1):Ans tab (.fn jt [.int .u64 (x:Nat),.int .u64 (y:Nat),.int .u64 (c:Nat)]) H fun v H'=>v=.tup [.int .u64 ((jF x y c).1:Nat),.int .u64 ((jF x y c).2:Nat)]/\H'=H :=
 AA C.q139 rfl rfl (v:=.tup [.int .u64 ((jF x y c).1:Nat),.int .u64 ((jF x y c).2:Nat)]) (H':=H) (by
  show (if c<=1 then _ else _)=_;rw [if_pos hc]; rfl) ⟨rfl,rfl⟩
def C2 {H c:Heap} {b ty t1:Nat} {α:Type} {E:fQ α} {x y:AV} {l m:List α} (hx:SlV E t1 H x l) (hy:SlV E t1 H y m) (hs:Sub H c) (hg:c.get b=some (.cells [x,y] ty true)):AD (tT E t1) ty c (.own b 0 2 2 1 true) [l,m] :=
 ⟨[x,y],Rd.own hg rfl (o0 _),fun _ _ _ _ _ _ e=>by cases e; exact ⟨_,_,hg⟩,rfl,fun i a hi=>by
  match i with
  | 0=>simp at hi; subst hi; exact ⟨x,rfl,hx.mono hs⟩
  | 1=>simp at hi; subst hi; exact ⟨y,rfl,hy.mono hs⟩
  | i+2=>simp at hi⟩
def Tu {H c:Heap} {b ty t1:Nat} {α:Type} {E:fQ α} {x:AV} {l:List α} (hx:SlV E t1 H x l) (hs:Sub H c) (hg:c.get b=some (.cells [x] ty true)):AD (tT E t1) ty c (.own b 0 1 1 1 true) [l] :=
 ⟨[x],Rd.own hg rfl (o0 _),fun _ _ _ _ _ _ e=>by cases e; exact ⟨_,_,hg⟩,rfl,fun i a hi=>by
  match i with
  | 0=>simp at hi; subst hi; exact ⟨x,rfl,hx.mono hs⟩
  | i+1=>simp at hi⟩
def tQ (a b:List Nat):a.take (max a.length b.length)=a:=MU zO
def qZ (a b:List Nat):b.take (max a.length b.length)=b:=MU zO
def Kn (C:Code tab) (G:Wf H) {sa sb:AV} {x y:Nat} (ha:bO H sa x) (hb:bO H sb y) (hx:Sm x) (hy:Sm y) :
  Ans tab (.fn xX [sa,sb]) H fun v H'=>∃ o,v=.tup [o,.int .i64 0]/\bO H' o (x+y)/\Kp H H':=by
 refine bA C.q116 zU fun T hl g i=>?_;have L:=ha.one;have M:=hb.one;unfold Sm at hx hy;refine zW (aD hl g i) ?_;have k1:Kp H ((H.up 7).put (H.next+4) (.cells [sa,sb] aK true)):=zK;have J:=k1.le;refine AnsH.eq (rt C k1.wf (C2 ha hb k1.sub (al _ _ _)) (by simp) fun c hc=>?_) fun H2 u=>?_
 ·simp at hc;rcases hc with rfl | rfl
  ·exact ⟨zO,dK x⟩
  ·exact ⟨zO,dK y⟩
 have k2:=k1.trans u;have N:=k2.wf;refine zW (aD hl g i) ?_;refine AnsH.use (BF C zF (ha.mono (k2.up _).sub) (hb.mono (k2.up _).sub) zO zO (aY x) (aY y) (f:=fk) (ji C) Ay) ?_;rintro v d ⟨o,rfl,D,j⟩;obtain ⟨I,_,w3⟩:=zT H zK j;have z:=ip fk (ah x) (ah y) (max (ah x).length (ah y).length);have hval:=Le (a:=ah x) (b:=ah y) (max (ah x).length (ah y).length);rw [tQ,qZ,bM,bM] at hval;have A:Lim (dI fk (ah x) (ah y) (max (ah x).length (ah y).length)).1:=BW (fun x y c=>XD _ zU) _;have E:=Aw (aY x) (aY y) Ay (max (ah x).length (ah y).length)
 generalize dI fk (ah x) (ah y) (max (ah x).length (ah y).length)=r at *
 refine zW (aD hl g i) ?_;obtain ⟨n,p,s,q2,l,F,-⟩:=D.push (ty2:=ae) (bytes:=8) (id:=d.next+3) (id2:=d.next+2) (k:=7) (cs:=[.int .u64 (r.2:Nat)]) (a:=r.2) (fun h=>by cases h) j ⟨_,rfl,rfl⟩ zO zO zO zO zO zO zO;have t:dr ((d.up 7).put (d.next+2) (.cells [.int .u64 (r.2:Nat)] ae true)) (d.next+3) 1 8 ae o (.own (d.next+2) 0 1 1 1 true)=some (.own (d.next+3) 0 n n 1 false,p):=s;refine zW (aO hl g i t) ?_;have O:=l.wf;refine AnsH.use (wh C zF q2.sl zS) ?_;rintro v q ⟨h5,w⟩;have m:Kp H q:=((k2.up _).trans l).trans w;have K:=m.le;have e:fc (r.1++[r.2])=ah (x+y):=by
  rw [eW (A.append (Lim.cons (by unfold B; omega) Lim.nil)),km,z,hval]
 rw [e] at h5;refine zW (aD hl g i) ?_;exact ⟨v,rfl,h5,m⟩
def E6 (C:Code tab) (t:Wf H) {sa sb:AV} {x y:Nat} (ha:bO H sa x) (hb:bO H sb y) (hx:Sm x) (hy:Sm y) :
  Ans tab (.fn xW [sa,sb]) H fun v H'=>Kp H H'/\if y<=x then ∃ o,v=.tup [o,.int .i64 0]/\bO H' o (x-y) else v=.tup [.nilSl,.int .i64 10]:=by
 refine bA C.q117 zU fun T hl a b=>?_;have z:=ha.one;have A:=hb.one;unfold Sm at hx hy;refine zW (aD hl a b) ?_;have k1:Kp H ((H.up 7).put (H.next+4) (.cells [sa,sb] aK true)):=zK;have w:=k1.le;refine AnsH.eq (rt C k1.wf (C2 ha hb k1.sub (al _ _ _)) (by simp) fun c hc=>?_) fun H2 i=>?_
 ·simp at hc;rcases hc with rfl | rfl
  ·exact ⟨zO,dK x⟩
  ·exact ⟨zO,dK y⟩
 have k2:=k1.trans i;have B:=k2.wf;refine zW (aD hl a b) ?_;refine AnsH.use (BF C zF (ha.mono (k2.up _).sub) (hb.mono (k2.up _).sub) zO zO (aY x) (aY y) (f:=jF) (yF C) fun x y c _ _ _=>wL x y c) ?_;rintro v g ⟨o,rfl,m,j⟩;obtain ⟨u,_,w3⟩:=zT H zK j;have l:=ip jF (ah x) (ah y) (max (ah x).length (ah y).length);have hval:=J7 (aY x) (aY y) (max (ah x).length (ah y).length);rw [tQ,qZ,bM,bM] at hval;have d:Lim (dI jF (ah x) (ah y) (max (ah x).length (ah y).length)).1:=BW (fun x y c=>XD _ zU) _;have s:=Aw (aY x) (aY y) (fun x y c _ _ _=>wL x y c) (max (ah x).length (ah y).length);have hlt:=xI d;rw [l] at hlt
 generalize dI jF (ah x) (ah y) (max (ah x).length (ah y).length)=r at *
 refine zW (aD hl a b) ?_;refine iteH.split (fun h=>?_) fun h=>?_
 ·have h1:r.2=1:=zO;rw [h1] at hval
  have:¬ y<=x:=zO
  refine zW (aO hl a b this) ?_;exact zK
 ·have h1:r.2=0:=zO;rw [h1] at hval;have n:y<=x:=zO;refine zW (aD hl a b) ?_;refine AnsH.use (wh C zF (m.sl.mono (Sub.bump g _)) zO) ?_;rintro v q ⟨h5,k⟩;obtain ⟨p,_,_⟩:=zT H zK k;have e:fc r.1=ah (x-y):=by
   rw [eW d]; congr 1; omega
  rw [e] at h5;refine zW (aD hl a b) ?_;exact ⟨p,by rw [if_pos n]; exact ⟨v,rfl,h5⟩⟩
end
section
variable {tab:Nat->Option aA} {H:Heap} {s:AV} {l:List Nat}
def ie (C:Code tab) (h:Wf H) (hs:Lb H s l) (j:l.length<1099511627776):Ans tab (.fn cA [s]) H fun v H'=>Lb H' v l/\Kp H H':=by
 refine cT C.q101 zU fun T hl a=>?_;rcases hs.nilcase with ⟨rfl,rfl⟩ | hne
 ·have e:bY .eql .sl .nilSl .nilSl=some (.bool true):=rfl;refine zW (aD hl a e) ?_;exact ⟨SlV.nil _ _ _,zK⟩
 ·have f:cB ([]:List AV) []=some []:=rfl;refine zW (aO hl a hne f) ?_;have k1:Kp H ((H.up 7).put (H.next+3) (.cells [] ae true)):=zK;have n:=k1.le;have h0:SlV (bU gg) ae ((H.up 7).put (H.next+3) (.cells [] ae true)) (.own (H.next+3) 0 0 0 1 true) ([]:List Nat) :=
   (show Own (bU gg) ae H _ (H.next+3) true _ [] from ⟨_,rfl,al _ _ _,Cells.nil _ _,zO⟩).sl
  obtain ⟨i,H2,c,h2,g,k,m,-⟩:=SlV.app (l:=[]) (id:=H.next+5) (bytes:=8) h0 k1 (hs.mono k1.sub) zO (by show _<H.next+7; omega) (by rw [au zO]; exact h.fresh (b:=H.next+5) zO) zS zS;have d:dr ((H.up 7).put (H.next+3) (.cells [] ae true)) (H.next+5) 1 8 ae (.own (H.next+3) 0 0 0 1 true) s=some (i,H2):=c;refine zW (aD hl a d) ?_;exact ⟨h2,g⟩
def intE:fQ Int where
 sz:=2
 tys:=[ae]
 R H cs z:=∃ v,cs=[.bool (decide (z<0)),v]/\bO H v z.natAbs
 pos:=zO
 len:=by rintro H cs z ⟨v,rfl,h⟩; exact ⟨rfl,by simp [h.one.2]; rfl⟩
 mono:=by rintro H H' cs z hs ⟨v,rfl,h⟩; exact ⟨v,rfl,h.monoT hs⟩
def IntV (H:Heap) (v:AV) (z:Int):Prop:=∃ w,v=.agg [.bool (decide (z<0)),w]/\bO H w z.natAbs
def dD (z:Int):Prop:=Sm z.natAbs
def IntV.mono {H H':Heap} (hs:Sub H H') {v:AV} {z:Int} (h:IntV H v z):IntV H' v z:=by
 obtain ⟨w,rfl,h⟩:=h; exact ⟨w,rfl,h.mono hs⟩
def bN (n:Nat):(0<(ah n).length) ↔ n≠0:=by
 rw [List.length_pos_iff];exact not_congr limbs_nil
def dM (C:Code tab) (d:Wf H) {v:AV} {z:Int} (c:IntV H v z) (hz:dD z):Ans tab (.fn vz [v]) H fun v H'=>v=.int .i64 0/\Kp H H':=by
 obtain ⟨w,rfl,hn⟩:=c;unfold dD Sm at hz;have g:=hn.one;refine cT C.q77 zU fun T hl a=>?_;refine zW (aE hl a) ?_;have k1:Kp H ((H.up 16).put H.next (.cells [.bool (decide (z<0)),w] aa true)):=zK;have f:=k1.le;refine AnsH.eq (oZ C k1.wf (hn.mono k1.sub) zO) fun H2 b=>?_;rw [if_neg (dK _)];have k2:=k1.trans b;have b0:H2.get H.next=some (.cells [.bool (decide (z<0)),w] aa true):=b.get (al _ _ _)
 refine zW (aD hl a @b0) ?_;refine iteH.split (fun h=>?_) fun h=>?_
 ·have:¬ (ah z.natAbs).length=0:=by have:=(bN z.natAbs).2 zO; omega
  have e:decide (((ah z.natAbs).length:Int)=0)=false:=by simp; intro h; rw [h] at this; exact this rfl
  refine zW (dj hl a @b0 hn.lenV h e) ?_;exact zK
 ·refine zW (aO hl a @b0 h) ?_;exact zK
def iZ {ty:Nat} {v:AV} {l:List Int} (hs:SlV intE ty H v l) {i:Nat} (hi:i<l.length):∃ w,bO H w (l[i]).natAbs/\bk H (some 2) (aB v (i*2))=some (.agg [.bool (decide (l[i]<0)),w])/\bk H none (aB v (i*2))=some (.bool (decide (l[i]<0)))/\bk H none (aB v (i*2+1))=some w:=by
 obtain ⟨cs,⟨w,rfl,hn⟩,-,h1,h2⟩:=hs.at (eA hi);exact ⟨w,hn,h2,h1 0 _ rfl,h1 1 _ rfl⟩
def KA {c:Heap} {b ty:Nat} {x y:Int} {p q:AV} (hx:bO H p x.natAbs) (hy:bO H q y.natAbs) (hs:Sub H c) (hg:c.get b=some (.cells [.bool (decide (x<0)),p,.bool (decide (y<0)),q] ty true)):SlV intE ty c (.own b 0 2 2 2 true) [x,y] :=
 ⟨_,Rd.own hg rfl (o0 _),fun _ _ _ _ _ _ e=>by cases e; exact ⟨_,_,hg⟩,rfl,fun i a hi=>by
  match i with
  | 0=>simp at hi; subst hi; exact ⟨p,rfl,hx.mono hs⟩
  | 1=>simp at hi; subst hi; exact ⟨q,rfl,hy.mono hs⟩
  | i+2=>simp at hi⟩
def ic (C:Code tab) (q:Wf H) {v:AV} {ls:List Int} {ty:Nat} (hs:SlV intE ty H v ls) (o:ls.length<4611686018427387904) (hc:∀ z∈ls,dD z) :
  Ans tab (.fn lA [v]) H fun v H'=>v=.int .i64 0/\Kp H H':=by
 refine cT C.q83 zU fun T hl d=>?_;refine zW (aD hl d hs.lenV) ?_;refine aq H [] (fun _ _ _=>True) (a:=0) (N:=ls.length) rfl (by refine zW (aE hl d) ?_; rfl) (zV (aE hl d)) (xq _) zO (by simp only [dz,hl]; rfl) rfl (fun _ _ _ _ h=>h) zK trivial ?_ ?_
 ·intro j T1 e _ hj b i f c _;have w1:=c.wf;have r:=c.le;have n:ad T1 6=v:=(f.at_ 6 zU).trans (zV (aE hl d));obtain ⟨w,hn,m,-,-⟩:=iZ (hs.mono c.sub) hj;have k:cS 2 v (.int .i64 (j:Int))=some (aB v (j*2)):=SlV.idx hs .i64 j hj;have g:=hc _ (mQ hj);have s:=hn.one;simp only [dz,hl] at b;refine zW (bB b n i k m) ?_;have p:=c.le;refine AnsH.eq (dM C zF ⟨w,rfl,hn.mono (zG e)⟩ g) fun H2 l=>?_;obtain ⟨k2,_,_⟩:=zT H zK l;refine zW b ?_;exact zK
 ·intro T1 e b f c _;simp only [dz,hl] at b;refine zW b ?_;exact zK
def pd {w:AV} {n:Nat} (b:Bool) (h:bO H w n):IntV H (.agg [.bool (b && decide (0<(ah n).length)),w]) (if b then -(n:Int) else n):=by
 refine ⟨w,?_,?_⟩
 ·have:=bN n
  congr 3;cases b
  ·simp
  ·simp only [Bool.true_and,if_true];by_cases h0:n=0
   ·simp [h0,cR]
   ·have h1:=this.2 h0;simp [h1]; omega
 ·cases b
  ·simpa using h
  ·simpa using h
def Di (C:Code tab) (m:Wf H) {v:AV} {z:Int} (k:IntV H v z) (hz:dD z):Ans tab (.fn rx [v]) H fun v H'=>∃ r,v=.tup [r,.int .i64 0]/\IntV H' r (-z)/\Kp H H':=by
 obtain ⟨w,rfl,hn⟩:=k;have q:=hn.one;refine cT C.q163 zU fun T hl a=>?_;refine zW (aE hl a) ?_;refine AnsH.eq (dM C zF ⟨w,rfl,hn.mono (zG H)⟩ hz) fun H2 c=>?_;obtain ⟨k2,_,_⟩:=zT H zK c;have b0:H2.get H.next=some (.cells [.bool (decide (z<0)),w] aa true):=c.get (cC)
 have b:H2.get (H.next+1)=some (.cells [.bool false,.nilSl] aa true):=c.get (cC);refine zW (aE hl a) ?_;refine aF ?_;refine zD (aO hl a @b0 b) ?_;unfold dD Sm at hz;have s:=k2.wf;refine AnsH.use (ie C zF (hn.mono (zG H)) zO) ?_;rintro v3 g ⟨h3,d⟩;obtain ⟨n,_,w3⟩:=zT H zK d;refine zD (aO hl a @b0 b) ?_;refine AnsH.use (fw C zF h3 _) ?_;rintro v4 i ⟨rfl,f⟩;obtain ⟨l,_,_⟩:=zT H zK f;have p:=h3.one;have j:g.get H.next=some (.cells [.bool (decide (z<0)),w] aa true):=d.get b0
 have d1:i.get (H.next+1)=some (.cells [.bool false,.nilSl] aa true):=f.get (d.get b);refine zD (dj hl a @b0 b j d1) ?_;have o:=l.wf _ _ d1;refine ⟨_,rfl,?_,zK⟩;have hm:=pd (!decide (z<0)) ((h3.mono (Kp.sub (H:=g) (Kp.trans zK f))).monoT (SubT.put_ty (e:=.cells [.bool (!decide (z<0) && decide (0<(ah z.natAbs).length)),v3] aa true) d1 zU));have e:(if (!decide (z<0))=true then -((z.natAbs:Nat):Int) else ((z.natAbs:Nat):Int)) = -z:=by
  by_cases h:z<0 <;> simp [h] <;> omega
 rw [e] at hm;exact hm
end
section
variable {tab:Nat->Option aA} {H:Heap}
def PC (x y:Int):(decide (x<0) == decide (y<0))=decide ((x<0)=(y<0)):=by
 by_cases hx:x<0 <;> by_cases hy:y<0 <;> simp [hx,hy]
def Dh (C:Code tab) (E:Wf H) {a b:AV} {x y:Int} (ha:IntV H a x) (hb:IntV H b y) (hx:dD x) (hy:dD y):Ans tab (.fn ru [a,b]) H fun v H'=>IntV H' v (x+y)/\Kp H H':=by
 obtain ⟨p,rfl,hp⟩:=ha;obtain ⟨q,rfl,l⟩:=hb;have op:=hp.one;have G:=l.one;refine bA C.q85 zU fun T hl f g=>?_;refine zW (aD hl f g) ?_;have fin:∀ (c:Heap) (j:Kp H c) (bb:Bool) (o:AV) (n:Nat) (z:Int),c.get (H.next+2)=some (.cells [.bool false,.nilSl] aa true)->Lb c o (ah n)->(if bb then -(n:Int) else n)=z ->
   IntV (c.put (H.next+2) (.cells [.bool (bb && decide (0<(ah n).length)),o] aa true)) (.agg [.bool (bb && decide (0<(ah n).length)),o]) z/\Kp H (c.put (H.next+2) (.cells [.bool (bb && decide (0<(ah n).length)),o] aa true)):=by
  intro c j bb o n z d1 d hz;have F:=j.wf _ _ d1;refine ⟨?_,zK⟩;rw [<- hz];exact pd bb (d.monoT (SubT.put_ty d1 zU))
 refine iteH.split (fun h=>?_) fun h=>?_
 ·rw [PC] at h;simp only [decide_eq_true_eq,eq_iff_iff] at h;refine zW (aD hl f g) ?_;refine AnsH.use (Kn C zF (hp.mono (zG H)) (l.mono (zG H)) hx hy) ?_;rintro v H2 ⟨o,rfl,d,i⟩;obtain ⟨k2,_,D⟩:=zT H zK i;have b0:H2.get H.next=some (.cells [.bool (decide (x<0)),p] aa true):=i.get (cC)
  have k:H2.get (H.next+2)=some (.cells [.bool false,.nilSl] aa true):=i.get (cC);refine zW (aO hl f g @b0) ?_;refine AnsH.use (fw C zF (d.mono (zG H2)) _) ?_;rintro v3 c ⟨rfl,e⟩;obtain ⟨j,_,_⟩:=zT H zK e;have t:=d.one;have d1:=e.get (b:=H.next+2) k;refine zW (aO hl f g d1) ?_;refine fin c j _ _ _ _ d1 (d.mono (Kp.sub (H:=H2) (Kp.trans zK e))) ?_;by_cases h1:x<0 <;> simp [h1] <;> omega
 ·rw [PC] at h;simp only [decide_eq_true_eq,eq_iff_iff] at h;refine zW (aD hl f g) ?_;refine AnsH.use (E6 C zF (hp.mono (zG H)) (l.mono (zG H)) hx hy) ?_;rintro v H2 ⟨i,hr⟩;obtain ⟨k2,_,D⟩:=zT H zK i;have b0:H2.get H.next=some (.cells [.bool (decide (x<0)),p] aa true):=i.get (cC)
  have r:H2.get (H.next+1)=some (.cells [.bool (decide (y<0)),q] aa true):=i.get (cC);have k:H2.get (H.next+2)=some (.cells [.bool false,.nilSl] aa true):=i.get (cC);by_cases s:y.natAbs<=x.natAbs
  ·rw [if_pos s] at hr;obtain ⟨o,rfl,d⟩:=hr;refine zW (aO hl f g @b0) ?_;refine AnsH.use (fw C zF (d.mono (zG H2)) _) ?_;rintro v3 c ⟨rfl,e⟩;obtain ⟨j,_,_⟩:=zT H zK e;have t:=d.one;have d1:=e.get (b:=H.next+2) k;refine zW (aO hl f g d1) ?_;refine fin c j _ _ _ _ d1 (d.mono (Kp.sub (H:=H2) (Kp.trans zK e))) ?_;by_cases h1:x<0 <;> simp [h1] <;> omega
  ·rw [if_neg s] at hr;subst hr;refine zW (bB hl f g @b0 r) ?_;refine AnsH.use (E6 C zF (l.mono (zG H)) (hp.mono (zG H)) hy hx) ?_;rintro v c ⟨e,hr⟩;rw [if_pos zO] at hr;obtain ⟨o,rfl,d⟩:=hr;obtain ⟨j,_,w3⟩:=zT H zK e;have w:=e.get (b:=H.next+1) r;have A:=e.get (b:=H.next+2) k;refine zW (aO hl f g @w) ?_;refine AnsH.use (fw C zF (d.mono (zG c)) _) ?_;rintro v4 u ⟨rfl,m⟩;obtain ⟨B,_,_⟩:=zT H zK m;have t:=d.one;have d1:=m.get (b:=H.next+2) A;refine zW (aO hl f g d1) ?_;refine fin u B _ _ _ _ d1 (d.mono (Kp.sub (H:=c) (Kp.trans zK m))) ?_;by_cases h1:y<0 <;> simp [h1] <;> omega
def gJ (x:Int):Int:=if x<0 then -1 else if x=0 then 0 else 1
def AF (C:Code tab) (d:Wf H) {a:AV} {x:Int} (ha:IntV H a x):Ans tab (.fn pK [a]) H fun v H'=>v=.int .i64 (gJ x)/\Kp H H':=by
 obtain ⟨p,rfl,hp⟩:=ha;have op:=hp.one;refine cT C.q79 zU fun T hl b=>?_;have c:decide (((ah x.natAbs).length:Int)=0)=decide (x=0):=by
  have:=bN x.natAbs
  by_cases h:x=0
  ·subst h; simp [cR]
  ·have h1:=this.2 zO; simp [h]; intro h2; rw [h2] at h1; simp at h1
 refine zW (aO hl b hp.lenV c) ?_;refine iteH.split (fun h=>?_) fun h=>?_
 ·have hx:x=0:=by
   by_cases h1:x=0
   ·exact h1
   ·simp [h1] at h
  subst hx;refine zW (aE hl b) ?_;exact ⟨rfl,zK⟩
 ·have hx:x≠0:=fun h1=>by subst h1; simp at h
  refine zW (aE hl b) ?_;refine iteH.split (fun h=>?_) fun h=>?_
  ·refine zW (aE hl b) ?_;exact ⟨by simp [gJ,h],zK⟩
  ·refine zW (aE hl b) ?_;exact ⟨by simp [gJ,h,hx],zK⟩
def pD (C:Code tab) (h:Wf H) {a:AV} {x:Int} (ha:IntV H a x) (hx:dD x):Ans tab (.fn pM [a]) H fun v H'=>v=.tup [.int .i64 (gJ x),.int .i64 0]/\Kp H H':=by
 obtain ⟨p,rfl,hp⟩:=ha;have op:=hp.one;refine cT C.q95 zU fun T hl c=>?_;refine zW (aE hl c) ?_;refine AnsH.eq (dM C zF ⟨p,rfl,hp.mono (zG H)⟩ hx) fun H2 d=>?_;obtain ⟨k2,_,j⟩:=zT H zK d;have b0:=d.get (b:=H.next) (e:=.cells [.bool (decide (x<0)),p] aa true) (cC);refine zW (aD hl c @b0) ?_;refine AnsH.eq (AF C zF ⟨p,rfl,hp.mono (zG H)⟩) fun g f=>?_;obtain ⟨i,_,_⟩:=zT H zK f;refine zW (aE hl c) ?_;exact zK
def xF (C:Code tab) (m:Wf H) {a b:AV} {x y:Int} (ha:IntV H a x) (hb:IntV H b y) (hx:dD x) (hy:dD y):Ans tab (.fn rA [a,b]) H fun v H'=>∃ r,v=.tup [r,.int .i64 0]/\IntV H' r (x+y)/\Kp H H':=by
 obtain ⟨p,rfl,hp⟩:=ha;obtain ⟨q,rfl,g⟩:=hb;have op:=hp.one;have s:=g.one;refine bA C.q52 zU fun T hl d f=>?_;refine zW (aD hl d f) ?_;refine AnsH.eq (ic C zF (KA (x:=x) (y:=y) (H:=H) hp g (zG H) (by refine vH ?_; rfl)) (by simp) fun z hz=>?_) fun H2 c=>?_
 ·simp at hz; rcases hz with rfl | rfl <;> assumption
 obtain ⟨k2,_,t⟩:=zT H zK c;have b0:=c.get (b:=H.next) (e:=.cells [.bool (decide (x<0)),p] aa true) (cC);have i:=c.get (b:=H.next+1) (e:=.cells [.bool (decide (y<0)),q] aa true) (cC);have j:=c.get (b:=H.next+2) (e:=.cells [.bool false,.nilSl] aa true) (cC);refine zW (bB hl d f @b0 i) ?_;refine AnsH.use (Dh C zF ⟨p,rfl,hp.mono (zG H)⟩ ⟨q,rfl,g.mono (zG H)⟩ hx hy) ?_;rintro v l ⟨⟨r,rfl,hr⟩,h⟩;obtain ⟨k,_,_⟩:=zT H zK h;have o:=hr.one;have d2:=h.get (b:=H.next+2) j;have n:=k.wf _ _ d2;refine zW (aO hl d f d2) ?_;exact ⟨_,rfl,⟨r,rfl,hr.monoT (SubT.put_ty d2 zU)⟩,zK⟩
def Ly (C:Code tab) (w:Wf H) {a b:AV} {x y:Int} (ha:IntV H a x) (hb:IntV H b y) (hx:dD x) (hy:dD y):Ans tab (.fn rv [a,b]) H fun v H'=>∃ r,v=.tup [r,.int .i64 0]/\IntV H' r (x-y)/\Kp H H':=by
 obtain ⟨p,rfl,hp⟩:=ha;obtain ⟨q,rfl,g⟩:=hb;have op:=hp.one;have D:=g.one;refine bA C.q78 zU fun T hl c d=>?_;refine zW (aD hl c d) ?_;refine AnsH.eq (ic C zF (KA (x:=x) (y:=y) (H:=H) hp g (zG H) (by refine vH ?_; rfl)) (by simp) fun z hz=>?_) fun H2 f=>?_
 ·simp at hz; rcases hz with rfl | rfl <;> assumption
 obtain ⟨k2,_,E⟩:=zT H zK f;have b0:=f.get (b:=H.next) (e:=.cells [.bool (decide (x<0)),p] aa true) (cC);have i:=f.get (b:=H.next+1) (e:=.cells [.bool (decide (y<0)),q] aa true) (cC);have l:=f.get (b:=H.next+2) (e:=.cells [.bool false,.nilSl] aa true) (cC);refine zW (aD hl c d) ?_;refine aF ?_;refine zD (bB hl c d @b0 i) ?_;refine AnsH.use (fw C zF (g.mono (zG H)) _) ?_;rintro v3 t ⟨rfl,j⟩;obtain ⟨o,_,w3⟩:=zT H zK j;have hm:=pd (!decide (y<0)) (g.mono o.sub);have e:(if (!decide (y<0))=true then -((y.natAbs:Nat):Int) else ((y.natAbs:Nat):Int)) = -y:=by
  by_cases h:y<0 <;> simp [h] <;> omega
 rw [e] at hm;have n:dD (-y):=by unfold dD at *; rwa [ZN]
 refine zD (bB hl c d @b0 i) ?_;refine AnsH.use (Dh C zF ⟨p,rfl,hp.mono (zG H)⟩ hm hx n) ?_;rintro v u ⟨⟨r,rfl,hr⟩,k⟩;obtain ⟨s,_,_⟩:=zT H zK k;have B:=hr.one;have m:=j.get (b:=H.next) b0;have d2:=k.get (b:=H.next+2) (j.get (b:=H.next+2) l);have A:=s.wf _ _ d2;refine zD (fo hl c d @b0 i m d2) ?_;refine ⟨_,rfl,⟨r,?_,hr.monoT (SubT.put_ty d2 zU)⟩,zK⟩;rw [Int.sub_eq_add_neg]
end
end Go.Proofs.YteaefaohjlmjdaaGreat.Ev
