/- A part. -/
import Derived.Test.YtiigaeehghcjiaaGreatA0
import Derived.Test.YtiigaeehghcjiaaGreatEvDraw5
import Derived.Test.YtiigaeehghcjiaaGreatProg
set_option linter.all false
namespace Go.Proofs.YtiigaeehghcjiaaGreat.Ev
open Go
def Heap.up (H:Heap) (k:Nat):Heap:={ H with next:=H.next+k }
def Tn (H:Heap) (a b:Nat):(H.up a).up b=H.up (a+b):=by simp [Heap.up,Xz]
theorem Ss (H:Heap) (b k:Nat) (e:Ent):(H.put b e).up k=(H.up k).put b e:=rfl
theorem QG (H:Heap) (b k:Nat):(H.kill b).up k=(H.up k).kill b:=rfl
theorem bL (H:Heap) (k:Nat):(H.up k).next=H.next+k:=rfl
theorem next_put (H:Heap) (b:Nat) (e:Ent):(H.put b e).next=H.next:=rfl
theorem next_kill (H:Heap) (b:Nat):(H.kill b).next=H.next:=rfl
theorem SM (H:Heap) (k b:Nat):(H.up k).get b=H.get b:=rfl
def am (H:Heap) (b:Nat) (e:Ent):(H.put b e).get b=some e:=by rw [F9,if_pos rfl]
def aw {H:Heap} {b c:Nat} {e:Ent} (h:c≠b):(H.put b e).get c=H.get c:=by rw [F9,if_neg h]
def cH {H:Heap} {b c:Nat} (h:c≠b):(H.kill b).get c=H.get c:=by rw [LA,if_neg h]
structure Kp (H H':Heap):Prop where
 wf0:Wf H
 wf:Wf H'
 le:H.next<=H'.next
 same:∀ b,b<H.next->H'.get b=H.get b
def Kp.sub {H H':Heap} (h:Kp H H'):Sub H H':=⟨h.le,fun b e hb=>(h.same b (h.wf0 b e hb)).trans hb⟩
def Kp.refl {H:Heap} (h:Wf H):Kp H H:=⟨h,h,Jv _,fun _ _=>rfl⟩
def Kp.up {H H':Heap} (h:Kp H H') (k:Nat):Kp H (H'.up k):=⟨h.wf0,h.wf.bump k,WK h.le (W3 _ _),h.same⟩
def Kp.trans {H H' H'':Heap} (h:Kp H H') (h':Kp H' H''):Kp H H'':=⟨h.wf0,h'.wf,WK h.le h'.le,fun b hb=>(h'.same b (WP hb h.le)).trans (h.same b hb)⟩
def Kp.get {H H':Heap} (h:Kp H H') {b:Nat} {e:Ent} (hb:H.get b=some e):H'.get b=some e:=h.sub.get b e hb
def Kp.put {H H':Heap} (h:Kp H H') {b:Nat} {e:Ent} (h1:H.next<=b) (h2:b<H'.next):Kp H (H'.put b e):=⟨h.wf0,h.wf.put h2 e,h.le,fun c hc=>by rw [aw zO]; exact h.same c hc⟩
def Kp.kill {H H':Heap} (h:Kp H H') {b:Nat} (h1:H.next<=b):Kp H (H'.kill b):=⟨h.wf0,h.wf.kill b,h.le,fun c hc=>by rw [cH zO]; exact h.same c hc⟩
def Kp.old {H H':Heap} (h:Kp H H') {b:Nat} {e:Ent} (hb:H.get b=some e):b<H.next:=h.wf0 b e hb
def Kp.free {H H':Heap} (h:Kp H H') {b:Nat} (h1:b<H.next) (h2:H.get b=none):H'.get b=none:=(h.same b h1).trans h2
def JT (os:List EZ):List Nat:=os.filterMap (·.dst)
def gh:ACode->List Nat
 | .region os=>JT os
 | .draw ds _=>ds.filterMap (·.dst)
 | .drawF ds _ l _=>(ds++[l]).filterMap (·.dst)
 | .seq a b=>gh a++gh b
 | .cond _ a b=>gh a++gh b
 | .block _ a=>gh a
 | .loop a=>gh a
 | .scope a=>gh a
 | _=>[]
def wP (res:List (Nat × Option (Option Nat))) (Q:AV->Heap->Prop) (x:Ex) (T:Tm) (H:Heap):Prop:=(x=.nrm\/x=.ret)/\∃ v,cp T H res=some v/\Q v H
def NG {res:List (Nat × Option (Option Nat))} {Q:AV->Heap->Prop} {T:Tm} {H:Heap}:wP res Q .nrm T H=iv (cp T H res) (fun v=>Q v H) ():=by
 unfold wP iv iK;cases cp T H res <;> simp
def NF {res:List (Nat × Option (Option Nat))} {Q:AV->Heap->Prop} {T:Tm} {H:Heap}:wP res Q .ret T H=iv (cp T H res) (fun v=>Q v H) ():=by
 unfold wP iv iK;cases cp T H res <;> simp
def uV (H:Heap) (v:AV):Option (Option Nat)->Option AV
 | none=>some v
 | some k=>match v with
  | .ptr b o=>bc H k (.ptr b o)
  | _=>none
theorem KV (H:Heap) (v:AV):uV H v none=some v:=rfl
theorem NH (H:Heap) (b o:Nat) (k:Option Nat):uV H (.ptr b o) (some k)=bc H k (.ptr b o):=rfl
def kW (T:Tm) (H:Heap) (r:Nat × Option (Option Nat)):o0 T H r=uV H (ad T r.1) r.2:=by
 obtain ⟨n,k⟩:=r;cases k with
 | none=>rfl
 | some k=>simp only [o0,uV]; cases ad T n <;> rfl
def Sd (a b:Option AV):Option AV:=a.bind fun a=>b.bind fun b=>some (.tup [a,b])
def Sc (a b c:Option AV):Option AV:=a.bind fun a=>b.bind fun b=>c.bind fun c=>some (.tup [a,b,c])
theorem KC (a b:AV):Sd (some a) (some b)=some (.tup [a,b]):=rfl
theorem KB (a b c:AV):Sc (some a) (some b) (some c)=some (.tup [a,b,c]):=rfl
theorem Sn (T:Tm) (H:Heap):cp T H []=some (.tup []):=rfl
def Sl (T:Tm) (H:Heap) (r:Nat) (k:Option (Option Nat)):cp T H [(r,k)]=uV H (ad T r) k:=by
 show (List.mapM (o0 T H) [(r,k)]).bind _=_;rw [<- kW T H (r,k)];simp only [Yd,List.mapM_nil];cases o0 T H (r,k) <;> rfl
def Sk (T:Tm) (H:Heap) (r s:Nat) (k l:Option (Option Nat)):cp T H [(r,k),(s,l)]=Sd (uV H (ad T r) k) (uV H (ad T s) l):=by
 show (List.mapM (o0 T H) [(r,k),(s,l)]).bind _=_;rw [<- kW T H (r,k),<- kW T H (s,l)];simp only [Yd,List.mapM_nil,Sd];cases o0 T H (r,k) <;> cases o0 T H (s,l) <;> rfl
def NC (T:Tm) (H:Heap) (r s t:Nat) (k l m:Option (Option Nat)):cp T H [(r,k),(s,l),(t,m)]=Sc (uV H (ad T r) k) (uV H (ad T s) l) (uV H (ad T t) m):=by
 show (List.mapM (o0 T H) [(r,k),(s,l),(t,m)]).bind _=_;rw [<- kW T H (r,k),<- kW T H (s,l),<- kW T H (t,m)];simp only [Yd,List.mapM_nil,Sc];cases o0 T H (r,k) <;> cases o0 T H (s,l) <;> cases o0 T H (t,m) <;> rfl
section
variable {tab:Nat->Option au} {f n:Nat} {res:List (Nat × Option (Option Nat))} {body:ACode} {H:Heap} {Q:AV->Heap->Prop}
def TL (a:tab f=some ⟨0,n,res,body,none⟩) (h:∀ T:Tm,T.length=n->WC tab false body T H (wP res Q)):Ans tab (.fn f []) H Q :=
 pz a rfl rfl (WG _) fun T hl g=>h T hl
def cz {a:AV} (b:tab f=some ⟨1,n,res,body,none⟩) (hn:1<=n) (h:∀ T:Tm,T.length=n->ad T 0=a->WC tab false body T H (wP res Q)):Ans tab (.fn f [a]) H Q :=
 pz b rfl rfl hn fun T hl g=>h T hl (g 0 (by simp))
def bE {a b:AV} (c:tab f=some ⟨2,n,res,body,none⟩) (hn:2<=n) (h:∀ T:Tm,T.length=n->ad T 0=a->ad T 1=b->WC tab false body T H (wP res Q)):Ans tab (.fn f [a,b]) H Q :=
 pz c rfl rfl hn fun T hl g=>h T hl (g 0 (by simp)) (g 1 (by simp))
def mz {a b c:AV} (d:tab f=some ⟨3,n,res,body,none⟩) (hn:3<=n) (h:∀ T:Tm,T.length=n->ad T 0=a->ad T 1=b->ad T 2=c->WC tab false body T H (wP res Q)):Ans tab (.fn f [a,b,c]) H Q :=
 pz d rfl rfl hn fun T hl g=>h T hl (g 0 (by simp)) (g 1 (by simp)) (g 2 (by simp))
def Ox {a b c d:AV} (e:tab f=some ⟨4,n,res,body,none⟩) (hn:4<=n) (h:∀ T:Tm,T.length=n->ad T 0=a->ad T 1=b->ad T 2=c->ad T 3=d->WC tab false body T H (wP res Q)):Ans tab (.fn f [a,b,c,d]) H Q :=
 pz e rfl rfl hn fun T hl g=>h T hl (g 0 (by simp)) (g 1 (by simp)) (g 2 (by simp)) (g 3 (by simp))
def ST {a b:AV} (c:tab f=some ⟨2,n,res,body,none⟩) (hn:2<=n) (h:∀ T:Tm,T.length=n->ad T 0=a->ad T 1=b->WC tab false body T H (wP res Q)):Ans tab (.ent f [a,b]) H Q :=
 BE c rfl rfl hn fun T hl g=>h T hl (g 0 (by simp)) (g 1 (by simp))
def Uv {a b c:AV} (d:tab f=some ⟨3,n,res,body,none⟩) (hn:3<=n) (h:∀ T:Tm,T.length=n->ad T 0=a->ad T 1=b->ad T 2=c->WC tab false body T H (wP res Q)):Ans tab (.ent f [a,b,c]) H Q :=
 BE d rfl rfl hn fun T hl g=>h T hl (g 0 (by simp)) (g 1 (by simp)) (g 2 (by simp))
end
theorem Uu (a:AV) (l:List AV):Gf 0 (.tup (a :: l))=some a:=rfl
theorem Ut (a b:AV) (l:List AV):Gf 1 (.tup (a :: b :: l))=some b:=rfl
theorem Us (a b c:AV) (l:List AV):Gf 2 (.tup (a :: b :: c :: l))=some c:=rfl
theorem SQ (off b o:Nat):BI off (.ptr b o)=some (.ptr b (o+off)):=rfl
theorem LK (k:Option Nat) (off:Nat) (cs:List AV):Er k off (.agg cs)=bN cs off k:=rfl
theorem Qt (b o:Nat):Ap (.ptr b o)=some (.ptr b o):=rfl
theorem Sx (f:Nat) (a c:List AV):Ap (.fn (.func f) a c)=some (.fn (.func f) a c):=rfl
def IC (neg:Bool) (n:Nat):AV->AV->Option AV
 | .agg a,.agg b=>(match n with | 0=>Gj a b | n+1=>rD (n+1) a b).map fun r=>.bool (if neg then !r else r)
 | _,_=>none
def MM {tab:Nat->Option au} (ev:Src->AV) (H:Heap) (id:Nat) (Q:AV->Heap->Prop) (neg:Bool) (n:Nat) (x y:Src):nB tab ev H id (.eqAgg neg n x y) Q=iv (IC neg n (ev x) (ev y)) (fun v=>Q v H) ():=by
 rw [ck,eN tab ev H id Q (o:=.eqAgg neg n x y) (v:=IC neg n (ev x) (ev y)) (fun f a e=>by cases e) (by simp only [aT]; cases ev x <;> cases ev y <;> rfl) rfl]; rfl
def TK (len size:Nat) (k:Option Nat) (v i:AV):Option AV:=aT (fun s=>match s with | .t 0=>v | _=>i) (.indexAgg len size k (.t 0) (.t 1))
def E3 {tab:Nat->Option au} (ev:Src->AV) (H:Heap) (id:Nat) (Q:AV->Heap->Prop) (len size:Nat) (k:Option Nat) (x i:Src):nB tab ev H id (.indexAgg len size k x i) Q=iv (TK len size k (ev x) (ev i)) (fun v=>Q v H) ():=by
 rw [ck,eN tab ev H id Q (o:=.indexAgg len size k x i) (v:=TK len size k (ev x) (ev i)) (fun f a e=>by cases e) (by simp only [aT,TK]) rfl]; rfl
theorem Uo (k:IntKind) (a b:AV):TK 2 1 none (.agg [a,b]) (.int k 0)=some a:=rfl
theorem Un (k:IntKind) (a b:AV):TK 2 1 none (.agg [a,b]) (.int k 1)=some b:=rfl
theorem SS (a b c d:Bool):IC false 0 (.agg [.bool a,.bool b]) (.agg [.bool c,.bool d])=some (.bool (a == c && b == d)):=rfl
theorem R9 (k:IntKind) (n:Int):Sa .neg (.int k n)=some (.int k (k.wrap (0-n))):=rfl
section
variable (a b:Nat)
def Mi (x y:Int):b7 .add .int (.int .i64 x) (.int .i64 y)=some (.int .i64 (IntKind.i64.wrap (x+y))):=EP _ _ _
def Md (x y:Int):b7 .sub .int (.int .i64 x) (.int .i64 y)=some (.int .i64 (IntKind.i64.wrap (x-y))):=EN _ _ _
def Mf (x y:Int):b7 .mul .int (.int .i64 x) (.int .i64 y)=some (.int .i64 (IntKind.i64.wrap (x*y))):=J9 _ _ _
def Mh:b7 .add .int (.int .u64 (a:Int)) (.int .u64 (b:Int))=some (.int .u64 (((a+b) % 18446744073709551616:Nat):Int)):=by
 rw [EP,gQ]; congr 2
def xH:b7 .mul .int (.int .u64 (a:Int)) (.int .u64 (b:Int))=some (.int .u64 (((a*b) % 18446744073709551616:Nat):Int)):=by
 rw [J9,gQ]; congr 2
def xG (h:b<=18446744073709551616):b7 .sub .int (.int .u64 (a:Int)) (.int .u64 (b:Int))=some (.int .u64 (((a+18446744073709551616-b) % 18446744073709551616:Nat):Int)):=by
 rw [EN,gQ]; congr 2; omega
def IP:b7 .and .int (.int .u64 (a:Int)) (.int .u64 4294967295)=some (.int .u64 ((a % 4294967296:Nat):Int)):=by
 have e:(BitVec.ofInt 64 (a:Int) &&& BitVec.ofInt 64 4294967295).toNat=a % 4294967296:=by
  rw [BitVec.toNat_and];have h1:(BitVec.ofInt 64 (a:Int)).toNat=a % 2^64:=by simp
  have h2:(BitVec.ofInt 64 4294967295).toNat=2^32-1:=by decide
  rw [h1,h2,Nat.and_two_pow_sub_one_eq_mod];omega
 show some (AV.int .u64 (IntKind.u64.wrap ((BitVec.ofInt 64 (a:Int) &&& BitVec.ofInt 64 4294967295).toNat:Nat)))=_;rw [e,gP zO zO]
def sV {k:IntKind} (hb:b<64):b7 .shr .int (.int .u64 (a:Int)) (.int k (b:Int))=some (.int .u64 ((a / 2^b:Nat):Int)):=by
 show lP .shr .u64 (a:Int) (b:Int)=_;unfold lP;rw [if_neg zO];have h1:Nat.min (b:Int).toNat IntKind.u64.bits=b:=by
  have:IntKind.u64.bits=64:=rfl
  rw [this,Yo]; exact XJ zO
 simp only [h1];congr 2;rw [Int.fdiv_eq_ediv_of_nonneg _ (YA (Int.pow_pos zO))]
 simp
def Me:b7 .shr .int (.int .u64 (a:Int)) (.int .u64 32)=some (.int .u64 ((a / 4294967296:Nat):Int)):=sV a 32 zO
end
theorem HL (T:Tm) (t:Nat) (v:AV) (r:List (Nat × AV)):pa T ((t,v) :: r)=pa (T.set t v) r:=rfl
theorem KZ (T:Tm):pa T []=T:=rfl
def nt (v:AV) (w:Bool) (P Q:Prop) (_:Hd P) (_:Hd Q):Prop:=match v with
 | .bool b=>if b=w then P else Q
 | .tup []=>Q
 | _=>False
theorem F7 (b w:Bool) (P Q:Prop):nt (.bool b) w P Q () ()=iteH (b=w) P Q () ():=rfl
theorem Is (w:Bool) (P Q:Prop):nt (.tup []) w P Q () ()=Q:=rfl
section
variable {tab:Nat->Option au} {rd:Bool} {T:Tm} {H:Heap}
def Kj {Q:Tm->Heap->Prop} {id:Nat} (d:Option Nat) (o:AOp) (t:Nat) (w:Bool) (os:List EZ):EW tab id (⟨d,o,some (t,w)⟩ :: os) T H Q =
  nt (ad T t) w (nB tab (Src.ev T) H id o fun v H'=>EW tab (id+1) os (putT T d v) H' Q) (EW tab (id+1) os (putT T d (.tup [])) H Q) () ():=by
 rw [zm,ck];have a:b9 T (some (t,w))=match ad T t with | .bool b=>some (b == w) | .tup []=>some false | _=>none:=by
  unfold ad;rw [qf];cases h:T[t]? with
  | none=>simp only [b9,h]; rfl
  | some v =>
   simp only [b9,h,XG];cases v with
   | tup vs=>cases vs <;> rfl
   | _=>rfl
 conv=>lhs; unfold xR
 simp only [a,nt];cases ad T t with
 | bool b=>cases b <;> cases w <;> rfl
 | tup vs=>cases vs <;> rfl
 | _=>rfl
def Hg {Q:Ex->Tm->Heap->Prop} (ops:List EZ):WC tab rd (.region ops) T H Q=Sq H.next (H.up ops.length) (fun id H'=>EW tab id ops T H' (Q .nrm)) ():=Kk ops
theorem IK (P Q:Prop):J2 (.bool true) P Q () ()=P:=rfl
theorem Gz (P Q:Prop):J2 (.bool false) P Q () ()=Q:=rfl
end
def QL (id id1 i n c k:Nat) (body:ACode):ACode :=
 .block id (.loop (.seq (.region [⟨some c,.bin .lss .int (.t i) (.t n),none⟩]) (.seq (.cond (.t c) .skip (.exit id)) (.seq (.block id1 body)
  (.region [⟨some k,.bin .add .int (.t i) (.c (.int .i64 1)),none⟩,⟨some i,.mv (.t k),none⟩])))))
def O5 (id:Nat) (c:ACode):ACode:=.block id (.loop c)
def jf:ACode->Bool
 | .rangeM ..=>false
 | .scopeL ..=>false
 | .seq a b=>jf a && jf b
 | .cond _ a b=>jf a && jf b
 | .block _ a=>jf a
 | .loop a=>jf a
 | .scope a=>jf a
 | _=>true
structure Same (D:List Nat) (T T':Tm):Prop where
 len:T'.length=T.length
 at_:∀ s,s ∉ D->ad T' s=ad T s
def Same.refl (D:List Nat) (T:Tm):Same D T T:=⟨rfl,fun _ _=>rfl⟩
def Same.trans {D a:List Nat} {T T' b:Tm} (h:Same D T T') (h':Same a T' b):Same (D++a) T b :=
 ⟨h'.len.trans h.len,fun s hs=>(h'.at_ s fun h1=>hs (Yb _ h1)).trans (h.at_ s fun h1=>hs (XK _ h1))⟩
def Same.wide {D a:List Nat} {T T':Tm} (h:Same D T T') (hd:∀ s,s∈D->s∈a):Same a T T':=⟨h.len,fun s hs=>h.at_ s fun h1=>hs (hd s h1)⟩
def Vb (T:Tm) (i j:Nat) (v:AV) (h:i≠j):ad (T.set i v) j=ad T j:=by
 unfold ad;rw [qf,qf,YP];rw [if_neg h]
def LB (T:Tm) (i j:Nat) (v:AV):ad (T.set i v) j=if i=j then (if i<T.length then v else .undef) else ad T j:=by
 by_cases h:i<T.length
 ·rw [vJ T i j v h]; simp [h]
 ·unfold ad;rw [List.set_eq_of_length_le zO];by_cases a:i=j
  ·subst a; rw [qf,Xa zO]; simp [h]
  ·simp [a]
theorem O0:((0:Nat):Int)=0:=rfl
def Same.put (T:Tm) (d:Option Nat) (v:AV):Same d.toList T (putT T d v):=by
 cases d with
 | none=>exact Same.refl _ _
 | some d=>exact ⟨by simp [putT],fun s hs=>Vb T d s v fun e=>hs (by simp [e])⟩
def Cm {cal:oR}:∀ (os:List EZ) (id:Nat) (T:Tm) (H:Heap) (T':Tm) (H':Heap),yU cal id os T H=some (T',H')->Same (JT os) T T'
 | [],id,T,H,T',H',h=>by cases h; exact Same.refl _ _
 | o :: os,id,T,H,T',H',h=>by
  have key:∀ v a,yU cal (id+1) os (putT T o.dst v) a=some (T',H')->Same (JT (o :: os)) T T':=fun v a h1=>by
   refine ((Same.put T o.dst v).trans (Cm os _ _ _ _ _ h1)).wide fun s hs=>?_;unfold JT at hs ⊢;cases hd:o.dst with
   | none=>rw [List.filterMap_cons_none hd]; simpa [hd] using hs
   | some d=>rw [List.filterMap_cons_some hd]; simpa [hd] using hs
  unfold yU at h;split at h
  ·split at h
   ·exact key _ _ h
   ·cases h
  ·exact key _ _ h
  ·cases h
def x9:∀ (ds:List ke) (vs:List AV) (T:Tm),Same (ds.filterMap (·.dst)) T (gT T ds vs)
 | [],vs,T=>by cases vs <;> exact Same.refl _ _
 | d :: ds,[],T=>⟨rfl,fun _ _=>rfl⟩
 | d :: ds,v :: vs,T=>by
  refine ((Same.put T d.dst v).trans (x9 ds vs _)).wide fun s hs=>?_;cases hd:d.dst with
  | none=>rw [List.filterMap_cons_none hd]; simpa [hd] using hs
  | some a=>rw [List.filterMap_cons_some hd]; simpa [hd] using hs
def Cx {D:List Nat} {body:Tm->Heap->Option (Ex × Tm × Heap)} (hb:∀ T H x T' H',body T H=some (x,T',H')->Same D T T') :
  ∀ (n:Nat) (T:Tm) (H:Heap) (x:Ex) (T':Tm) (H':Heap),AJ body n T H=some (x,T',H')->Same D T T'
 | 0,_,_,_,_,_,h=>by cases h
 | n+1,T,H,x,T',H',h=>by
  unfold AJ at h;split at h
  ·rename_i T1 a h1;exact ((hb _ _ _ _ _ h1).trans (Cx hb n _ _ _ _ _ h)).wide fun s hs=>by simpa using hs
  ·exact hb _ _ _ _ _ h
def dU {cal:oR} {m:Nat} {rd:Bool}:∀ (c:ACode) (T:Tm) (H:Heap) (x:Ex) (T':Tm) (H':Heap),jf c=true->aM cal m rd c T H=some (x,T',H')->Same (gh c) T T'
 | .skip,T,H,x,T',H',_,h=>by cases h; exact Same.refl _ _
 | .exit _,T,H,x,T',H',_,h=>by cases h; exact Same.refl _ _
 | .goto _,T,H,x,T',H',_,h=>by cases h; exact Same.refl _ _
 | .ret,T,H,x,T',H',_,h=>by cases h; exact Same.refl _ _
 | .region os,T,H,x,T',H',_,h=>by
  simp only [aM] at h;split at h
  ·rename_i h1; cases h; exact Cm _ _ _ _ _ _ h1
  ·cases h
 | .draw ds late,T,H,x,T',H',_,h=>by
  simp only [aM] at h;split at h
  ·rename_i h1;cases h;unfold Gn at h1;split at h1
   ·cases h1
   ·split at h1
    ·cases h1; exact x9 _ _ _
    ·cases h1
  ·cases h
 | .drawF ..,T,H,x,T',H',_,h=>by cases h
 | .seq a b,T,H,x,T',H',hp,h=>by
  simp only [jf,W6] at hp;simp only [aM] at h;split at h
  ·rename_i T1 d h1;exact (dU a _ _ _ _ _ hp.1 h1).trans (dU b _ _ _ _ _ hp.2 h)
  ·exact (dU a _ _ _ _ _ hp.1 h).wide fun s hs=>XK _ hs
 | .cond c a b,T,H,x,T',H',hp,h=>by
  simp only [jf,W6] at hp;simp only [aM] at h;split at h
  ·exact (dU a _ _ _ _ _ hp.1 h).wide fun s hs=>XK _ hs
  ·exact (dU b _ _ _ _ _ hp.2 h).wide fun s hs=>Yb _ hs
  ·cases h
 | .block id a,T,H,x,T',H',hp,h=>by
  simp only [aM] at h;split at h
  ·rename_i h1;split at h
   ·cases h; exact dU a _ _ _ _ _ hp h1
   ·cases h; exact dU a _ _ _ _ _ hp h1
  ·exact dU a _ _ _ _ _ hp h
 | .loop a,T,H,x,T',H',hp,h=>by
  simp only [aM] at h;exact Cx (fun T H x T' H' h1=>dU a _ _ _ _ _ hp h1) _ _ _ _ _ _ h
 | .scope a,T,H,x,T',H',hp,h=>by
  simp only [aM] at h;split at h
  ·cases h
  ·exact dU a _ _ _ _ _ hp h
 | .rangeFunc f ps e body,T,H,x,T',H',_,h=>by
  have:T'=T:=by
   simp only [aM] at h;split at h
   ·cases h
   ·split at h
    ·split at h
     ·split at h
      ·cases h; rfl
      ·split at h <;> first | (cases h; rfl) | cases h
      ·cases h
     ·cases h
    ·cases h
  subst this; exact Same.refl _ _
 | .rangeM ..,T,H,x,T',H',hp,h=>by cases hp
 | .scopeL ..,T,H,x,T',H',hp,h=>by cases hp
def WB (tab:Nat->Option au) (rd:Bool) (c:ACode) (T:Tm) (H:Heap) (Q:Ex->Tm->Heap->Prop):Prop:=∃ x T' H',Pp tab rd c T H x T' H'/\Q x T' H'
section
variable {tab:Nat->Option au} {rd:Bool}
def WC.wb {c:ACode} {T:Tm} {H:Heap} {Q:Ex->Tm->Heap->Prop} (h:WC tab rd c T H Q):WB tab rd c T H Q:=eJ c T H Q h.run
def WB.same {c:ACode} {T:Tm} {H:Heap} {Q:Ex->Tm->Heap->Prop} (h:WB tab rd c T H Q) (hp:jf c=true):WB tab rd c T H fun x T' H'=>Same (gh c) T T'/\Q x T' H':=by
 obtain ⟨x,T',H',⟨N,g⟩,hq⟩:=h;exact ⟨x,T',H',⟨N,g⟩,dU c _ _ _ _ _ hp (g N N (Jv _) (Jv _)),hq⟩
def WB.mono {c:ACode} {T:Tm} {H:Heap} {Q a:Ex->Tm->Heap->Prop} (h:WB tab rd c T H Q) (hq:∀ x T' H',Q x T' H'->a x T' H'):WB tab rd c T H a:=by
 obtain ⟨x,T',H',hb,h⟩:=h;exact ⟨x,T',H',hb,hq _ _ _ h⟩
def zr {a b:ACode} {T:Tm} {H:Heap} {Q:Ex->Tm->Heap->Prop} (h:WB tab rd a T H fun x T' H'=>match x with | .nrm=>WB tab rd b T' H' Q | x=>Q x T' H'):WB tab rd (.seq a b) T H Q:=by
 obtain ⟨x,T1,e,⟨c,d⟩,h1⟩:=h;by_cases hx:x=.nrm
 ·subst hx;obtain ⟨y,T2,H2,⟨f,g⟩,h2⟩:=h1;refine ⟨y,T2,H2,⟨c+f,fun m n hm hn=>?_⟩,h2⟩;simp only [aM,d m n zO zO];exact g m n zO zO
 ·refine ⟨x,T1,e,⟨c,fun m n hm hn=>?_⟩,?_⟩
  ·simp only [aM,d m n hm hn]
   all_goals (cases x <;> first | rfl | exact absurd rfl hx)
  ·cases x <;> first | exact h1 | exact absurd rfl hx
def P0 {c:Src} {a b:ACode} {T:Tm} {H:Heap} {Q:Ex->Tm->Heap->Prop} {v:Bool} (hc:c.ev T=.bool v) (h:if v=true then WB tab rd a T H Q else WB tab rd b T H Q):WB tab rd (.cond c a b) T H Q:=by
 cases v with
 | true =>
  obtain ⟨x,T1,d,⟨e,f⟩,h1⟩:=h;exact ⟨x,T1,d,⟨e,fun m n hm hn=>by simp only [aM,hc]; exact f m n hm hn⟩,h1⟩
 | false =>
  obtain ⟨x,T1,d,⟨e,f⟩,h1⟩:=h;exact ⟨x,T1,d,⟨e,fun m n hm hn=>by simp only [aM,hc]; exact f m n hm hn⟩,h1⟩
def M0 {id:Nat} {a:ACode} {T:Tm} {H:Heap} {Q:Ex->Tm->Heap->Prop} (h:WB tab rd a T H (uF id Q)):WB tab rd (.block id a) T H Q:=by
 obtain ⟨x,T1,b,⟨c,d⟩,h1⟩:=h;cases x with
 | exit e =>
  simp only [uF] at h1;by_cases hi:e=id
  ·rw [if_pos hi] at h1;exact ⟨.nrm,T1,b,⟨c,fun m n hm hn=>by simp only [aM,d m n hm hn,if_pos hi]⟩,h1⟩
  ·rw [if_neg hi] at h1;exact ⟨.exit e,T1,b,⟨c,fun m n hm hn=>by simp only [aM,d m n hm hn,if_neg hi]⟩,h1⟩
 | nrm=>exact ⟨_,T1,b,⟨c,fun m n hm hn=>by simp only [aM,d m n hm hn]⟩,h1⟩
 | goto l=>exact ⟨_,T1,b,⟨c,fun m n hm hn=>by simp only [aM,d m n hm hn]⟩,h1⟩
 | ret=>exact ⟨_,T1,b,⟨c,fun m n hm hn=>by simp only [aM,d m n hm hn]⟩,h1⟩
def PY {T:Tm} {H:Heap} {Q:Ex->Tm->Heap->Prop} (h:Q .nrm T H):WB tab rd .skip T H Q:=⟨.nrm,T,H,⟨0,fun _ _ _ _=>rfl⟩,h⟩
def PZ {i:Nat} {T:Tm} {H:Heap} {Q:Ex->Tm->Heap->Prop} (h:Q (.exit i) T H):WB tab rd (.exit i) T H Q:=⟨.exit i,T,H,⟨0,fun _ _ _ _=>rfl⟩,h⟩
def Dk {body:ACode} {Q:Ex->Tm->Heap->Prop} (Inv:Nat->Tm->Heap->Prop)
  (hr:∀ k T H,Inv k T H->WB tab rd body T H (Ih Inv k Q)):∀ (k:Nat) (T:Tm) (H:Heap),Inv k T H->WB tab rd (.loop body) T H Q:=by
 have key:∀ (k:Nat) (T:Tm) (H:Heap),Inv k T H->∃ x T' H',Q x T' H'/\∃ N,∀ m n j,N<=m->N<=n->N<=j->AJ (aM (mp tab fe m n) m rd body) j T H=some (x,T',H'):=by
  intro k
  induction k using Nat.strongRecOn with
  | _ k l =>
   intro T H a;obtain ⟨x,T1,b,⟨c,d⟩,h1⟩:=hr k T H a;by_cases hx:x=.nrm
   ·subst hx;obtain ⟨o,i,h⟩:=h1;obtain ⟨y,T2,H2,hq,e,f⟩:=l o i T1 b h;refine ⟨y,T2,H2,hq,c+e+1,fun m n j hm hn hj=>?_⟩;obtain ⟨j',rfl⟩:∃ j',j=j'+1:=⟨j-1,zO⟩
    unfold AJ;rw [d m n zO zO];exact f m n j' zO zO zO
   ·refine ⟨x,T1,b,by cases x <;> first | exact h1 | exact absurd rfl hx,c+1,fun m n j hm hn hj=>?_⟩;obtain ⟨j',rfl⟩:∃ j',j=j'+1:=⟨j-1,zO⟩
    unfold AJ;rw [d m n zO zO];cases x <;> first | rfl | exact absurd rfl hx
 intro k T H a;obtain ⟨x,T',H',hq,N,g⟩:=key k T H a;exact ⟨x,T',H',⟨N,fun m n hm hn=>g m n m hm hn hm⟩,hq⟩
def WB.wcLoop {id:Nat} {body:ACode} {T:Tm} {H:Heap} {Q:Ex->Tm->Heap->Prop} (h:WB tab rd (.loop body) T H (uF id Q)):WC tab rd (.block id (.loop body)) T H Q:=by
 rw [E5];exact ⟨h⟩
def LJ (id id1:Nat) (P:Tm->Heap->Prop) (Q:Ex->Tm->Heap->Prop) (x:Ex) (T:Tm) (H:Heap):Prop:=match x with
 | .nrm=>P T H
 | .exit e=>if e=id1 then P T H else if e=id then Q .nrm T H else Q (.exit e) T H
 | x=>Q x T H
section
variable {id id1:Nat} {P:Tm->Heap->Prop} {Q:Ex->Tm->Heap->Prop} {T:Tm} {H:Heap}
theorem OA:LJ id id1 P Q .nrm T H=P T H:=rfl
theorem Oz:LJ id id1 P Q .ret T H=Q .ret T H:=rfl
theorem LH (l:Nat):LJ id id1 P Q (.goto l) T H=Q (.goto l) T H:=rfl
theorem LI (e:Nat):LJ id id1 P Q (.exit e) T H=iteH (e=id1) (P T H) (iteH (e=id) (Q .nrm T H) (Q (.exit e) T H) () ()) () ():=rfl
end
def Ro (L i n c k:Nat) (D a:List Nat):Bool :=
 decide (i<L) && decide (n<L) && decide (c<L) && decide (k<L) && i != n && i != c && i != k && n != c && n != k && c != k && !D.contains i && !D.contains n && a.all fun s=>s != i && s != c && s != k
def aq {id id1 i n c k:Nat} {body:ACode} {T:Tm} {H:Heap} {Q:Ex->Tm->Heap->Prop} {L a N:Nat} (H0:Heap) (d:List Nat) (P:Nat->List AV->Heap->Prop)
  (hl:T.length=L) (ha:ad T i=.int .i64 (a:Int)) (hn:ad T n=.int .i64 (N:Int)) (O:a<=N) (hN:N<9223372036854775807) (w:Ro L i n c k (gh body) d=true) (hp:jf body=true)
  (E:∀ j vs H m,P j vs H->P j vs (H.up m))
  (U:Kp H0 H) (h0:P a (d.map (ad T)) H)
  (hb:∀ j T1 b,a<=j->j<N->T1.length=L->ad T1 i=.int .i64 (j:Int)->Same (i :: c :: k :: gh body) T T1->Kp H0 b->P j (d.map (ad T1)) b ->
   WC tab rd body T1 b (LJ id id1 (fun T2 H2=>Kp H0 H2/\P (j+1) (d.map (ad T2)) H2) Q))
  (he:∀ T1 b,T1.length=L->Same (i :: c :: k :: gh body) T T1->Kp H0 b->P N (d.map (ad T1)) b->Q .nrm T1 b) :
  WC tab rd (QL id id1 i n c k body) T H Q:=by
 have ah:=w;simp only [Ro,W6,decide_eq_true_eq,bne_iff_ne,ne_eq,XA,WT] at w;obtain ⟨⟨⟨⟨⟨⟨⟨⟨⟨⟨⟨⟨o1,o2⟩,o3⟩,o4⟩,o5⟩,o6⟩,o7⟩,o8⟩,o9⟩,aj⟩,F⟩,G⟩,ae⟩:=w;have I:i ∉ gh body:=fun h=>by rw [Yv.2 h] at F; cases F
 have J:n ∉ gh body:=fun h=>by rw [Yv.2 h] at G; cases G
 have aa:n ∉ i :: c :: k :: gh body:=by
  simp only [WV,not_or]; exact ⟨fun h=>o5 h.symm,o8,o9,J⟩
 have C:∀ {T1 T2:Tm},(∀ s,s≠i->s≠c->s≠k->ad T2 s=ad T1 s)->d.map (ad T2)=d.map (ad T1):=fun h=>by
  refine X0 fun s hs=>?_;obtain ⟨⟨q1,q2⟩,q3⟩:=ae s hs;exact h s q1 q2 q3
 unfold QL;refine WB.wcLoop ?_;refine Dk (fun r T1 b=>∃ j,r=N-j/\a<=j/\j<=N/\T1.length=L/\ad T1 i=.int .i64 (j:Int)/\Same (i :: c :: k :: gh body) T T1/\Kp H0 b/\P j (d.map (ad T1)) b) ?_ (N-a) T H ⟨a,rfl,Jv _,O,hl,ha,Same.refl _ _,U,h0⟩;rintro r T1 b ⟨j,rfl,R,ag,X,A,D,V,K⟩;have Z:ad T1 n=.int .i64 (N:Int):=(D.at_ n aa).trans hn;refine zr (WC.wb ?_);rw [Hg];simp only [DH,VG,De,Hi,SR,A,Z,Ka,wS,jk];have B:Kp H0 (b.up 1):=V.up 1;have t:P j (d.map (ad (T1.set c (.bool (decide ((j:Int)<(N:Int))))))) (b.up 1):=by
  rw [C (T1:=T1) fun s q1 q2 q3=>Vb _ _ _ _ (Ne.symm q2)];exact E _ _ _ _ K
 have o:Same (i :: c :: k :: gh body) T (T1.set c (.bool (decide ((j:Int)<(N:Int))))) :=
  (D.trans (Same.put T1 (some c) (.bool (decide ((j:Int)<(N:Int)))))).wide fun s hs=>by
   rcases WQ.1 hs with hs | hs
   ·exact hs
   ·simp only [Option.toList_some,WL] at hs; subst hs; simp
 have g:(T1.set c (.bool (decide ((j:Int)<(N:Int))))).length=L:=by simp [X]
 have u:ad (T1.set c (.bool (decide ((j:Int)<(N:Int))))) i=.int .i64 (j:Int):=by rw [Vb _ _ _ _ (Ne.symm o6)]; exact A
 have z:ad (T1.set c (.bool (decide ((j:Int)<(N:Int))))) c=.bool (decide ((j:Int)<(N:Int))):=by
  rw [vJ _ _ _ _ zO,if_pos rfl]
 generalize af:T1.set c (.bool (decide ((j:Int)<(N:Int))))=T2 at t o g u z ⊢
 refine zr (P0 (v:=decide ((j:Int)<(N:Int))) z ?_);by_cases hj:j<N
 ·have q:decide ((j:Int)<(N:Int))=true:=by simp; omega
  rw [if_pos q];refine PY ?_;refine zr (M0 ?_);refine (((hb j T2 (b.up 1) R hj g u o B t).wb).same hp).mono ?_;rintro x f p ⟨y,hq⟩;have fin:Kp H0 p/\P (j+1) (d.map (ad f)) p->WB tab rd (.region [⟨some k,.bin .add .int (.t i) (.c (.int .i64 1)),none⟩,⟨some i,.mv (.t k),none⟩]) f p (Ih (fun r T1 b=>∃ j,r=N-j/\a<=j/\j<=N/\T1.length=L/\ad T1 i=.int .i64 (j:Int)/\Same (i :: c :: k :: gh body) T T1/\Kp H0 b/\P j (d.map (ad T1)) b) (N-j) (uF id Q)):=by
   rintro ⟨W,M⟩;have S:ad f i=.int .i64 (j:Int):=(y.at_ i I).trans u;have Y:f.length=L:=y.len.trans g;have ab:IntKind.i64.wrap ((j:Int)+1)=((j+1:Nat):Int):=by rw [wrap_i64 zO zO]; simp
   refine WC.wb ?_;rw [Hg];simp only [DH,VG,De,Hi,Rg,I8,SR,TQ,S,EP,wS,jk,ab];rw [vJ _ _ _ _ zO,if_pos rfl,FU];refine ⟨N-(j+1),zO,j+1,rfl,zO,zO,by simp [Y],?_,?_,W.up _,?_⟩
   ·rw [vJ _ _ _ _ zS,if_pos rfl]
   ·refine ((o.trans y).trans ((Same.put f (some k) _).trans (Same.put _ (some i) _))).wide fun s hs=>?_;rcases WQ.1 hs with hs | hs
    ·rcases WQ.1 hs with hs | hs
     ·exact hs
     ·exact SO _ (SO _ (SO _ hs))
    ·rcases WQ.1 hs with hs | hs
     ·simp only [Option.toList_some,WL] at hs; subst hs; simp
     ·simp only [Option.toList_some,WL] at hs; subst hs; simp
   ·rw [C (T1:=f) fun s q1 q2 q3=>by rw [Vb _ _ _ _ (Ne.symm q1),Vb _ _ _ _ (Ne.symm q3)]];exact E _ _ _ _ M
  cases x with
  | nrm=>exact fin hq
  | exit e =>
   simp only [LJ] at hq;simp only [uF];by_cases h1:e=id1
   ·rw [if_pos h1] at hq ⊢; exact fin hq
   ·rw [if_neg h1] at hq ⊢;simp only [Ih,uF]; exact hq
  | goto l=>exact hq
  | ret=>exact hq
 ·have q:decide ((j:Int)<(N:Int))=false:=by simp; omega
  have:j=N:=zO
  subst this;rw [if_neg (by rw [q]; simp)];refine PZ ?_;show uF id Q (.exit id) T2 (b.up 1);simp only [uF,if_pos];exact he T2 (b.up 1) g o B t
def RV (id:Nat) (P:Tm->Heap->Prop) (Q:Ex->Tm->Heap->Prop) (x:Ex) (T:Tm) (H:Heap):Prop:=match x with
 | .nrm=>P T H
 | .exit e=>if e=id then Q .nrm T H else Q (.exit e) T H
 | x=>Q x T H
section
variable {id:Nat} {P:Tm->Heap->Prop} {Q:Ex->Tm->Heap->Prop} {T:Tm} {H:Heap}
theorem PU:RV id P Q .nrm T H=P T H:=rfl
theorem PT:RV id P Q .ret T H=Q .ret T H:=rfl
theorem MW (l:Nat):RV id P Q (.goto l) T H=Q (.goto l) T H:=rfl
theorem MX (e:Nat):RV id P Q (.exit e) T H=iteH (e=id) (Q .nrm T H) (Q (.exit e) T H) () ():=rfl
end
def bk {id:Nat} {c:ACode} {T:Tm} {H:Heap} {Q:Ex->Tm->Heap->Prop} {L:Nat} (H0:Heap) (d:List Nat) (P:Nat->List AV->Heap->Prop) (i:Nat)
  (hl:T.length=L) (hp:jf c=true) (o:Kp H0 H) (h0:P i (d.map (ad T)) H)
  (hb:∀ k T1 a,T1.length=L->Same (gh c) T T1->Kp H0 a->P k (d.map (ad T1)) a->WC tab rd c T1 a (RV id (fun T2 H2=>Kp H0 H2/\∃ b,b<k/\P b (d.map (ad T2)) H2) Q)):WC tab rd (O5 id c) T H Q:=by
 unfold O5;refine WB.wcLoop ?_;refine Dk (fun k T1 a=>T1.length=L/\Same (gh c) T T1/\Kp H0 a/\P k (d.map (ad T1)) a) ?_ i T H ⟨hl,Same.refl _ _,o,h0⟩;rintro k T1 a ⟨f,g,p,j⟩;refine ((hb k T1 a f g p j).wb.same hp).mono ?_;rintro x T2 H2 ⟨h,hq⟩;cases x with
 | nrm =>
  obtain ⟨q,b,n,m⟩:=hq;exact ⟨b,n,h.len.trans f,(g.trans h).wide fun s hs=>by simpa using hs,q,m⟩
 | exit e=>exact hq
 | goto l=>exact hq
 | ret=>exact hq
end
def SF (e:Option Ent) (k:Option Nat) (o:Nat):Option AV:=match e with
 | some (.cells cs _ _)=>bN cs o k
 | _=>none
def Eg (H:Heap) (k:Option Nat) (b o:Nat):bc H k (.ptr b o)=SF (H.get b) k o:=by
 simp only [bc,SF];cases H.get b with
 | none=>rfl
 | some e=>cases e <;> rfl
theorem Cv (cs:List AV) (ty:Nat) (rw:Bool) (k:Option Nat) (o:Nat):SF (some (.cells cs ty rw)) k o=bN cs o k:=rfl
def y5 (e:Option Ent) (n o:Nat) (v:AV):Option Ent:=match e with
 | some (.cells cs ty true)=>if v.cells.length=n/\o+n<=cs.length/\v.cells.all AV.one=true then some (.cells (cs.take o++v.cells++cs.drop (o+n)) ty true) else none
 | _=>none
def Sg (H:Heap) (n b o:Nat) (v:AV):qS H n (.ptr b o) v=(y5 (H.get b) n o v).map fun e=>H.put b e:=by
 simp only [qS,y5];split
 ·rename_i cs ty h;simp only [h];split <;> rfl
 ·rename_i h;split
  ·rename_i cs ty hg;exact absurd hg (h cs ty)
  ·rfl
def fits (v:AV) (n:Nat) (cs:List AV):Prop:=v.cells=cs/\cs.length=n/\cs.all AV.one=true
def fY {cs vs:List AV} {ty n o:Nat} {v:AV} (h:fits v n vs) (a:o+n<=cs.length):y5 (some (.cells cs ty true)) n o v=some (.cells (cs.take o++vs++cs.drop (o+n)) ty true):=by
 obtain ⟨rfl,h2,h3⟩:=h;simp only [y5];rw [if_pos ⟨h2,a,h3⟩]
theorem Lm {α β:Type} (f:α->β) (a:α):(some a).map f=some (f a):=rfl
theorem UM (a:AV) (l:List AV):bN (a :: l) 0 none=some a:=rfl
theorem UL (a b:AV) (l:List AV):bN (a :: b :: l) 1 none=some b:=rfl
theorem UK (a b c:AV) (l:List AV):bN (a :: b :: c :: l) 2 none=some c:=rfl
theorem Ui (a b:AV):bN [a,b] 0 (some 2)=some (.agg [a,b]):=rfl
theorem Uh (a b c:AV):bN [a,b,c] 0 (some 3)=some (.agg [a,b,c]):=rfl
def One (v:AV):Prop:=v.cells=[v]/\v.one=true
def One.fits {v:AV} (h:One v):fits v 1 [v]:=⟨h.1,rfl,by simp [h.2]⟩
def aF (b:Bool):One (.bool b):=⟨rfl,rfl⟩
def bi (k:IntKind) (n:Int):One (.int k n):=⟨rfl,rfl⟩
def cK (f:Fn) (a b:List AV):One (.fn f a b):=⟨rfl,rfl⟩
def bS (b o:Nat):One (.ptr b o):=⟨rfl,rfl⟩
def bB:One .nilSl:=⟨rfl,rfl⟩
def bJ (b o n c z:Nat) (x:Bool):One (.own b o n c z x):=⟨rfl,rfl⟩
def cQ (cs:List AV) (n:Nat):One (.sl cs n):=⟨rfl,rfl⟩
def bX (b:Nat):One (.map b):=⟨rfl,rfl⟩
def Rd.one {H:Heap} {sz:Nat} {v:AV} {cells:List AV} (h:Rd H sz v cells):One v:=by
 obtain ⟨-,h1,n,hn,-⟩:=h;cases v <;> first | exact ⟨rfl,rfl⟩ | exact absurd rfl (h1 _) | (simp [gJ] at hn; done)
def BA {v:AV} (h:One v):io v=some [v]:=by
 unfold io; rw [h.1]; simp [h.2]
def yg {a b:AV} (ha:One a) (hb:One b):fits (.agg [a,b]) 2 [a,b]:=⟨rfl,rfl,by simp [ha.2,hb.2]⟩
def TX {a b:AV} (ha:One a) (hb:One b):io (.agg [a,b])=some [a,b]:=by
 simp [io,AV.cells,ha.2,hb.2]
def EK {x y a b:AV} (ha:One a) (hb:One b):im [x,y] [((0,1),a),((1,1),b)]=some (.agg [a,b]):=by
 simp [im,cP,ha.1,ha.2,hb.1,hb.2]
def Rp {x a:AV} (ha:One a):cP [x] [((0,1),a)]=some [a]:=by simp [cP,ha.1,ha.2]
def TP {x y a b:AV} (ha:One a) (hb:One b):cP [x,y] [((0,1),a),((1,1),b)]=some [a,b]:=by simp [cP,ha.1,ha.2,hb.1,hb.2]
def Ts {cs:List AV} {ty o:Nat} {v:AV} (h:One v):y5 (some (.cells cs ty true)) 1 o v=if o<cs.length then some (.cells (cs.set o v) ty true) else none:=by
 simp only [y5,h.1];by_cases a:o<cs.length
 ·rw [if_pos ⟨rfl,zO,by simp [h.2]⟩,if_pos a];congr 2;rw [YL,if_pos a]
  simp
 ·rw [if_neg (fun h=>a (by have:=h.2.1; omega)),if_neg a]
def Uj {x y a b:AV} {ty:Nat} (ha:One a) (hb:One b):y5 (some (.cells [x,y] ty true)) 2 0 (.agg [a,b])=some (.cells [a,b] ty true):=by
 simp [y5,AV.cells,ha.2,hb.2]
def TO {x y z a b c:AV} (ha:One a) (hb:One b) (hc:One c):cP [x,y,z] [((0,1),a),((1,1),b),((2,1),c)]=some [a,b,c]:=by simp [cP,ha.1,ha.2,hb.1,hb.2,hc.1,hc.2]
def SN {p q r t a b c d:AV} (ha:One a) (hb:One b) (hc:One c) (hd:One d):cP [p,q,r,t] [((0,2),.agg [a,b]),((2,2),.agg [c,d])]=some [a,b,c,d]:=by
 simp [cP,AV.cells,ha.2,hb.2,hc.2,hd.2]
def AR {p q a b:AV} (ha:One a) (hb:One b):cP [p,q] [((0,2),.agg [a,b])]=some [a,b]:=by
 simp [cP,AV.cells,ha.2,hb.2]
theorem SZ (z:List AV):im z []=some (.agg z):=rfl
def SI {H H':Heap} {b:Nat} {e:Ent} (h1:H.next<=b) (h2:b<H'.next):Kp H (H'.put b e) ↔ Kp H H':=by
 refine ⟨fun h=>⟨h.wf0,fun c e' hc=>?_,h.le,fun c hc=>?_⟩,fun h=>h.put h1 h2⟩
 ·by_cases hb:c=b
  ·rw [hb]; exact h2
  ·exact h.wf c e' (by rw [aw hb]; exact hc)
 ·have:=h.same c hc
  rwa [aw zO] at this
def aH {H:Heap} {b:Nat} {e:Ent} (h:H.get b=none):Sub H (H.put b e):=(Sub.refl H).put h e
def QF {H H':Heap} {b:Nat} (h1:H.next<=b) (h:Kp H H'):Kp H (H'.kill b) ↔ True:=⟨fun _=>trivial,fun _=>h.kill h1⟩
def TG {H H':Heap} {k:Nat} (h:Kp H H'):Kp H (H'.up k) ↔ True:=⟨fun _=>trivial,fun _=>h.up k⟩
def SH {H:Heap} {k:Nat} (h:Wf H):Kp H (H.up k) ↔ True:=⟨fun _=>trivial,fun _=>(Kp.refl h).up k⟩
def QE {H:Heap} (h:Wf H):Kp H H ↔ True:=⟨fun _=>trivial,fun _=>Kp.refl h⟩
def RW {H:Heap} {b:Nat} {e:Ent} (h2:b<H.next):Wf (H.put b e) ↔ Wf H:=by
 refine ⟨fun h c e' hc=>?_,fun h=>h.put h2 e⟩;by_cases hb:c=b
 ·rw [hb]; exact h2
 ·exact h c e' (by rw [aw hb]; exact hc)
def Tk {H:Heap} {k:Nat} (h:Wf H):Wf (H.up k) ↔ True:=⟨fun _=>trivial,fun _=>h.bump k⟩
def PV {H:Heap} {b:Nat} (h:Wf H):Wf (H.kill b) ↔ True:=⟨fun _=>trivial,fun _=>h.kill b⟩
structure Ldd (H:Heap) (k:Option Nat) (p w:AV):Prop where
 ld:bc H k p=some w
 put:∀ H' b e,H.next<=b->bc (H'.put b e) k p=bc H' k p
 kill:∀ H' b,H.next<=b->bc (H'.kill b) k p=bc H' k p
theorem Og (H:Heap) (m:Nat) (k:Option Nat) (p:AV):bc (H.up m) k p=bc H k p:=rfl
def bV {H H':Heap} (h:Sub H H') {k:Option Nat} {p w:AV} (hl:bc H k p=some w):bc H' k p=some w:=by
 unfold bc at hl ⊢;split at hl
 ·split at hl
  ·rename_i hb;rw [h.get _ _ hb]; exact hl
  ·cases hl
 ·exact hl
 ·cases hl
def Ldd.of {H:Heap} (a:Wf H) {k:Option Nat} {p w:AV} (h:bc H k p=some w):Ldd H k p w:=by
 refine ⟨h,fun H' b e hb=>?_,fun H' b hb=>?_⟩
 all_goals
  cases p with
  | ptr c o =>
   have:c<H.next:=by
    simp only [bc] at h;split at h
    ·rename_i hc; exact a c _ hc
    ·cases h
   simp only [bc]
   first | rw [aw zO] | rw [cH zO]
  | _=>rfl
def Ldd.mono {H H':Heap} (h:Kp H H') {k:Option Nat} {p w:AV} (hl:Ldd H k p w):Ldd H' k p w:=Ldd.of h.wf (bV h.sub hl.ld)
def SubT (tys:List Nat) (H H':Heap):Prop:=∀ b cs t r,t∈tys->H.get b=some (.cells cs t r)->H'.get b=some (.cells cs t r)
def Sub.t {H H':Heap} (h:Sub H H') (tys:List Nat):SubT tys H H':=fun b cs t r _ hb=>h.get b _ hb
def SubT.of {tys a:List Nat} {H H':Heap} (h:SubT tys H H') (hs:∀ t,t∈a->t∈tys):SubT a H H':=fun b cs t r c hb=>h b cs t r (hs t c) hb
def Uw (H:Heap) (ty:Nat) (v:AV):Prop:=∀ b off n c z x,v=.own b off n c z x->∃ cs r,H.get b=some (.cells cs ty r)
structure gr (α:Type) where
 sz:Nat
 tys:List Nat
 R:Heap->List AV->α->Prop
 pos:0<sz
 len:∀ {H cs a},R H cs a->cs.length=sz/\cs.all AV.one=true
 mono:∀ {H H' cs a},SubT tys H H'->R H cs a->R H' cs a
variable {α:Type}
def Cells (E:gr α) (H:Heap) (cells:List AV) (l:List α):Prop:=cells.length=l.length*E.sz/\∀ i a,l[i]? = some a->E.R H ((cells.drop (i*E.sz)).take E.sz) a
def SlV (E:gr α) (ty:Nat) (H:Heap) (v:AV) (l:List α):Prop:=∃ cells,Rd H E.sz v cells/\Uw H ty v/\Cells E H cells l
def Cells.mono {E:gr α} {H H':Heap} (h:SubT E.tys H H') {cells:List AV} {l:List α} (hc:Cells E H cells l):Cells E H' cells l:=⟨hc.1,fun i a hi=>E.mono h (hc.2 i a hi)⟩
def SlV.monoT {E:gr α} {ty:Nat} {H H':Heap} (h:SubT (ty :: E.tys) H H') {v:AV} {l:List α} (hs:SlV E ty H v l):SlV E ty H' v l:=by
 obtain ⟨cells,⟨h0,h1,n,h2,h3⟩,a,hc⟩:=hs;refine ⟨cells,⟨h0,h1,n,h2,?_⟩,fun b off n c z x e=>?_,hc.mono (h.of fun t a=>SO _ a)⟩
 ·unfold aK at h3 ⊢;split at h3
  ·rename_i b off n' c sz ex;obtain ⟨cs,r,hb⟩:=a b off _ c sz ex rfl;rw [hb] at h3;rw [h b cs ty r (WH ..) hb]; exact h3
  ·exact h3
  ·exact h3
  ·exact h3
  ·cases h3
 ·obtain ⟨cs,r,hb⟩:=a b off n c z x e;exact ⟨cs,r,h b cs ty r (WH ..) hb⟩
def SlV.mono {E:gr α} {ty:Nat} {H H':Heap} (h:Sub H H') {v:AV} {l:List α} (hs:SlV E ty H v l):SlV E ty H' v l:=hs.monoT (h.t _)
def SlV.one {E:gr α} {ty:Nat} {H:Heap} {v:AV} {l:List α} (hs:SlV E ty H v l):One v:=by
 obtain ⟨cells,h1,h2⟩:=hs; exact h1.one
def SlV.nil (E:gr α) (ty:Nat) (H:Heap):SlV E ty H .nilSl []:=⟨[],Rd.nil H E.sz,(fun _ _ _ _ _ _ e=>by cases e),by simp,fun i a h=>by simp at h⟩
def SlV.lenV {E:gr α} {ty:Nat} {H:Heap} {v:AV} {l:List α} (hs:SlV E ty H v l):lenV v=some (.int .i64 (l.length:Int)):=by
 obtain ⟨cells,h1,-,h2⟩:=hs;exact JD h1 h2.1 E.pos
def SlV.idx {E:gr α} {ty:Nat} {H:Heap} {v:AV} {l:List α} (hs:SlV E ty H v l) (k:IntKind) (i:Nat) (hi:i<l.length):cG E.sz v (.int k (i:Int))=some (az v (i*E.sz)):=by
 obtain ⟨cells,h1,-,h2⟩:=hs
 have:=E.pos
 refine QJ h1 ?_ E.pos;rw [h2.1,<- Yk];exact WJ _ hi
def LL {H:Heap} {sz:Nat} {v:AV} {cells:List AV} (h:Rd H sz v cells) (hne:cells≠[]) (off o:Nat):BI off (az v o)=some (az v (o+off)):=by
 obtain ⟨-,h1,n,hn,a⟩:=h;cases v with
 | own b f m c s e=>simp [az,BI,Xz]
 | sl cs m=>simp [az,BI]
 | nilSl =>
  simp only [aK] at a;split at a
  ·cases a; exact absurd rfl hne
  ·cases a
 | str s=>exact absurd rfl (h1 _)
 | _=>simp [gJ] at hn
def SlV.fa {E:gr α} {ty:Nat} {H:Heap} {v:AV} {l:List α} (hs:SlV E ty H v l) (hne:0<l.length) (off o:Nat):BI off (az v o)=some (az v (o+off)):=by
 obtain ⟨cells,h1,-,h2⟩:=hs;refine LL h1 (fun h=>?_) off o
 have:=h2.1
 rw [h] at this
 have:=Nat.mul_pos hne E.pos
 simp at *;omega
def SlV.at {E:gr α} {ty:Nat} {H:Heap} {v:AV} {l:List α} (hs:SlV E ty H v l) {i:Nat} {a:α} (hi:l[i]? = some a):∃ cs,E.R H cs a/\cs.length=E.sz/\(∀ j c,cs[j]? = some c->bc H none (az v (i*E.sz+j))=some c)/\bc H (some E.sz) (az v (i*E.sz))=some (.agg cs):=by
 obtain ⟨cells,h1,-,h2⟩:=hs;have hlt:i<l.length:=(WI.1 hi).1;have b:i*E.sz+E.sz<=cells.length:=by rw [h2.1,<- Yk]; exact WJ _ hlt
 have:=E.pos
 refine ⟨_,h2.2 i a hi,by simp; omega,fun j c hj=>?_,?_⟩
 ·refine h1.load (by simp) ?_;rw [WW] at hj;split at hj
  ·rw [WX] at hj
   simpa [bN] using hj
  ·cases hj
 ·refine h1.load zS ?_;simp only [bN];rw [if_pos b]
structure Rf (α:Type) where
 tys:List Nat
 R:Heap->AV->α->Prop
 one:∀ {H v a},R H v a->One v
 mono:∀ {H H' v a},SubT tys H H'->R H v a->R H' v a
def bz (e:Rf α):gr α where
 sz:=1
 tys:=e.tys
 R H cs a:=∃ v,cs=[v]/\e.R H v a
 pos:=zO
 len:=by rintro H cs a ⟨v,rfl,h⟩; exact ⟨rfl,by simp [(e.one h).2]⟩
 mono:=by rintro H H' cs a hs ⟨v,rfl,h⟩; exact ⟨v,rfl,e.mono hs h⟩
abbrev pC (e:Rf α) (ty:Nat) (H:Heap) (v:AV) (l:List α):Prop:=SlV (bz e) ty H v l
def SlV.at1 {e:Rf α} {ty:Nat} {H:Heap} {v:AV} {l:List α} (hs:pC e ty H v l) {i:Nat} {a:α} (hi:l[i]? = some a):∃ c,e.R H c a/\bc H none (az v i)=some c:=by
 obtain ⟨cs,⟨c,rfl,hr⟩,-,h2,-⟩:=hs.at hi;refine ⟨c,hr,?_⟩
 have:=h2 0 c rfl
 simpa [bz] using this
def SlV.idx1 {e:Rf α} {ty:Nat} {H:Heap} {v:AV} {l:List α} (hs:pC e ty H v l) (k:IntKind) (i:Nat) (hi:i<l.length):cG 1 v (.int k (i:Int))=some (az v i):=by
 have:=SlV.idx hs k i hi
 simpa [bz] using this
def gK (k:IntKind):Rf Int:=⟨[],fun _ v a=>v=.int k a,fun h=>h ▸ bi _ _,fun _ h=>h⟩
def cq:Rf Nat:=⟨[],fun _ v a=>v=.int .u64 (a:Int),fun h=>h ▸ bi _ _,fun _ h=>h⟩
def Vt (E:gr α) (ty:Nat):Rf (List α):=⟨ty :: E.tys,SlV E ty,fun h=>h.one,fun h hs=>hs.monoT h⟩
def Cells.take {E:gr α} {H:Heap} {cells:List AV} {l:List α} (h:Cells E H cells l) {n:Nat} (hn:n<=l.length):Cells E H (cells.take (n*E.sz)) (l.take n):=by
 have hm:=WJ E.sz hn;refine ⟨by rw [WU,WU,h.1,XJ hm,XJ hn],fun i a hi=>?_⟩;rw [WW] at hi;split at hi
 ·rename_i b
  have:=h.2 i a hi
  have h1:i*E.sz+E.sz<=n*E.sz:=by rw [<- Yk]; exact WJ _ b
  rw [List.drop_take,YO,XJ zO];exact this
 ·cases hi
def Cells.drop {E:gr α} {H:Heap} {cells:List AV} {l:List α} (h:Cells E H cells l) (n:Nat):Cells E H (cells.drop (n*E.sz)) (l.drop n):=by
 refine ⟨by rw [XF,XF,h.1,Nat.sub_mul],fun i a hi=>?_⟩;rw [WX] at hi
 have:=h.2 _ a hi
 rw [List.drop_drop,<- XI];exact this
def Cells.append {E:gr α} {H:Heap} {b c:List AV} {l1 d:List α} (h1:Cells E H b l1) (h2:Cells E H c d):Cells E H (b++c) (l1++d):=by
 refine ⟨by rw [WM,WM,h1.1,h2.1,XI],fun i a hi=>?_⟩;by_cases hlt:i<l1.length
 ·rw [W4 hlt] at hi
  have:=h1.2 i a hi
  have f:i*E.sz+E.sz<=b.length:=by rw [h1.1,<- Yk]; exact WJ _ hlt
  rw [List.drop_append_of_le_length zO,XU (by rw [XF]; omega)];exact this
 ·rw [Xm zO] at hi
  have:=h2.2 _ a hi
  have e:i*E.sz=b.length+(i-l1.length)*E.sz:=by rw [h1.1,<- XI]; congr 1; omega
  rw [e,List.drop_append,YQ zO,XS,Zl];exact this
def Cells.nil (E:gr α) (H:Heap):Cells E H [] []:=⟨by simp,fun i a h=>by simp at h⟩
def Cells.one {E:gr α} {H:Heap} {cs:List AV} {a:α} (h:E.R H cs a):Cells E H cs [a]:=by
 refine ⟨by simp [(E.len h).1],fun i b hi=>?_⟩;cases i with
 | zero=>simp at hi; subst hi; simp [<- (E.len h).1]; exact h
 | succ i=>simp at hi
def Cells.set {E:gr α} {H:Heap} {cells cs:List AV} {l:List α} (h:Cells E H cells l) {i:Nat} {a:α} (hi:i<l.length) (hr:E.R H cs a):Cells E H (cells.take (i*E.sz)++cs++cells.drop (i*E.sz+E.sz)) (l.set i a):=by
 have e:l.set i a=l.take i++[a]++l.drop (i+1):=by rw [YL,if_pos hi]; simp
 rw [e]
 have:=h.drop (i+1)
 rw [Yk] at this;exact ((h.take (Yx hi)).append (Cells.one hr)).append this
def Cells.ones {E:gr α} {H:Heap} {cells:List AV} {l:List α} (h:Cells E H cells l):cells.all AV.one=true:=by
 rw [WT];intro c hc;obtain ⟨j,hj,rfl⟩:=XH hc;have hp:=E.pos;have hlt:j / E.sz<l.length:=by
  apply Nat.div_lt_of_lt_mul
  rw [WR,<- h.1]; exact hj
 have:=(E.len (h.2 (j / E.sz) _ (zh hlt))).2
 rw [WT] at this;refine this _ ?_;have hm:j % E.sz<E.sz:=Xp _ hp;have e:=XL j E.sz;refine WN (i:=j % E.sz) ?_;rw [WW,if_pos hm,WX];rw [WR,e,zh hj]
def sD {H:Heap} {ty sz:Nat} {v a:AV} {lo hi mx:Option AV} (d:Uw H ty v) (h:bU sz v lo hi mx=some a):Uw H ty a:=by
 intro b off n c z x e;subst e;cases v with
 | own b' g n' f j i =>
  have hb:b=b':=by
   simp only [bU,bA] at h;split at h
   ·cases h
   ·split at h
    ·simp only [C6,eD] at h;obtain ⟨m,-,h',-,l,-,h⟩:=h;split at h
     ·split at h <;> (cases h; rfl)
     ·cases h
    ·simp only [C6,eD] at h;obtain ⟨h',-,l,-,h⟩:=h;split at h
     ·split at h
      ·cases h; rfl
      ·split at h
       ·cases h; rfl
       ·cases h
     ·cases h
    ·cases h
  subst hb;exact d _ _ _ _ _ _ rfl
 | sl cs n' =>
  exfalso
  simp only [bU,bA] at h;split at h
  ·simp only [C6,eD] at h;obtain ⟨h',-,l,-,h⟩:=h;split at h <;> cases h
  ·simp only [C6,eD] at h;obtain ⟨m,-,h',-,l,-,h⟩:=h;split at h <;> cases h
  ·cases h
 | nilSl =>
  exfalso
  simp only [bU,bA] at h;split at h
  ·split at h <;> cases h
  ·split at h <;> cases h
  ·cases h
 | str s=>cases h
 | _=>cases h
def SlV.hi {E:gr α} {ty:Nat} {H:Heap} {v:AV} {l:List α} (hs:SlV E ty H v l) (k:IntKind) (n:Nat) (hn:n<=l.length):∃ a,bU E.sz v none (some (.int k (n:Int))) none=some a/\SlV E ty H a (l.take n):=by
 obtain ⟨cells,h1,b,h2⟩:=hs;obtain ⟨a,e,h⟩:=h1.hi (k:=k) (hi:=n) (by rw [h2.1]; exact WJ _ hn) E.pos;exact ⟨a,e,_,h,sD b e,h2.take hn⟩
def SlV.lo {E:gr α} {ty:Nat} {H:Heap} {v:AV} {l:List α} (hs:SlV E ty H v l) (k:IntKind) (n:Nat) (hn:n<=l.length):∃ a,bU E.sz v (some (.int k (n:Int))) none none=some a/\SlV E ty H a (l.drop n):=by
 obtain ⟨cells,h1,b,h2⟩:=hs;obtain ⟨a,e,h⟩:=h1.lo (k:=k) (lo:=n) (by rw [h2.1]; exact WJ _ hn) E.pos;exact ⟨a,e,_,h,sD b e,h2.drop n⟩
def SlV.clip {E:gr α} {ty:Nat} {H:Heap} {v:AV} {l:List α} (hs:SlV E ty H v l) (k j:IntKind):∃ a,bU E.sz v none (some (.int k (l.length:Int))) (some (.int j (l.length:Int)))=some a/\SlV E ty H a l:=by
 obtain ⟨cells,h1,b,h2⟩:=hs;obtain ⟨a,e,h⟩:=h1.clip (k:=k) (j:=j) h2.1 E.pos;exact ⟨a,e,_,h,sD b e,h2⟩
def Own (E:gr α) (ty:Nat) (H0 H:Heap) (b:Nat) (ex:Bool) (v:AV) (l:List α):Prop :=
 ∃ cells,v=.own b 0 l.length l.length E.sz ex/\H.get b=some (.cells cells ty true)/\Cells E H cells l/\H0.next<=b
def Own.sl {E:gr α} {ty:Nat} {H0 H:Heap} {b:Nat} {ex:Bool} {v:AV} {l:List α} (h:Own E ty H0 H b ex v l):SlV E ty H v l:=by
 obtain ⟨cells,rfl,hb,hc,-⟩:=h;exact ⟨cells,Rd.own hb hc.1 (Jv _),fun _ _ _ _ _ _ e=>by cases e; exact ⟨_,_,hb⟩,hc⟩
def Bl (E:gr α) (ty:Nat) (H0 H:Heap) (v:AV) (l:List α):Prop:=(v=.nilSl/\l=[])\/∃ b,Own E ty H0 H b false v l
def Bl.nil {E:gr α} {ty:Nat} {H0 H:Heap}:Bl E ty H0 H .nilSl []:=.inl ⟨rfl,rfl⟩
def Bl.sl {E:gr α} {ty:Nat} {H0 H:Heap} {v:AV} {l:List α} (h:Bl E ty H0 H v l):SlV E ty H v l:=by
 rcases h with ⟨rfl,rfl⟩ | ⟨b,h⟩
 ·exact SlV.nil E ty H
 ·exact h.sl
def Own.monoT {E:gr α} {ty:Nat} {H0 H H':Heap} (hs:SubT (ty :: E.tys) H H') {b:Nat} {ex:Bool} {v:AV} {l:List α} (h:Own E ty H0 H b ex v l):Own E ty H0 H' b ex v l:=by
 obtain ⟨cells,rfl,hb,hc,h0⟩:=h;exact ⟨cells,rfl,hs b _ _ _ (WH ..) hb,hc.mono (hs.of fun t a=>SO _ a),h0⟩
def Own.mono {E:gr α} {ty:Nat} {H0 H H':Heap} (hs:Sub H H') {b:Nat} {ex:Bool} {v:AV} {l:List α} (h:Own E ty H0 H b ex v l):Own E ty H0 H' b ex v l:=h.monoT (hs.t _)
def Bl.monoT {E:gr α} {ty:Nat} {H0 H H':Heap} (hs:SubT (ty :: E.tys) H H') {v:AV} {l:List α} (h:Bl E ty H0 H v l):Bl E ty H0 H' v l:=by
 rcases h with h | ⟨b,h⟩
 ·exact .inl h
 ·exact .inr ⟨b,h.monoT hs⟩
def Bl.mono {E:gr α} {ty:Nat} {H0 H H':Heap} (hs:Sub H H') {v:AV} {l:List α} (h:Bl E ty H0 H v l):Bl E ty H0 H' v l:=h.monoT (hs.t _)
def Bl.put {E:gr α} {ty:Nat} {H0 H:Heap} {v:AV} {l:List α} (h:Bl E ty H0 H v l) {b:Nat} {e:Ent} (hne:∀ n,v ≠ .own b 0 n n E.sz false) (hs:SubT E.tys H (H.put b e)):Bl E ty H0 (H.put b e) v l:=by
 rcases h with h | ⟨b',cells,rfl,hb,hc,h0⟩
 ·exact .inl h
 ·exact .inr ⟨b',cells,rfl,by rw [aw (fun a=>hne _ (by rw [a]))]; exact hb,hc.mono hs,h0⟩
def Bl.kill {E:gr α} {ty:Nat} {H0 H:Heap} {v:AV} {l:List α} (h:Bl E ty H0 H v l) {b:Nat} (hne:∀ n,v ≠ .own b 0 n n E.sz false) (hs:SubT E.tys H (H.kill b)):Bl E ty H0 (H.kill b) v l:=by
 rcases h with h | ⟨b',cells,rfl,hb,hc,h0⟩
 ·exact .inl h
 ·exact .inr ⟨b',cells,rfl,by rw [cH (fun a=>hne _ (by rw [a]))]; exact hb,hc.mono hs,h0⟩
def SubT.nil (H H':Heap):SubT [] H H':=fun _ _ _ _ h=>by cases h
def SubT.put {tys:List Nat} {H:Heap} {b:Nat} {e:Ent} (h:∀ cs t r,t∈tys->H.get b≠some (.cells cs t r)):SubT tys H (H.put b e):=fun c cs t r d hc=>by
 rw [aw (fun a=>h cs t r d (by rw [<- a]; exact hc))]; exact hc
def SubT.put_ty {tys:List Nat} {H:Heap} {b ty:Nat} {e:Ent} {cs:List AV} {r:Bool} (hb:H.get b=some (.cells cs ty r)) (c:ty ∉ tys):SubT tys H (H.put b e):=SubT.put fun d t f a h=>by
 rw [hb] at h; cases h; exact c a
def Bl.base {E:gr α} {ty:Nat} {H0 a H:Heap} (hs:H0.next<=a.next) {v:AV} {l:List α} (h:Bl E ty a H v l):Bl E ty H0 H v l:=by
 rcases h with h | ⟨b,cells,h1,h2,h3,h4⟩
 ·exact .inl h
 ·exact .inr ⟨b,cells,h1,h2,h3,WK hs h4⟩
def dq (H:Heap) (id size bytes ty:Nat) (x y:AV):Option (AV × Heap):=match gJ y with
 | none=>none
 | some m=>match aK H size m y with
  | none=>none
  | some a=>cM H id size bytes ty x m a (match y with | .own b _ _ _ _ _=>some b | _=>none)
def RM {tab:Nat->Option au} (ev:Src->AV) (H:Heap) (id:Nat) (Q:AV->Heap->Prop) (size bytes ty:Nat) (z:List AV) (x y:Src) :
  nB tab ev H id (.append size bytes ty z x y) Q=iv (dq H id size bytes ty (ev x) (ev y)) (fun r=>Q r.1 r.2) ():=by rw [Km]; rfl
def Hb (H:Heap) (id ty size bytes:Nat) (z:List AV) (l c:AV):Option (AV × Heap):=match qm l,qm c with
 | some l,some c=>if l<=c/\bytes*c<=2^47/\c<2^63/\z.length=size then some (.own id 0 l c size true,H.put id (.cells ((List.replicate c z).flatten) ty true)) else none
 | _,_=>none
def Tg {tab:Nat->Option au} (ev:Src->AV) (H:Heap) (id:Nat) (Q:AV->Heap->Prop) (ty size bytes:Nat) (z:List AV) (l c:Src) :
  nB tab ev H id (.mksl ty size bytes z l c) Q=iv (Hb H id ty size bytes z (ev l) (ev c)) (fun r=>Q r.1 r.2) ():=by rw [PD]; rfl
def iy (H:Heap) (id ty size bytes:Nat) (z:List AV) (k j:IntKind) (n:Nat) (hb:bytes*n<=140737488355328) (hn:n<9223372036854775808) (a:z.length=size) :
  Hb H id ty size bytes z (.int k (n:Int)) (.int j (n:Int))=some (.own id 0 n n size true,H.put id (.cells ((List.replicate n z).flatten) ty true)):=by
 simp only [Hb,oS];rw [if_pos ⟨Jv _,hb,hn,a⟩]
def mH {E:gr α} {H:Heap} {z:List AV} {a:α} (b:E.R H z a) (n:Nat):Cells E H (List.replicate n z).flatten (List.replicate n a):=by
 induction n with
 | zero=>exact Cells.nil E H
 | succ n c=>rw [Xt,Xt,Zc]; exact (Cells.one b).append c
def Bl.app {E:gr α} {ty ty2 bytes id:Nat} {H0 H:Heap} {v w:AV} {l a:List α} (h:Bl E ty H0 H v l) (M:ty ∉ E.tys) (j:Kp H0 H) (hy:SlV E ty2 H w a) (i:H0.next<=id) (y:id<H.next) (I:H.get id=none)
  (hne:∀ b n,v=.own b 0 n n E.sz false->∀ off m c z x,w ≠ .own b off m c z x) (hb:(l.length+a.length)*bytes<=70368744177664) (hl:l.length+a.length<4611686018427387904) :
  ∃ p H',dq H id E.sz bytes ty v w=some (p,H')/\Bl E ty H0 H' p (l++a)/\Kp H0 H'/\H'.next=H.next/\(∀ b e,H.get b=some e->(∀ n,v ≠ .own b 0 n n E.sz false)->H'.get b=some e)/\(0<a.length->∃ n,p=.own id 0 n n E.sz false):=by
 obtain ⟨f,hr,O,hc⟩:=hy;obtain ⟨m,hm,J⟩:=hr.length;obtain ⟨-,-,m',A,F⟩:=hr;rw [hm] at A; cases A;have K:m=a.length:=YN E.pos (by rw [<- J,hc.1]);subst K;obtain ⟨fr,u⟩:∃ fr,(match w with | .own b _ _ _ _ _=>some b | _=>none)=fr:=⟨_,rfl⟩
 have C:dq H id E.sz bytes ty v w=cM H id E.sz bytes ty v a.length f fr:=by
  unfold dq;rw [hm];simp only;rw [F];simp only;rw [u]
 rw [C];have L:=hc.ones;have k:∀ {b e},H.get b=some e->b≠id:=fun hb d=>by rw [d,I] at hb; cases hb
 rcases h with ⟨rfl,rfl⟩ | ⟨b,cells,rfl,g,hcl,q⟩
 ·by_cases h0:a.length=0
  ·refine ⟨.nilSl,H,by simp only [cM]; rw [if_pos h0],.inl ⟨rfl,by simpa using h0⟩,j,rfl,fun b e hb _=>hb,fun h=>by omega⟩
  ·refine ⟨_,_,by simp only [cM]; rw [if_neg h0,if_pos ⟨by simpa using hb,by simpa using hl⟩],.inr ⟨id,f,by simp,am _ _ _,?_,i⟩,j.put i y,rfl,fun b e hb _=>?_,fun _=>⟨_,rfl⟩⟩
   ·have:=hc.mono (H':=H.put id (.cells f ty true)) fun c cs t r _ s=>by rw [aw (k s)]; exact s
    simpa using this
   ·rw [aw (k hb)]; exact hb
 ·have N:b≠id:=k g;have G:fr≠some b:=by
   rw [<- u];cases w with
   | own b' off m c z x =>
    simp only [ne_eq,Xb];intro d; subst d;exact hne _ _ rfl _ _ _ _ _ rfl
   | _=>simp
  simp only [cM,g];rw [if_pos ⟨trivial,hb,hl,trivial,by simp; exact Za hcl.1.symm⟩];by_cases h0:a.length=0
  ·rw [if_pos zO,if_pos h0];refine ⟨_,H,rfl,.inr ⟨b,cells,?_,g,?_,q⟩,j,rfl,fun b e hb _=>hb,fun h=>by omega⟩
   ·simp [h0]
   ·have:a=[]:=Xl h0
    subst this; simpa using hcl
  ·rw [if_neg zO];simp only [Xs,if_false];rw [if_pos ⟨trivial,trivial,G,L⟩];have B:∀ c e,H.get c=some e->c≠b->((H.kill b).put id (.cells (cells.take (l.length*E.sz)++f) ty true)).get c=some e:=fun c e hc D=>by
    rw [aw (k hc),cH D]; exact hc
   refine ⟨_,_,rfl,.inr ⟨id,_,by simp,am _ _ _,?_,i⟩,(j.kill q).put i y,rfl,fun c e hc he=>B c e hc fun d=>?_,fun _=>⟨_,rfl⟩⟩
   ·have hs:SubT E.tys H ((H.kill b).put id (.cells (cells.take (l.length*E.sz)++f) ty true)):=fun c cs t r o hc=>B c _ hc fun d=>by
     subst d;rw [g] at hc; cases hc;exact M o
    have o:cells.take (l.length*E.sz)=cells:=by rw [<- hcl.1,WZ]
    rw [o] at hs ⊢;exact (hcl.mono hs).append (hc.mono hs)
   ·subst d;exact he _ rfl
def Bl.push {E:gr α} {ty ty2 bytes id id2 k:Nat} {H0 H:Heap} {v:AV} {l:List α} {cs:List AV} {a:α} (h:Bl E ty H0 H v l) (B:ty ∉ E.tys) (d:Kp H0 H) (hr:E.R H cs a) (t:H.next<=id) (y:id<H.next+k) (u:H.next<=id2) (w:id2<H.next+k) (hne:id≠id2)
  (hb:(l.length+1)*bytes<=70368744177664) (hl:l.length+1<4611686018427387904) :
  ∃ n H',dq ((H.up k).put id2 (.cells cs ty2 true)) id E.sz bytes ty v (.own id2 0 1 1 E.sz true)=some (.own id 0 n n E.sz false,H')/\Bl E ty H0 H' (.own id 0 n n E.sz false) (l++[a])/\Kp H0 H'/\H'.next=H.next+k/\(∀ b e,H.get b=some e->(∀ n,v ≠ .own b 0 n n E.sz false)->H'.get b=some e):=by
 have D:=d.le;have i:∀ {c},H.next<=c->H.get c=none:=fun hc=>d.wf.fresh hc
 have g:Sub H ((H.up k).put id2 (.cells cs ty2 true)):=(Sub.bump H k).put (i u) _;have A:Kp H0 ((H.up k).put id2 (.cells cs ty2 true)):=(d.up k).put zO w;have hy:SlV E ty2 ((H.up k).put id2 (.cells cs ty2 true)) (.own id2 0 1 1 E.sz true) [a]:=by
  have:Own E ty2 H0 ((H.up k).put id2 (.cells cs ty2 true)) id2 true (.own id2 0 1 1 E.sz true) [a]:=⟨cs,rfl,am _ _ _,Cells.one (E.mono (g.t _) hr),zO⟩
  exact this.sl
 obtain ⟨F,H',j,o,e3,e4,p,q⟩:=(h.mono g).app (id:=id) (bytes:=bytes) B A hy zO y (by rw [aw hne]; exact i t) (fun b n f off m c z x C=>by
  cases C;rcases h with ⟨h,-⟩ | ⟨b',cells,h,r,-⟩
  ·rw [h] at f; cases f
  ·rw [h] at f; cases f
   have:=d.wf _ _ r
   omega) hb hl
 obtain ⟨n,rfl⟩:=q (by simp);exact ⟨n,H',j,o,e3,e4,fun b e s he=>p b e (g.get _ _ s) he⟩
def Bl.ne {E:gr α} {ty:Nat} {H0 H:Heap} {v:AV} {l:List α} (h:Bl E ty H0 H v l) {b:Nat} {e:Ent} (hb:H.get b=some e) (he:∀ cs,e ≠ .cells cs ty true) (n:Nat):v ≠ .own b 0 n n E.sz false:=by
 intro a;rcases h with ⟨h,-⟩ | ⟨b',cells,h,c,-⟩
 ·rw [h] at a; cases a
 ·rw [h] at a; cases a;rw [hb] at c; cases c;exact he _ rfl
def SlV.app {E:gr α} {ty ty2 bytes id b off:Nat} {H0 H:Heap} {w:AV} {l a:List α} (h:SlV E ty H (.own b off l.length l.length E.sz true) l) (n:Kp H0 H) (hy:SlV E ty2 H w a) (k:H0.next<=id) (y:id<H.next) (v:H.get id=none)
  (hb:(l.length+a.length)*bytes<=70368744177664) (hl:l.length+a.length<4611686018427387904) :
  ∃ g H',dq H id E.sz bytes ty (.own b off l.length l.length E.sz true) w=some (g,H')/\SlV E ty H' g (l++a)/\Kp H0 H'/\H'.next=H.next/\Sub H H'/\(0<a.length->Own E ty H0 H' id false g (l++a)):=by
 obtain ⟨cells,C,q,hcl⟩:=h;obtain ⟨cs,G,hg⟩:=q _ _ _ _ _ _ rfl;obtain ⟨-,-,F,p,f⟩:=C;simp only [gJ,Xb] at p;subst p;simp only [aK,hg] at f;obtain ⟨d,hr,D,hc⟩:=hy;obtain ⟨m,hm,z⟩:=hr.length;obtain ⟨-,-,m',o,t⟩:=hr;rw [hm] at o; cases o;have A:m=a.length:=YN E.pos (by rw [<- z,hc.1]);obtain ⟨fr,u⟩:∃ fr,(match w with | .own b _ _ _ _ _=>some b | _=>none)=fr:=⟨_,rfl⟩
 subst A;have B:∀ {b e},H.get b=some e->b≠id:=fun hb r=>by rw [r,v] at hb; cases hb
 split at f
 ·rename_i j;cases f;have i:∀ fr,cM H id E.sz bytes ty (.own b off l.length l.length E.sz true) a.length d fr=if a.length=0 then some (.own b off l.length l.length E.sz true,H) else some (.own id 0 (l.length+a.length) (l.length+a.length) E.sz false,H.put id (.cells ((cs.drop off).take (l.length*E.sz)++d) ty true)):=fun fr=>by
   simp only [cM,hg];rw [if_pos ⟨trivial,hb,hl,trivial,j.2.2⟩];by_cases h0:a.length=0
   ·rw [if_pos zO,if_pos h0,if_pos h0]
   ·rw [if_neg zO,if_neg h0]
    simp
  have e:∀ x,dq H id E.sz bytes ty x w=cM H id E.sz bytes ty x a.length d fr:=fun x=>by
   unfold dq;rw [hm];simp only;rw [t];simp only;rw [u]
  by_cases h0:a.length=0
  ·refine ⟨_,H,by rw [e,i,if_pos h0],?_,n,rfl,Sub.refl H,fun h=>by omega⟩
   have:a=[]:=Xl h0
   subst this;rw [Xx];refine ⟨_,⟨Jv _,(fun s h=>by cases h),l.length,rfl,?_⟩,q,hcl⟩;simp only [aK,hg];rw [if_pos j]
  ·have hs:Sub H (H.put id (.cells ((cs.drop off).take (l.length*E.sz)++d) ty true)):=⟨Jv _,fun c e hc=>by rw [aw (B hc)]; exact hc⟩
   refine ⟨_,_,by rw [e,i,if_neg h0],?_,n.put k y,rfl,hs,fun _=>⟨_,by rw [WM],am _ _ _,(hcl.mono (hs.t _)).append (hc.mono (hs.t _)),k⟩⟩;refine ⟨(cs.drop off).take (l.length*E.sz)++d,Rd.own (am _ _ _) ?_ (Jv _),fun _ _ _ _ _ _ e=>by cases e; exact ⟨_,_,am _ _ _⟩,(hcl.mono (hs.t _)).append (hc.mono (hs.t _))⟩;rw [WM,hcl.1,hc.1,XI]
 ·cases f
def SlV.nilcase {E:gr α} {ty:Nat} {H:Heap} {v:AV} {l:List α} (h:SlV E ty H v l):(v=.nilSl/\l=[])\/b7 .eql .sl v .nilSl=some (.bool false):=by
 obtain ⟨cells,⟨-,h1,n,hn,a⟩,-,hc⟩:=h;cases v with
 | nilSl =>
  simp only [aK] at a;split at a
  ·cases a;refine .inl ⟨rfl,Xl ?_⟩
   have:=hc.1
   have hp:=E.pos;simp only [XZ] at this;rcases Nat.mul_eq_zero.1 this.symm with h | h
   ·exact h
   ·omega
  ·cases a
 | own b off n c z x=>exact .inr rfl
 | sl cs n=>exact .inr rfl
 | str s=>exact absurd rfl (h1 _)
 | _=>simp [gJ] at hn
def aP (l:List Nat):List AV:=l.map fun a=>.int .u64 ((a:Nat):Int)
def pm (l:List Nat):(aP l).length=l.length:=by simp [aP]
def Lw (l:List Nat) (j a:Nat):(aP l).set j (.int .u64 (a:Int))=aP (l.set j a):=by simp [aP,Zd]
def Dt {l:List Nat} {j:Nat} (h:j<l.length):bN (aP l) j none=some (.int .u64 ((l.getD j 0:Nat):Int)):=by
 simp [bN,aP,qf,h]
def uy (H:Heap) (l:List Nat):Cells (bz cq) H (aP l) l:=by
 refine ⟨by simp [aP,bz],fun i a hi=>⟨.int .u64 (a:Int),?_,rfl⟩⟩;have hlt:=(WI.1 hi).1
 apply Yg
 intro k;have e:(aP l)[i]? = some (.int .u64 (a:Int)):=by simp [aP,hi]
 simp only [bz,WW,WX,XP];cases k with
 | zero=>simpa using e
 | succ k=>simp
def nr (n:Nat):(List.replicate n [AV.int .u64 0]).flatten=aP (List.replicate n 0):=by
 induction n with
 | zero=>rfl
 | succ n a=>rw [Xt,Zc,a]; rfl
def vC {H0 H:Heap} {b ty:Nat} {l:List Nat} {n:Nat} {ex:Bool} (hb:H.get b=some (.cells (aP l) ty true)) (h0:H0.next<=b) (hn:l.length=n):Own (bz cq) ty H0 H b ex (.own b 0 n n 1 ex) l:=⟨_,by rw [hn]; rfl,hb,uy H l,h0⟩
def iB {b off n c sz j:Nat} {x:Bool} {k:IntKind} (h:j<n):cG sz (.own b off n c sz x) (.int k (j:Int))=some (.ptr b (off+j*sz)):=by
 show aT _ (.indexAddr sz (.t 0) (.t 1))=_;simp [aT,oS,h]
theorem Ef (b off n c sz:Nat) (x:Bool):lenV (.own b off n c sz x)=some (.int .i64 (n:Int)):=rfl
def SK {α:Type} {a b:Nat} {x y:α} (h:a<b):(if a<b then x else y)=x:=if_pos h
def uK (o:AOp):Bool:=o.looks || o.isPure
section
variable (tab:Nat->Option au)
def MZ (base:Nat) (T:Tm) (i:Nat) (d:ke) (s:DS) (K:DS->Prop):Prop:=match d.cls,d.looks with
 | 0,(k,adds) :: _=>uK d.op=true/\nB tab (Src.ev T) (dJ base s.Es (s.Cs.getD k default) adds) 0 d.op fun v _=>K ⟨s.Vs++[v],s.Cs,s.Es++[none]⟩
 | 1,_=>d.op.makes=true/\nB tab (Src.ev T) (Heap.nil 0) (base+i) d.op fun v H'=>K ⟨s.Vs++[v],s.Cs,s.Es++[H'.get (base+i)]⟩
 | 2,[(k,adds)]=>nB tab (Src.ev T) (dJ base s.Es (s.Cs.getD k default) adds) (base+i) d.op fun v H'=>K ⟨s.Vs++[v],s.Cs++[H'],s.Es++[none]⟩
 | _,_=>False
def Hm (base:Nat) (d:ke) (s:DS) (K:DS->Prop):Prop:=match d.cls,d.looks with
 | 2,[(k,adds)]=>K ⟨s.Vs++[.tup []],s.Cs++[dJ base s.Es (s.Cs.getD k default) adds],s.Es++[none]⟩
 | 2,_=>False
 | _,_=>K ⟨s.Vs++[.tup []],s.Cs,s.Es++[none]⟩
def wd (base:Nat) (T0:Tm):Nat->List ke->DS->(DS->Prop)->Prop
 | _,[],s,Q=>Q s
 | i,d :: ds,s,Q=>match b9 (ct T0 s.Vs d.uses) d.guard with
  | none=>False
  | some true=>MZ tab base (ct T0 s.Vs d.uses) i d s fun s'=>wd base T0 (i+1) ds s' Q
  | some false=>Hm base d s fun s'=>wd base T0 (i+1) ds s' Q
end
section
variable {tab:Nat->Option au}
def E9 {base i:Nat} {T0:Tm} {d:ke} {s:DS} {K:DS->Prop} (c:b9 (ct T0 s.Vs d.uses) d.guard=some true) (h:MZ tab base (ct T0 s.Vs d.uses) i d s K) :
  ∃ s',K s'/\∃ N,∀ m n,N<=m->N<=n->kU (mp tab fe m n) base T0 i d s=some s':=by
 obtain ⟨dst,op,guard,uses,cls,looks⟩:=d;simp only at c;unfold MZ at h;simp only at h;split at h
 ·rename_i k adds r;obtain ⟨a,h⟩:=h;have h:=h.run;obtain ⟨v,H',b,N,g⟩:=mQ h;refine ⟨_,b,N,fun m n hm hn=>?_⟩;have g:=g m n hm hn;unfold kU;simp only [c];cases hp:aT (Src.ev (ct T0 s.Vs uses)) op with
  | some w =>
   have:Ao (mp tab fe m n) (Src.ev (ct T0 s.Vs uses)) (dJ base s.Es (s.Cs.getD k default) adds) 0 op=some (w,dJ base s.Es (s.Cs.getD k default) adds):=by
    cases op <;> first | (simp only [Ao,hp]; done) | (simp [aT] at hp; done)
   rw [this] at g;cases g; rfl
  | none =>
   have hh:bj (Src.ev (ct T0 s.Vs uses)) (dJ base s.Es (s.Cs.getD k default) adds) 0 op=some (v,H'):=by
    cases op <;> first | (simp only [Ao,hp] at g; exact g) | (simp [uK,AOp.looks,AOp.isPure] at a; done)
   have hl:op.looks=true:=by
    cases op <;> first | rfl | (simp [bj] at hh; done) | (simp [uK,AOp.looks,AOp.isPure] at a; done)
   simp only [hh,hl,if_true]
 ·obtain ⟨a,h⟩:=h;have h:=h.run;obtain ⟨v,H',b,N,g⟩:=mQ h;refine ⟨_,b,N,fun m n hm hn=>?_⟩;have g:=g m n hm hn;unfold kU;simp only [c,a,if_true];have hp:aT (Src.ev (ct T0 s.Vs uses)) op=none:=by cases op <;> first | rfl | (simp [AOp.makes] at a; done)
  have hh:bj (Src.ev (ct T0 s.Vs uses)) (Heap.nil 0) (base+i) op=some (v,H'):=by
   cases op <;> first | (simp only [Ao,hp] at g; exact g) | (simp [AOp.makes] at a; done)
  simp only [hh]
 ·have h:=h.run;obtain ⟨v,H',b,N,g⟩:=mQ h;refine ⟨_,b,N,fun m n hm hn=>?_⟩;have g:=g m n hm hn;unfold kU;simp only [c,g]
 ·exact h.elim
def Dj {cal:oR} {base i:Nat} {T0:Tm} {d:ke} {s:DS} {K:DS->Prop} (a:b9 (ct T0 s.Vs d.uses) d.guard=some false) (h:Hm base d s K):∃ s',K s'/\∀ cal,kU cal base T0 i d s=some s':=by
 obtain ⟨dst,op,guard,uses,cls,looks⟩:=d;simp only at a;unfold Hm at h;simp only at h;split at h
 ·refine ⟨_,h,fun cal=>?_⟩;unfold kU; simp only [a]
 ·exact h.elim
 ·rename_i h1 h2;refine ⟨_,h,fun cal=>?_⟩;unfold kU;simp only [a]
def zq {base:Nat} {T0:Tm}:∀ (ds:List ke) (i:Nat) (s:DS) (Q:DS->Prop),wd tab base T0 i ds s Q->∃ s',Q s'/\∃ N,∀ m n,N<=m->N<=n->uD (mp tab fe m n) base T0 i ds s=some s'
 | [],i,s,Q,h=>⟨s,h,0,fun _ _ _ _=>rfl⟩
 | d :: ds,i,s,Q,h=>by
  unfold wd at h;split at h
  ·exact h.elim
  ·rename_i e;obtain ⟨s1,h1,f,b⟩:=E9 e h;obtain ⟨s2,hq,a,c⟩:=zq ds _ _ _ h1;refine ⟨s2,hq,f+a,fun m n hm hn=>?_⟩;unfold uD;rw [b m n zO zO];exact c m n zO zO
  ·rename_i e;obtain ⟨s1,h1,b⟩:=Dj (cal:=Ty) (i:=i) e h;obtain ⟨s2,hq,a,c⟩:=zq ds _ _ _ h1;refine ⟨s2,hq,a,fun m n hm hn=>?_⟩;unfold uD;rw [b];exact c m n hm hn
structure WD (tab:Nat->Option au) (base:Nat) (T0:Tm) (i:Nat) (ds:List ke) (s:DS) (Q:DS->Prop):Prop where
 run:wd tab base T0 i ds s Q
def Da:WD=wd:=by funext tab b T0 i ds s Q; exact propext ⟨fun h=>h.run,fun h=>⟨h⟩⟩
def AV.beq_refl':∀ v:AV,AV.beq v v=true:=by
 intro v
 induction v using AV.rec (motive_2:=fun l=>AV.beqs l l=true) with
 | undef=>rfl
 | bool b=>simp [AV.beq]
 | int k n=>simp [AV.beq]
 | str s=>simp [AV.beq]
 | nilPtr=>rfl
 | nilSl=>rfl
 | nilFn=>rfl
 | nilIf=>rfl
 | nilMap=>rfl
 | agg cs d=>simpa [AV.beq] using d
 | tup cs d=>simpa [AV.beq] using d
 | sl cs n d=>simpa [AV.beq] using d
 | dp cs n d=>simpa [AV.beq] using d
 | own b off n c sz ex=>simp [AV.beq]
 | ptr b off=>simp [AV.beq]
 | fn f a b e g=>simp [AV.beq,e,g]
 | ifc t v d=>simp [AV.beq,d]
 | map b=>simp [AV.beq]
 | loopv b=>simp [AV.beq]
 | nil=>rfl
 | cons a l e h=>simp [AV.beqs,e,h]
def mw (tab:Nat->Option au) (base:Nat) (T:Tm) (Cs:List Heap) (Es:List (Option Ent)) (op:AOp) (w:AV):List (Nat × List Nat)->Prop
 | []=>True
 | (k,adds) :: r=>nB tab (Src.ev T) (dJ base Es (Cs.getD k default) adds) 0 op (fun v _=>v=w)/\mw tab base T Cs Es op w r
def Ii (tab:Nat->Option au) (base:Nat) (T0:Tm) (Vs:List AV) (Cs:List Heap) (Es:List (Option Ent)) (i:Nat) (d:ke):Prop:=match d.cls with
 | 0=>match d.guard with
  | none=>uK d.op=true/\mw tab base (ct T0 Vs d.uses) Cs Es d.op (Vs.getD i .undef) d.looks
  | some p=>nt (ad (ct T0 Vs d.uses) p.1) p.2 (uK d.op=true/\mw tab base (ct T0 Vs d.uses) Cs Es d.op (Vs.getD i .undef) d.looks) True () ()
 | _+1=>True
def kQ (tab:Nat->Option au) (base:Nat) (T0:Tm) (Vs:List AV) (Cs:List Heap) (Es:List (Option Ent)):Nat->List ke->Prop
 | _,[]=>True
 | i,d :: ds=>Ii tab base T0 Vs Cs Es i d/\kQ tab base T0 Vs Cs Es (i+1) ds
def Hn (T:Tm) (t:Nat) (w:Bool):b9 T (some (t,w))=match ad T t with | .bool b=>some (b == w) | .tup []=>some false | _=>none:=by
 unfold ad;rw [qf];cases h:T[t]? with
 | none=>simp only [b9,h]; rfl
 | some v =>
  simp only [b9,h,XG];cases v with
  | tup vs=>cases vs <;> rfl
  | _=>rfl
def rB {base:Nat} {T:Tm} {Cs:List Heap} {Es:List (Option Ent)} {op:AOp} {w:AV} (a:uK op=true) (hp:aT (Src.ev T) op=none):∀ {looks:List (Nat × List Nat)},mw tab base T Cs Es op w looks->(looks.all fun p=>match bj (Src.ev T) (dJ base Es (Cs.getD p.1 default) p.2) 0 op with | some (v,_)=>AV.beq v w | none=>false)=true
 | [],_=>rfl
 | (k,adds) :: r,h=>by
  obtain ⟨h1,h2⟩:=h;obtain ⟨v,H',rfl,N,g⟩:=mQ h1.run;have g:=g N N (Jv _) (Jv _);have hh:bj (Src.ev T) (dJ base Es (Cs.getD k default) adds) 0 op=some (v,H'):=by
   cases op <;> first | (simp only [Ao,hp] at g; exact g) | (simp [uK,AOp.looks,AOp.isPure] at a; done)
  rw [List.all_cons,rB a hp h2];simp only [hh,AV.beq_refl',Bool.and_true]
def Ea {base:Nat} {T0:Tm} {s:DS} {i:Nat} {d:ke} (h:Ii tab base T0 s.Vs s.Cs s.Es i d):lu base T0 s i d=true:=by
 obtain ⟨dst,op,g,us,c,looks⟩:=d;cases c with
 | succ c=>rfl
 | zero =>
  cases g with
  | none =>
   obtain ⟨a,h1⟩:=h;unfold lu;simp only [show b9 (ct T0 s.Vs us) none=some true from rfl];cases hp:aT (Src.ev (ct T0 s.Vs us)) op with
   | some v=>rfl
   | none=>exact rB a hp h1
  | some p =>
   obtain ⟨t,w⟩:=p;unfold Ii nt at h;simp only at h;unfold lu;simp only [Hn];cases hg:ad (ct T0 s.Vs us) t with
   | bool b =>
    rw [hg] at h;simp only at h;by_cases hb:b=w
    ·rw [if_pos hb] at h;subst hb;simp only [beq_self_eq_true];cases hp:aT (Src.ev (ct T0 s.Vs us)) op with
     | some v=>rfl
     | none=>exact rB h.1 hp h.2
    ·have:(b == w)=false:=by simpa using hb
     simp only [this]
   | tup vs=>cases vs <;> rfl
   | _=>rw [hg] at h; exact h.elim
def vB {base:Nat} {T0:Tm} {s:DS}:∀ (ds:List ke) (i:Nat),kQ tab base T0 s.Vs s.Cs s.Es i ds->Va base T0 s i ds=true
 | [],i,_=>rfl
 | d :: ds,i,h=>by
  unfold Va;rw [vB ds _ h.2,Ea h.1]; rfl
def TR (tab:Nat->Option au) (base:Nat) (T0:Tm) (ds:List ke) (late:List Nat) (Q:Tm->Heap->Prop) (s:DS):Prop:=kQ tab base T0 s.Vs s.Cs s.Es 0 ds/\Q (gT T0 ds s.Vs) (dJ base s.Es (s.Cs.getLastD default) late)
def aJ {rd:Bool} {ds:List ke} {late:List Nat} {T:Tm} {H:Heap} {Q:Ex->Tm->Heap->Prop} (h:WD tab H.next T 0 ds ⟨[],[H.up ds.length],[]⟩ (TR tab H.next T ds late (Q .nrm))):WC tab rd (.draw ds late) T H Q:=by
 obtain ⟨s,⟨hs,hq⟩,N,g⟩:=zq _ _ _ _ h.run;have hs:=vB _ _ hs;refine ⟨.nrm,_,_,⟨N,fun m n hm hn=>?_⟩,hq⟩;simp only [aM,Gn];rw [show ({ H with next:=H.next+ds.length }:Heap)=H.up ds.length from rfl,g m n hm hn];simp only [hs,if_true]
variable {base i k:Nat} {T0:Tm} {dst:Option Nat} {op:AOp} {us:List (Nat × Option Nat)} {adds:List Nat} {r:List (Nat × List Nat)} {ds:List ke} {Vs:List AV} {Cs:List Heap} {Es:List (Option Ent)} {Q:DS->Prop}
theorem RX:WD tab base T0 i [] ⟨Vs,Cs,Es⟩ Q=Q ⟨Vs,Cs,Es⟩:=by rw [Da]; rfl
theorem PX:WD tab base T0 i (⟨dst,op,none,us,0,(k,adds) :: r⟩ :: ds) ⟨Vs,Cs,Es⟩ Q=(uK op=true/\nB tab (Src.ev (ct T0 Vs us)) (dJ base Es (Cs.getD k default) adds) 0 op fun v _=>WD tab base T0 (i+1) ds ⟨Vs++[v],Cs,Es++[none]⟩ Q):=by rw [Da]; rfl
def PW:WD tab base T0 i (⟨dst,op,none,us,1,r⟩ :: ds) ⟨Vs,Cs,Es⟩ Q=(op.makes=true/\nB tab (Src.ev (ct T0 Vs us)) (Heap.nil 0) (base+i) op fun v H'=>WD tab base T0 (i+1) ds ⟨Vs++[v],Cs,Es++[H'.get (base+i)]⟩ Q):=by
 rw [Da]
 conv=>lhs; unfold wd
 cases r <;> rfl
theorem RY:WD tab base T0 i (⟨dst,op,none,us,2,[(k,adds)]⟩ :: ds) ⟨Vs,Cs,Es⟩ Q=nB tab (Src.ev (ct T0 Vs us)) (dJ base Es (Cs.getD k default) adds) (base+i) op fun v H'=>WD tab base T0 (i+1) ds ⟨Vs++[v],Cs++[H'],Es++[none]⟩ Q:=by rw [Da]; rfl
def MY {t:Nat} {w:Bool}:WD tab base T0 i (⟨dst,op,some (t,w),us,0,(k,adds) :: r⟩ :: ds) ⟨Vs,Cs,Es⟩ Q =
  nt (ad (ct T0 Vs us) t) w (uK op=true/\nB tab (Src.ev (ct T0 Vs us)) (dJ base Es (Cs.getD k default) adds) 0 op fun v _=>WD tab base T0 (i+1) ds ⟨Vs++[v],Cs,Es++[none]⟩ Q) (WD tab base T0 (i+1) ds ⟨Vs++[.tup []],Cs,Es++[none]⟩ Q) () ():=by
 rw [Da];have a:b9 (ct T0 Vs us) (some (t,w))=match ad (ct T0 Vs us) t with | .bool b=>some (b == w) | .tup []=>some false | _=>none:=by
  generalize ct T0 Vs us=T
  unfold ad;rw [qf];cases h:T[t]? with
  | none=>simp only [b9,h]; rfl
  | some v =>
   simp only [b9,h,XG];cases v with
   | tup vs=>cases vs <;> rfl
   | _=>rfl
 conv=>lhs; unfold wd
 simp only [a,nt];cases ad (ct T0 Vs us) t with
 | bool b=>cases b <;> cases w <;> rfl
 | tup vs=>cases vs <;> rfl
 | _=>rfl
theorem M7 (T0:Tm) (Vs:List AV):ct T0 Vs []=List.replicate T0.length .undef:=rfl
theorem M6 (T0:Tm) (Vs:List AV) (u:Nat × Option Nat):ct T0 Vs [u]=(List.replicate T0.length .undef).set u.1 (nC T0 Vs u):=rfl
theorem M5 (T0:Tm) (Vs:List AV) (u v:Nat × Option Nat):ct T0 Vs [u,v]=((List.replicate T0.length .undef).set u.1 (nC T0 Vs u)).set v.1 (nC T0 Vs v):=rfl
theorem Ht (T0:Tm) (Vs:List AV) (u v w:Nat × Option Nat):ct T0 Vs [u,v,w]=(((List.replicate T0.length .undef).set u.1 (nC T0 Vs u)).set v.1 (nC T0 Vs v)).set w.1 (nC T0 Vs w):=rfl
theorem M3 (T0:Tm) (Vs:List AV) (n:Nat):nC T0 Vs (n,none)=ad T0 n:=rfl
theorem M4 (T0:Tm) (Vs:List AV) (n j:Nat):nC T0 Vs (n,some j)=Vs.getD j .undef:=rfl
theorem sY (base:Nat) (Es:List (Option Ent)) (C:Heap):dJ base Es C []=C:=rfl
theorem qq (base:Nat) (Es:List (Option Ent)) (C:Heap) (a:Nat) (l:List Nat):dJ base Es C (a :: l)=dJ base Es (match Es.getD a none with | some e=>C.put (base+a) e | none=>C) l:=rfl
theorem jl (T:Tm) (d:ke) (ds:List ke) (v:AV) (vs:List AV):gT T (d :: ds) (v :: vs)=gT (putT T d.dst v) ds vs:=rfl
theorem kK (T:Tm) (vs:List AV):gT T [] vs=T:=by cases vs <;> rfl
theorem QQ {base:Nat} {T0:Tm} {ds:List ke} {late:List Nat} {Q:Tm->Heap->Prop}:TR tab base T0 ds late Q ⟨Vs,Cs,Es⟩=(kQ tab base T0 Vs Cs Es 0 ds/\Q (gT T0 ds Vs) (dJ base Es (Cs.getLastD default) late)):=rfl
theorem SD {Vs:List AV} {Cs:List Heap} {Es:List (Option Ent)} {i:Nat}:kQ tab base T0 Vs Cs Es i []=True:=rfl
def QA {g:Option (Nat × Bool)} {r:List (Nat × List Nat)}:kQ tab base T0 Vs Cs Es i (⟨dst,op,g,us,1,r⟩ :: ds)=kQ tab base T0 Vs Cs Es (i+1) ds:=by
 show (True/\_)=_
 simp
def Qz {g:Option (Nat × Bool)} {r:List (Nat × List Nat)}:kQ tab base T0 Vs Cs Es i (⟨dst,op,g,us,2,r⟩ :: ds)=kQ tab base T0 Vs Cs Es (i+1) ds:=by
 show (True/\_)=_
 simp
theorem Qy {r:List (Nat × List Nat)}:kQ tab base T0 Vs Cs Es i (⟨dst,op,none,us,0,r⟩ :: ds)=((uK op=true/\mw tab base (ct T0 Vs us) Cs Es op (Vs.getD i .undef) r)/\kQ tab base T0 Vs Cs Es (i+1) ds):=rfl
theorem Od {t:Nat} {w:Bool} {r:List (Nat × List Nat)}:kQ tab base T0 Vs Cs Es i (⟨dst,op,some (t,w),us,0,r⟩ :: ds)=(nt (ad (ct T0 Vs us) t) w (uK op=true/\mw tab base (ct T0 Vs us) Cs Es op (Vs.getD i .undef) r) True () ()/\kQ tab base T0 Vs Cs Es (i+1) ds):=rfl
theorem SG {T:Tm} {w:AV}:mw tab base T Cs Es op w []=True:=rfl
theorem QD {T:Tm} {w:AV} {r:List (Nat × List Nat)}:mw tab base T Cs Es op w ((k,adds) :: r)=(nB tab (Src.ev T) (dJ base Es (Cs.getD k default) adds) 0 op (fun v _=>v=w)/\mw tab base T Cs Es op w r):=rfl
theorem RB {x:Src}:uK (.mv x)=true:=rfl
theorem Mz {a b c:Src}:uK (.pick a b c)=true:=rfl
theorem Kh {z:List AV} {ps:List ((Nat × Nat) × Src)}:uK (.build z ps)=true:=rfl
theorem Kf {x:Src}:uK (.nilCheck x)=true:=rfl
theorem Py {o:BinOp} {k:BK} {x y:Src}:uK (.bin o k x y)=true:=rfl
theorem RA {o:UnOp} {x:Src}:uK (.un o x)=true:=rfl
theorem MC {k:IntKind} {x:Src}:uK (.conv k x)=true:=rfl
theorem MA {f:Fn} {a b:List Src}:uK (.mkfn f a b)=true:=rfl
theorem Ke {n:Nat} {x:Src} {a b c:Option Src}:uK (.slice n x a b c)=true:=rfl
theorem RC {n:Nat} {x:Src}:uK (.fieldAddr n x)=true:=rfl
theorem Kg {k:Option Nat} {n:Nat} {x:Src}:uK (.field k n x)=true:=rfl
theorem Pw {n:Nat} {x y:Src}:uK (.indexAddr n x y)=true:=rfl
theorem Px {n:Nat} {x:Src}:uK (.extract n x)=true:=rfl
theorem Pv {x:Src}:uK (.len x)=true:=rfl
theorem MB {k:Option Nat} {x:Src}:uK (.load k x)=true:=rfl
theorem Pt {xs:List Src}:uK (.min xs)=true:=rfl
theorem Pu {xs:List Src}:uK (.max xs)=true:=rfl
theorem Lj {n:Nat} {z:List AV}:AOp.makes (.alloc n z)=true:=rfl
theorem Qx {n:Nat} {x:Src}:AOp.makes (.box n x)=true:=rfl
theorem SB {n m k:Nat} {z:List AV} {ps:List ((Nat × Nat) × Src)}:AOp.makes (.buildSlice n m z k ps)=true:=rfl
theorem Ob {n m k:Nat} {z:List AV} {a b:Src}:AOp.makes (.mksl n m k z a b)=true:=rfl
end
def aB {c d:Prop} (a:c) (b:d):c/\d:=⟨a,b⟩
def aC {d e f:Prop} (a:d) (b:e) (c:f):d/\e/\f:=⟨a,b,c⟩
def aZ {e f g h:Prop} (a:e) (b:f) (c:g) (d:h):e/\f/\g/\h:=⟨a,b,c,d⟩
def cn {f g h i j:Prop} (a:f) (b:g) (c:h) (d:i) (e:j):f/\g/\h/\i/\j:=⟨a,b,c,d,e⟩
def fy {g h i j k l:Prop} (a:g) (b:h) (c:i) (d:j) (e:k) (f:l):g/\h/\i/\j/\k/\l:=⟨a,b,c,d,e,f⟩
def ip {h i j k l m G1:Prop} (a:h) (b:i) (c:j) (d:k) (e:l) (f:m) (g:G1):h/\i/\j/\k/\l/\m/\G1:=⟨a,b,c,d,e,f,g⟩
def lp {i j k l m n G1 o:Prop} (a:i) (b:j) (c:k) (d:l) (e:m) (f:n) (g:G1) (h:o):i/\j/\k/\l/\m/\n/\G1/\o:=⟨a,b,c,d,e,f,g,h⟩
def lh {j k l m n o G1 p q:Prop} (a:j) (b:k) (c:l) (d:m) (e:n) (f:o) (g:G1) (h:p) (i:q):j/\k/\l/\m/\n/\o/\G1/\p/\q:=⟨a,b,c,d,e,f,g,h,i⟩
def pD {k l m n o p G1 q r s:Prop} (a:k) (b:l) (c:m) (d:n) (e:o) (f:p) (g:G1) (h:q) (i:r) (j:s):k/\l/\m/\n/\o/\p/\G1/\q/\r/\s:=⟨a,b,c,d,e,f,g,h,i,j⟩
def mo {l m n o p q G1 r s t u:Prop} (a:l) (b:m) (c:n) (d:o) (e:p) (f:q) (g:G1) (h:r) (i:s) (j:t) (k:u):l/\m/\n/\o/\p/\q/\G1/\r/\s/\t/\u:=⟨a,b,c,d,e,f,g,h,i,j,k⟩
def BL {m n o p q r G1 s t u v w:Prop} (a:m) (b:n) (c:o) (d:p) (e:q) (f:r) (g:G1) (h:s) (i:t) (j:u) (k:v) (l:w):m/\n/\o/\p/\q/\r/\G1/\s/\t/\u/\v/\w:=⟨a,b,c,d,e,f,g,h,i,j,k,l⟩
def E0 {n o p q r s G1 t u v w x y:Prop} (a:n) (b:o) (c:p) (d:q) (e:r) (f:s) (g:G1) (h:t) (i:u) (j:v) (k:w) (l:x) (m:y):n/\o/\p/\q/\r/\s/\G1/\t/\u/\v/\w/\x/\y:=⟨a,b,c,d,e,f,g,h,i,j,k,l,m⟩
def Dd {o p q r s t G1 u v w x y z A:Prop} (a:o) (b:p) (c:q) (d:r) (e:s) (f:t) (g:G1) (h:u) (i:v) (j:w) (k:x) (l:y) (m:z) (n:A):o/\p/\q/\r/\s/\t/\G1/\u/\v/\w/\x/\y/\z/\A:=⟨a,b,c,d,e,f,g,h,i,j,k,l,m,n⟩
def ME {p q r s t u G1 v w x y z A B C:Prop} (a:p) (b:q) (c:r) (d:s) (e:t) (f:u) (g:G1) (h:v) (i:w) (j:x) (k:y) (l:z) (m:A) (n:B) (o:C):p/\q/\r/\s/\t/\u/\G1/\v/\w/\x/\y/\z/\A/\B/\C:=⟨a,b,c,d,e,f,g,h,i,j,k,l,m,n,o⟩
def Ug {q r s t u v G1 w x y z A B C D E:Prop} (a:q) (b:r) (c:s) (d:t) (e:u) (f:v) (g:G1) (h:w) (i:x) (j:y) (k:z) (l:A) (m:B) (n:C) (o:D) (p:E):q/\r/\s/\t/\u/\v/\G1/\w/\x/\y/\z/\A/\B/\C/\D/\E:=⟨a,b,c,d,e,f,g,h,i,j,k,l,m,n,o,p⟩
def PA {r s t u v w G1 x y z A B C D E F G:Prop} (a:r) (b:s) (c:t) (d:u) (e:v) (f:w) (g:G1) (h:x) (i:y) (j:z) (k:A) (l:B) (m:C) (n:D) (o:E) (p:F) (q:G):r/\s/\t/\u/\v/\w/\G1/\x/\y/\z/\A/\B/\C/\D/\E/\F/\G:=⟨a,b,c,d,e,f,g,h,i,j,k,l,m,n,o,p,q⟩
def Pz {s t u v w x G1 y z A B C D E F G H I:Prop} (a:s) (b:t) (c:u) (d:v) (e:w) (f:x) (g:G1) (h:y) (i:z) (j:A) (k:B) (l:C) (m:D) (n:E) (o:F) (p:G) (q:H) (r:I):s/\t/\u/\v/\w/\x/\G1/\y/\z/\A/\B/\C/\D/\E/\F/\G/\H/\I:=⟨a,b,c,d,e,f,g,h,i,j,k,l,m,n,o,p,q,r⟩
def RD {t u v w x y G1 z A B C D E F G H I J K:Prop} (a:t) (b:u) (c:v) (d:w) (e:x) (f:y) (g:G1) (h:z) (i:A) (j:B) (k:C) (l:D) (m:E) (n:F) (o:G) (p:H) (q:I) (r:J) (s:K):t/\u/\v/\w/\x/\y/\G1/\z/\A/\B/\C/\D/\E/\F/\G/\H/\I/\J/\K:=⟨a,b,c,d,e,f,g,h,i,j,k,l,m,n,o,p,q,r,s⟩
def Uf {u v w x y z G1 A B C D E F G H I J K L T1:Prop} (a:u) (b:v) (c:w) (d:x) (e:y) (f:z) (g:G1) (h:A) (i:B) (j:C) (k:D) (l:E) (m:F) (n:G) (o:H) (p:I) (q:J) (r:K) (s:L) (t:T1):u/\v/\w/\x/\y/\z/\G1/\A/\B/\C/\D/\E/\F/\G/\H/\I/\J/\K/\L/\T1:=⟨a,b,c,d,e,f,g,h,i,j,k,l,m,n,o,p,q,r,s,t⟩
def Te {v w x y z A G1 B C D E F G H I J K L M T1 N:Prop} (a:v) (b:w) (c:x) (d:y) (e:z) (f:A) (g:G1) (h:B) (i:C) (j:D) (k:E) (l:F) (m:G) (n:H) (o:I) (p:J) (q:K) (r:L) (s:M) (t:T1) (u:N):v/\w/\x/\y/\z/\A/\G1/\B/\C/\D/\E/\F/\G/\H/\I/\J/\K/\L/\M/\T1/\N:=⟨a,b,c,d,e,f,g,h,i,j,k,l,m,n,o,p,q,r,s,t,u⟩
def Td {w x y z A B G1 C D E F G H I J K L M N T1 O P:Prop} (a:w) (b:x) (c:y) (d:z) (e:A) (f:B) (g:G1) (h:C) (i:D) (j:E) (k:F) (l:G) (m:H) (n:I) (o:J) (p:K) (q:L) (r:M) (s:N) (t:T1) (u:O) (v:P):w/\x/\y/\z/\A/\B/\G1/\C/\D/\E/\F/\G/\H/\I/\J/\K/\L/\M/\N/\T1/\O/\P:=⟨a,b,c,d,e,f,g,h,i,j,k,l,m,n,o,p,q,r,s,t,u,v⟩
def wD:=BU (BU (BU (BU (BU (BU (@Nw) (@Nv)) (BU (@KN) (@KM))) (BU (BU (@O7) (@O6)) (BU (@Mb) (@Mc)))) (BU (BU (BU (@Ny) (@Nx)) (BU (@KP) (@FU))) (BU (BU (@Of) (@Lt)) (BU (@Lr) (BU (@PB) (@RE)))))) (BU (BU (BU (BU (@PK) (@E5)) (BU (@PI) (@PH))) (BU (BU (@RF) (@MH)) (BU (@PF) (@MI)))) (BU (BU (BU (@VG) (@De)) (BU (@Rg) (@PE))) (BU (BU (@MO) (@PL)) (BU (@Cy) (BU (@AK) (@GF))))))) (BU (BU (BU (BU (BU (@Bc) (@PC)) (BU (@Hi) (@Tf))) (BU (BU (@PJ) (@RI)) (BU (@RJ) (@Th)))) (BU (BU (BU (@ML) (@RK)) (BU (@MN) (@MJ))) (BU (BU (@MG) (@PG)) (BU (@MF) (BU (@RM) (@Tg)))))) (BU (BU (BU (BU (@BM) (@RL)) (BU (@RH) (@RG))) (BU (BU (@Hg) (@Kj)) (BU (@NG) (BU (@NF) (@OA))))) (BU (BU (BU (@Oz) (@LH)) (BU (@LI) (@PU))) (BU (BU (@PT) (@MW)) (BU (@MX) (BU (@MM) (@E3)))))))
def wC:=BU (BU (BU (BU (BU (BU (BU (@wS) (@Cy)) (BU (@AK) (@GF))) (BU (BU (@Bc) (@IL)) (BU (@DH) (BU (@I8) (@LB))))) (BU (BU (BU (@SR) (@TQ)) (BU (@jk) (BU (@mI) (@Xz)))) (BU (BU (@Q4) (@QZ)) (BU (@Ka) (BU (@Q0) (@Q2)))))) (BU (BU (BU (BU (@Q3) (@OU)) (BU (@Lc) (BU (@R8) (@Q6)))) (BU (BU (@Q5) (@D6)) (BU (@zd) (BU (@S0) (@QY))))) (BU (BU (BU (@List.length_set.{0}) (BU (@if_true.{1}) (@if_true.{0}))) (BU (BU (@if_false.{1}) (@if_false.{0})) (BU (@List.length_cons.{0}) (@List.length_nil.{0})))) (BU (BU (@List.map_cons.{0,0}) (@List.map_nil.{0,0})) (BU (@List.append_nil.{0}) (BU (@List.nil_append.{0}) (@List.cons_append.{0}))))))) (BU (BU (BU (BU (BU (@Option.map_some.{0,0}) (@Option.map_none.{0,0})) (BU (@ZJ) (BU (@Bool.not_false) (@Bool.not_eq_true)))) (BU (BU (@decide_eq_true_eq) (@XA)) (BU (@decide_eq_false_iff_not) (BU (@Xs) (@true_or))))) (BU (BU (BU (@or_true) (@true_and)) (BU (@and_true) (BU (@false_or) (@or_false)))) (BU (BU (@ne_eq.{1}) (@not_false_eq_true)) (BU (@not_true_eq_false) (BU (@eq_self.{1}) (@Xg)))))) (BU (BU (BU (BU (@Ye) (@F7)) (BU (@Is) (BU (@IK) (@Gz)))) (BU (BU (@Tn) (@Ss)) (BU (@QG) (BU (@bL) (@next_put))))) (BU (BU (BU (@next_kill) (@Sn)) (BU (@Sl) (BU (@Sk) (@NC)))) (BU (BU (@KV) (@NH)) (BU (@KC) (BU (@KB) (@Eg)))))))) (BU (BU (BU (BU (BU (BU (@Cv) (@SM)) (BU (@am) (BU (@aw) (@cH)))) (BU (BU (@Sg) (@Og)) (BU (@UM) (BU (@UL) (@UK))))) (BU (BU (BU (@Ui) (@Uh)) (BU (@Rp) (BU (@TP) (@EK)))) (BU (BU (@BA) (@TX)) (BU (@aF) (BU (@bi) (@bB)))))) (BU (BU (BU (BU (@cK) (@bS)) (BU (@Nat.add_eq) (BU (@List.take_zero.{0}) (@List.drop_zero.{0})))) (BU (BU (@List.take_succ_cons.{0}) (@List.drop_succ_cons.{0})) (BU (@List.append_eq.{0}) (BU (@decide_true) (@decide_false))))) (BU (BU (BU (@Bool.and_true) (@Bool.and_false)) (BU (@Bool.true_and) (BU (@Bool.false_and) (@Int.lt_irrefl)))) (BU (BU (@Ts) (@Uj)) (BU (@Lm) (BU (@List.set_cons_zero.{0}) (@List.set_cons_succ.{0}))))))) (BU (BU (BU (BU (BU (@Int.ofNat_lt) (@Int.ofNat_le)) (BU (@Int.natCast_inj) (BU (@Int.natCast_pos) (@HL)))) (BU (BU (@KZ) (@List.zip_cons_cons.{0,0})) (BU (@List.zip_nil_left.{0,0}) (BU (@List.zip_nil_right.{0,0}) (@Uu))))) (BU (BU (BU (@Ut) (@Us)) (BU (@SQ) (BU (@LK) (@Qt)))) (BU (BU (@Sx) (@SN)) (BU (@AR) (BU (@SZ) (@SS)))))) (BU (BU (BU (BU (@R9) (@Mi)) (BU (@Md) (BU (@Mf) (@Mh)))) (BU (BU (@xH) (@xG)) (BU (@IP) (BU (@Me) (@pm))))) (BU (BU (BU (@Lw) (@Dt)) (BU (@nr) (BU (@iB) (@Ef)))) (BU (BU (@SK) (@XP)) (BU (@Uo) (BU (@Un) (@TO))))))))
def Tc:=BU (BU (BU (@RX) (BU (@PX) (@MY))) (BU (@PW) (BU (@RY) (@QQ)))) (BU (BU (@SD) (BU (@QA) (@Qz))) (BU (BU (@Qy) (@Od)) (BU (@SG) (@QD))))
def Tb:=BU (BU (BU (BU (BU (@M7) (@M6)) (BU (@M5) (@Ht))) (BU (BU (@M3) (@M4)) (BU (@sY) (BU (@qq) (@jl))))) (BU (BU (BU (@kK) (@List.length_replicate.{0})) (BU (@List.getD_cons_zero.{0}) (@List.getD_cons_succ.{0}))) (BU (BU (@List.getLastD_cons.{0}) (@List.getLastD_nil.{0})) (BU (@RB) (BU (@Mz) (@Kh)))))) (BU (BU (BU (BU (@Kf) (@Py)) (BU (@RA) (@MC))) (BU (BU (@MA) (@Ke)) (BU (@RC) (BU (@Kg) (@Pw))))) (BU (BU (BU (@Px) (@Pv)) (BU (@MB) (@Pt))) (BU (BU (@Pu) (@Lj)) (BU (@Qx) (BU (@SB) (@Ob))))))
def UI:=BU (BU (@SI) (@QE)) (BU (@TG) (BU (@SH) (@QF)))
def UJ:=BU (@RW) (BU (@Tk) (@PV))
def zW {F P Q:Prop} (f:F) (q:Q) (h:F->Q->P:=by intro h q; simp -dsimp (maxSteps:=1000000) (disch:=(first | omega | assumption | exact aF _ | exact bi _ _ | exact bB | exact cK _ _ _ | exact bS _ _ | exact bJ _ _ _ _ _ _ | exact cQ _ _ | exact bX _)) only [↓wD,wC,Nat.reduceLT,Nat.reduceEqDiff,Nat.reduceAdd,reduceIte,reduceCtorEq,Nat.reduceBEq,Int.reduceEq,Int.reduceLT,Int.reduceLE,Int.reduceAdd,Int.reduceSub,h]; exact q):P:=h f q
def yY {P Q:Prop} (q:Q) (h:Q->P:=by intro q; simp -dsimp (maxSteps:=1000000) (disch:=(first | omega | assumption | exact aF _ | exact bi _ _ | exact bB | exact cK _ _ _ | exact bS _ _ | exact bJ _ _ _ _ _ _ | exact cQ _ _ | exact bX _)) only [↓wD,wC,Nat.reduceLT,Nat.reduceEqDiff,Nat.reduceAdd,reduceIte,reduceCtorEq,Nat.reduceBEq,Int.reduceEq,Int.reduceLT,Int.reduceLE,Int.reduceAdd,Int.reduceSub]; exact q):P:=h q
def zV {F P:Prop} (f:F) (h:F->P:=by intro h; simp -dsimp (maxSteps:=1000000) (disch:=(first | omega | assumption | exact aF _ | exact bi _ _ | exact bB | exact cK _ _ _ | exact bS _ _ | exact bJ _ _ _ _ _ _ | exact cQ _ _ | exact bX _)) only [↓wD,wC,Nat.reduceLT,Nat.reduceEqDiff,Nat.reduceAdd,reduceIte,reduceCtorEq,Nat.reduceBEq,Int.reduceEq,Int.reduceLT,Int.reduceLE,Int.reduceAdd,Int.reduceSub,h]):P:=h f
def cY {P:Prop} (h:P:=by simp -dsimp (maxSteps:=1000000) (disch:=(first | omega | assumption | exact aF _ | exact bi _ _ | exact bB | exact cK _ _ _ | exact bS _ _ | exact bJ _ _ _ _ _ _ | exact cQ _ _ | exact bX _)) only [↓wD,wC,Nat.reduceLT,Nat.reduceEqDiff,Nat.reduceAdd,reduceIte,reduceCtorEq,Nat.reduceBEq,Int.reduceEq,Int.reduceLT,Int.reduceLE,Int.reduceAdd,Int.reduceSub]):P:=h
def zD {F P Q:Prop} (f:F) (q:Q) (h:F->Q->P:=by intro h q; simp -dsimp (maxSteps:=1000000) (disch:=(first | omega | assumption | exact aF _ | exact bi _ _ | exact bB | exact cK _ _ _ | exact bS _ _ | exact bJ _ _ _ _ _ _ | exact cQ _ _ | exact bX _)) only [↓wD,wC,↓Tc,Tb,Nat.reduceLT,Nat.reduceEqDiff,Nat.reduceAdd,reduceIte,reduceCtorEq,Nat.reduceBEq,Int.reduceEq,Int.reduceLT,Int.reduceLE,Int.reduceAdd,Int.reduceSub,h]; exact q):P:=h f q
def zE {F P:Prop} (f:F) (h:F->P:=by intro h; simp -dsimp (maxSteps:=1000000) (disch:=(first | omega | assumption | exact aF _ | exact bi _ _ | exact bB | exact cK _ _ _ | exact bS _ _ | exact bJ _ _ _ _ _ _ | exact cQ _ _ | exact bX _)) only [↓wD,wC,↓Tc,Tb,Nat.reduceLT,Nat.reduceEqDiff,Nat.reduceAdd,reduceIte,reduceCtorEq,Nat.reduceBEq,Int.reduceEq,Int.reduceLT,Int.reduceLE,Int.reduceAdd,Int.reduceSub,h]):P:=h f
def zK {P:Prop} (h:P:=by first | assumption | simp (disch:=(first | omega | assumption | (simp only [bL,next_put,next_kill]; omega))) only [UI] <;> assumption):P:=h
def zF {P:Prop} (h:P:=by first | assumption | simp (disch:=(first | omega | assumption | (simp only [bL,next_put,next_kill]; omega))) only [UJ] <;> assumption):P:=h
def zU {P:Prop} (h:P:=by decide):P:=h
def zG (A:Heap) {G:Heap} (h:Kp A G:=by first | assumption | simp (disch:=(first | omega | assumption | (simp only [bL,next_put,next_kill]; omega))) only [UI] <;> assumption):Sub A G:=h.sub
def zT (A:Heap) {G C:Heap} (h:Kp A G) (h2:Kp G C):Kp A C/\A.next<=C.next/\Wf C:=⟨h.trans h2,(h.trans h2).le,h2.wf⟩
set_option maxRecDepth 100000
abbrev ol:Nat:=4
abbrev fQ:Nat:=5
abbrev gF:Nat:=6
abbrev dQ:Nat:=11
abbrev Vd:Nat:=12
abbrev nM:Nat:=7
abbrev U4:Nat:=13
abbrev lz:Nat:=8
abbrev vS:Nat:=14
abbrev nL:Nat:=10
abbrev VB:Nat:=15
abbrev vp:Nat:=16
abbrev gG:Nat:=17
abbrev eY:Nat:=19
abbrev iP:Nat:=18
abbrev dR:Nat:=20
abbrev ph:Nat:=21
abbrev fP:Nat:=22
abbrev fO:Nat:=37
abbrev pR:Nat:=23
abbrev Vf:Nat:=38
abbrev Vi:Nat:=39
abbrev U6:Nat:=40
abbrev jI:Nat:=24
abbrev gf:Nat:=27
abbrev dC:Nat:=26
abbrev jJ:Nat:=28
abbrev i9:Nat:=32
abbrev fo:Nat:=31
abbrev rx:Nat:=30
abbrev dO:Nat:=35
abbrev iL:Nat:=34
abbrev g8:Nat:=36
abbrev Vc:Nat:=41
abbrev ul:Nat:=42
abbrev gA:Nat:=43
abbrev gy:Nat:=9
abbrev fS:Nat:=44
abbrev e9:Nat:=45
abbrev ly:Nat:=46
abbrev oL:Nat:=48
abbrev ru:Nat:=47
abbrev fM:Nat:=49
abbrev ry:Nat:=50
abbrev fR:Nat:=51
abbrev eZ:Nat:=52
abbrev ni:Nat:=53
abbrev rv:Nat:=54
abbrev Vn:Nat:=60
abbrev da:Nat:=25
abbrev cR:Nat:=29
abbrev aO:Nat:=59
abbrev gW:Nat:=57
abbrev dj:Nat:=58
abbrev Au:Nat:=62
abbrev pM:Nat:=61
abbrev iN:Nat:=63
abbrev gB:Nat:=33
abbrev eI:Nat:=65
abbrev bQ:Nat:=64
abbrev eH:Nat:=67
abbrev rt:Nat:=68
abbrev rA:Nat:=69
abbrev bO:Nat:=70
abbrev kO:Nat:=71
abbrev pV:Nat:=72
abbrev fN:Nat:=73
abbrev gZ:Nat:=74
abbrev gY:Nat:=76
abbrev aY:Nat:=77
abbrev aX:Nat:=78
abbrev eF:Nat:=80
abbrev bP:Nat:=79
abbrev eE:Nat:=81
abbrev uo:Nat:=75
abbrev sJ:Nat:=86
abbrev pN:Nat:=87
abbrev dm:Nat:=83
abbrev lV:Nat:=85
abbrev dF:Nat:=84
abbrev pS:Nat:=88
abbrev iO:Nat:=89
abbrev eC:Nat:=55
abbrev eB:Nat:=56
abbrev nI:Nat:=66
abbrev lS:Nat:=90
abbrev nj:Nat:=94
abbrev rz:Nat:=95
abbrev ux:Nat:=96
abbrev db:Nat:=97
abbrev nh:Nat:=98
abbrev oH:Nat:=99
abbrev dz:Nat:=100
abbrev jK:Nat:=101
abbrev ca:Nat:=103
abbrev cd:Nat:=106
abbrev bp:Nat:=104
abbrev jD:Nat:=105
abbrev oB:Nat:=119
abbrev oA:Nat:=121
abbrev wU:Nat:=120
abbrev kY:Nat:=93
abbrev pL:Nat:=122
abbrev nK:Nat:=117
abbrev gL:Nat:=118
abbrev br:Nat:=108
abbrev gc:Nat:=109
abbrev ee:Nat:=110
abbrev fg:Nat:=111
abbrev eR:Nat:=112
abbrev cS:Nat:=113
abbrev nk:Nat:=114
abbrev dM:Nat:=115
abbrev fD:Nat:=116
abbrev cy:Nat:=123
abbrev gC:Nat:=82
abbrev cj:Nat:=91
abbrev nf:Nat:=92
abbrev mr:Nat:=126
abbrev gI:Nat:=127
abbrev jh:Nat:=130
abbrev iQ:Nat:=131
abbrev oF:Nat:=132
abbrev jg:Nat:=134
abbrev um:Nat:=133
abbrev wW:Nat:=102
abbrev dl:Nat:=139
abbrev ri:Nat:=148
abbrev rk:Nat:=147
abbrev nJ:Nat:=125
abbrev fZ:Nat:=141
abbrev jp:Nat:=142
abbrev iT:Nat:=143
abbrev dN:Nat:=144
abbrev gV:Nat:=145
abbrev lW:Nat:=146
abbrev gD:Nat:=107
abbrev cB:Nat:=124
abbrev pY:Nat:=129
abbrev lB:Nat:=128
abbrev fp:Nat:=149
abbrev nN:Nat:=150
abbrev pW:Nat:=152
abbrev Vj:Nat:=151
abbrev nH:Nat:=153
abbrev cI:Nat:=155
abbrev cC:Nat:=154
abbrev gM:Nat:=156
abbrev rl:Nat:=160
abbrev pQ:Nat:=162
abbrev ng:Nat:=161
abbrev mZ:Nat:=157
abbrev oC:Nat:=158
abbrev bg:Nat:=136
abbrev pP:Nat:=137
abbrev lU:Nat:=173
abbrev xd:Nat:=175
abbrev rf:Nat:=174
abbrev gU:Nat:=172
abbrev gE:Nat:=140
abbrev rm:Nat:=176
abbrev uw:Nat:=177
abbrev rh:Nat:=179
abbrev wV:Nat:=178
abbrev m6:Nat:=180
abbrev oG:Nat:=181
abbrev cA:Nat:=182
abbrev oD:Nat:=183
abbrev nd:Nat:=184
abbrev oE:Nat:=186
abbrev cw:Nat:=159
abbrev rj:Nat:=138
abbrev iM:Nat:=193
abbrev oJ:Nat:=192
abbrev wZ:Nat:=190
abbrev wY:Nat:=191
abbrev pO:Nat:=194
abbrev xe:Nat:=197
abbrev oy:Nat:=185
abbrev ft:Nat:=199
abbrev rg:Nat:=171
abbrev pU:Nat:=205
abbrev rr:Nat:=206
abbrev xc:Nat:=208
abbrev ut:Nat:=207
abbrev Av:Nat:=209
abbrev oI:Nat:=201
abbrev pT:Nat:=202
abbrev jH:Nat:=203
abbrev jE:Nat:=204
abbrev oK:Nat:=211
abbrev xg:Nat:=212
abbrev kN:Nat:=198
abbrev jF:Nat:=214
abbrev ur:Nat:=215
abbrev rp:Nat:=213
abbrev oM:Nat:=217
abbrev uv:Nat:=218
abbrev dP:Nat:=219
abbrev At:Nat:=220
abbrev gH:Nat:=221
abbrev g9:Nat:=222
abbrev hZ:Nat:=223
abbrev uu:Nat:=225
abbrev uq:Nat:=224
abbrev U5:Nat:=226
abbrev cL:Nat:=227
abbrev jG:Nat:=228
abbrev rq:Nat:=229
abbrev bh:Nat:=230
abbrev aL:Nat:=3
abbrev dy:Nat:=23
abbrev aj:Nat:=27
abbrev af:Nat:=38
abbrev al:Nat:=40
abbrev eQ:Nat:=41
abbrev aI:Nat:=42
abbrev aa:Nat:=44
abbrev t_api_Con:Nat:=64
abbrev fL:Nat:=83
abbrev tf:Nat:=84
abbrev fK:Nat:=87
abbrev td:Nat:=88
abbrev ae:Nat:=98
abbrev Du:Nat:=101
abbrev aU:Nat:=131
abbrev eP:Nat:=165
abbrev mR:Nat:=190
abbrev aG:Nat:=229
abbrev gu:Nat:=252
theorem Uk (n:Nat):Int.ofNat n=(OfNat.ofNat n:Int):=rfl
theorem TD:Int.negSucc 0 = -1:=rfl
theorem TM (id id1 i n c k:Nat) (body:ACode):ACode.block id (.loop (.seq (.region [⟨some c,.bin .lss .int (.t i) (.t n),none⟩]) (.seq (.cond (.t c) .skip (.exit id)) (.seq (.block id1 body) (.region [⟨some k,.bin .add .int (.t i) (.c (.int .i64 1)),none⟩,⟨some i,.mv (.t k),none⟩])))))=QL id id1 i n c k body:=rfl
theorem TN (id:Nat) (c:ACode):ACode.block id (.loop c)=O5 id c:=rfl
set_option maxHeartbeats 8000000
def ai (f:Func) (a:au) (_:SX Tryz.prog f=some a:=by conv=>lhs; reduce; dsimp only [↓Uk,↓TD]; (try dsimp only [TM]); (try dsimp only [TN])):au:=a
def c_facetroomlaw24_DimsPoints:au:=ai Tryz.f4 _
def jV:au:=ai Tryz.f5 _
def ky:au:=ai Tryz.f6 _
def ik:au:=ai Tryz.f11 _
def VK:au:=ai Tryz.f12 _
def yM:au:=ai Tryz.f7 _
def U8:au:=ai Tryz.f13 _
def yN:au:=ai Tryz.f8 _
def U7:au:=ai Tryz.f14 _
def yL:au:=ai Tryz.f10 _
def VP:au:=ai Tryz.f15 _
def GG:au:=ai Tryz.f16 _
def kz:au:=ai Tryz.f17 _
def iX:au:=ai Tryz.f19 _
def mg:au:=ai Tryz.f18 _
def il:au:=ai Tryz.f20 _
def CZ:au:=ai Tryz.f21 _
def jU:au:=ai Tryz.f22 _
def jT:au:=ai Tryz.f37 _
def wm:au:=ai Tryz.f23 _
def VE:au:=ai Tryz.f38 _
def VA:au:=ai Tryz.f39 _
def Vz:au:=ai Tryz.f40 _
def rW:au:=ai Tryz.f24 _
def qI:au:=ai Tryz.f27 _
def mi:au:=ai Tryz.f26 _
def rX:au:=ai Tryz.f28 _
def qH:au:=ai Tryz.f32 _
def mh:au:=ai Tryz.f31 _
def yJ:au:=ai Tryz.f30 _
def ii:au:=ai Tryz.f35 _
def l8:au:=ai Tryz.f34 _
def rV:au:=ai Tryz.f36 _
def Vo:au:=ai Tryz.f41 _
def Be:au:=ai Tryz.f42 _
def kn:au:=ai Tryz.f43 _
def km:au:=ai Tryz.f9 _
def jX:au:=ai Tryz.f44 _
def tQ:au:=ai Tryz.f45 _
def yH:au:=ai Tryz.f46 _
def c_dual_points:au:=ai Tryz.f48 _
def yI:au:=ai Tryz.f47 _
def jR:au:=ai Tryz.f49 _
def yK:au:=ai Tryz.f50 _
def jW:au:=ai Tryz.f51 _
def tP:au:=ai Tryz.f52 _
def Bn:au:=ai Tryz.f53 _
def c_dual_cons:au:=ai Tryz.f54 _
def VD:au:=ai Tryz.f60 _
def fw:au:=ai Tryz.f25 _
def fk:au:=ai Tryz.f29 _
def fF:au:=ai Tryz.f59 _
def lH:au:=ai Tryz.f57 _
def iW:au:=ai Tryz.f58 _
def GI:au:=ai Tryz.f62 _
def vV:au:=ai Tryz.f61 _
def mc:au:=ai Tryz.f63 _
def ko:au:=ai Tryz.f33 _
def iJ:au:=ai Tryz.f65 _
def cW:au:=ai Tryz.f64 _
def iI:au:=ai Tryz.f67 _
def yG:au:=ai Tryz.f68 _
def c_cone_Gens:au:=ai Tryz.f69 _
def cU:au:=ai Tryz.f70 _
def px:au:=ai Tryz.f71 _
def wt:au:=ai Tryz.f72 _
def jS:au:=ai Tryz.f73 _
def rU:au:=ai Tryz.f74 _
def rT:au:=ai Tryz.f76 _
def bH:au:=ai Tryz.f77 _
def bF:au:=ai Tryz.f78 _
def iH:au:=ai Tryz.f80 _
def cV:au:=ai Tryz.f79 _
def iG:au:=ai Tryz.f81 _
def Bh:au:=ai Tryz.f75 _
def CS:au:=ai Tryz.f86 _
def vW:au:=ai Tryz.f87 _
def fI:au:=ai Tryz.f83 _
def qG:au:=ai Tryz.f85 _
def gN:au:=ai Tryz.f84 _
def Bi:au:=ai Tryz.f88 _
def mf:au:=ai Tryz.f89 _
def iF:au:=ai Tryz.f55 _
def iD:au:=ai Tryz.f56 _
def yB:au:=ai Tryz.f66 _
def du:au:=ai Tryz.f90 _
def c_cone_checked:au:=ai Tryz.f94 _
def yQ:au:=ai Tryz.f95 _
def Bx:au:=ai Tryz.f96 _
def c_P_cone_under_add:au:=ai Tryz.f97 _
def rR:au:=ai Tryz.f98 _
def tK:au:=ai Tryz.f99 _
def dD:au:=⟨2,2,[],.skip,(some (.sortF af [jK]))⟩
def rY:au:=ai Tryz.f101 _
def dr:au:=ai Tryz.f103 _
def dt:au:=ai Tryz.f106 _
def bY:au:=ai Tryz.f104 _
def vX:au:=ai Tryz.f105 _
def tD:au:=ai Tryz.f119 _
def tC:au:=ai Tryz.f121 _
def CQ:au:=ai Tryz.f120 _
def Vw:au:=ai Tryz.f93 _
def vU:au:=ai Tryz.f122 _
def Vg:au:=⟨1,19,[(2,none)],
 .seq (.region [
 ⟨(some 2),.mv (.c (.int .i64 0)),none⟩]) <|
 .seq (.seq (.region [
 ⟨(some 3),.mv (.t 0),none⟩,
 ⟨(some 4),.bin .geq .int (.t 3) (.c (.int .u32 65536)),none⟩]) <|
 .cond (.t 4)
 (.seq (.region [
  ⟨(some 5),.mv (.t 0),none⟩,
  ⟨(some 6),.bin .shr .int (.t 5) (.c (.int .u64 16)),none⟩,
  ⟨(some 0),.mv (.t 6),none⟩]) <|
 .region [
  ⟨(some 2),.mv (.c (.int .i64 16)),none⟩])
 (.skip)) <|
 .seq (.seq (.region [
 ⟨(some 7),.mv (.t 0),none⟩,
 ⟨(some 8),.bin .geq .int (.t 7) (.c (.int .u32 256)),none⟩]) <|
 .cond (.t 8)
 (.seq (.region [
  ⟨(some 9),.mv (.t 0),none⟩,
  ⟨(some 10),.bin .shr .int (.t 9) (.c (.int .u64 8)),none⟩,
  ⟨(some 0),.mv (.t 10),none⟩]) <|
 .region [
  ⟨(some 11),.mv (.t 2),none⟩,
  ⟨(some 12),.bin .add .int (.t 11) (.c (.int .i64 8)),none⟩,
  ⟨(some 2),.mv (.t 12),none⟩])
 (.skip)) <|
 .seq (.region [
 ⟨(some 13),.mv (.t 2),none⟩,
 ⟨(some 14),.mv (.t 0),none⟩,
 ⟨(some 15),.conv .u8 (.t 14),none⟩,
 ⟨(some 16),.indexStr (.c (.str ⟨#[0,1,2,2,3,3,3,3,4,4,4,4,4,4,4,4,5,5,5,5,5,5,5,5,5,5,5,5,5,5,5,5,6,6,6,6,6,6,6,6,6,6,6,6,6,6,6,6,6,6,6,6,6,6,6,6,6,6,6,6,6,6,6,6,7,7,7,7,7,7,7,7,7,7,7,7,7,7,7,7,7,7,7,7,7,7,7,7,7,7,7,7,7,7,7,7,7,7,7,7,7,7,7,7,7,7,7,7,7,7,7,7,7,7,7,7,7,7,7,7,7,7,7,7,7,7,7,7,8,8,8,8,8,8,8,8,8,8,8,8,8,8,8,8,8,8,8,8,8,8,8,8,8,8,8,8,8,8,8,8,8,8,8,8,8,8,8,8,8,8,8,8,8,8,8,8,8,8,8,8,8,8,8,8,8,8,8,8,8,8,8,8,8,8,8,8,8,8,8,8,8,8,8,8,8,8,8,8,8,8,8,8,8,8,8,8,8,8,8,8,8,8,8,8,8,8,8,8,8,8,8,8,8,8,8,8,8,8,8,8,8,8,8,8,8,8,8,8,8,8,8,8,8,8,8,8]⟩)) (.t 15),none⟩,
 ⟨(some 17),.conv .i64 (.t 16),none⟩,
 ⟨(some 18),.bin .add .int (.t 13) (.t 17),none⟩,
 ⟨(some 2),.mv (.t 18),none⟩]) <|
 .ret,
 none⟩
def nW:au:=⟨1,25,[(2,none)],
 .seq (.region [
 ⟨(some 2),.mv (.c (.int .i64 0)),none⟩]) <|
 .seq (.seq (.region [
 ⟨(some 3),.mv (.t 0),none⟩,
 ⟨(some 4),.bin .geq .int (.t 3) (.c (.int .u64 4294967296)),none⟩]) <|
 .cond (.t 4)
 (.seq (.region [
  ⟨(some 5),.mv (.t 0),none⟩,
  ⟨(some 6),.bin .shr .int (.t 5) (.c (.int .u64 32)),none⟩,
  ⟨(some 0),.mv (.t 6),none⟩]) <|
 .region [
  ⟨(some 2),.mv (.c (.int .i64 32)),none⟩])
 (.skip)) <|
 .seq (.seq (.region [
 ⟨(some 7),.mv (.t 0),none⟩,
 ⟨(some 8),.bin .geq .int (.t 7) (.c (.int .u64 65536)),none⟩]) <|
 .cond (.t 8)
 (.seq (.region [
  ⟨(some 9),.mv (.t 0),none⟩,
  ⟨(some 10),.bin .shr .int (.t 9) (.c (.int .u64 16)),none⟩,
  ⟨(some 0),.mv (.t 10),none⟩]) <|
 .region [
  ⟨(some 11),.mv (.t 2),none⟩,
  ⟨(some 12),.bin .add .int (.t 11) (.c (.int .i64 16)),none⟩,
  ⟨(some 2),.mv (.t 12),none⟩])
 (.skip)) <|
 .seq (.seq (.region [
 ⟨(some 13),.mv (.t 0),none⟩,
 ⟨(some 14),.bin .geq .int (.t 13) (.c (.int .u64 256)),none⟩]) <|
 .cond (.t 14)
 (.seq (.region [
  ⟨(some 15),.mv (.t 0),none⟩,
  ⟨(some 16),.bin .shr .int (.t 15) (.c (.int .u64 8)),none⟩,
  ⟨(some 0),.mv (.t 16),none⟩]) <|
 .region [
  ⟨(some 17),.mv (.t 2),none⟩,
  ⟨(some 18),.bin .add .int (.t 17) (.c (.int .i64 8)),none⟩,
  ⟨(some 2),.mv (.t 18),none⟩])
 (.skip)) <|
 .seq (.region [
 ⟨(some 19),.mv (.t 2),none⟩,
 ⟨(some 20),.mv (.t 0),none⟩,
 ⟨(some 21),.conv .u8 (.t 20),none⟩,
 ⟨(some 22),.indexStr (.c (.str ⟨#[0,1,2,2,3,3,3,3,4,4,4,4,4,4,4,4,5,5,5,5,5,5,5,5,5,5,5,5,5,5,5,5,6,6,6,6,6,6,6,6,6,6,6,6,6,6,6,6,6,6,6,6,6,6,6,6,6,6,6,6,6,6,6,6,7,7,7,7,7,7,7,7,7,7,7,7,7,7,7,7,7,7,7,7,7,7,7,7,7,7,7,7,7,7,7,7,7,7,7,7,7,7,7,7,7,7,7,7,7,7,7,7,7,7,7,7,7,7,7,7,7,7,7,7,7,7,7,7,8,8,8,8,8,8,8,8,8,8,8,8,8,8,8,8,8,8,8,8,8,8,8,8,8,8,8,8,8,8,8,8,8,8,8,8,8,8,8,8,8,8,8,8,8,8,8,8,8,8,8,8,8,8,8,8,8,8,8,8,8,8,8,8,8,8,8,8,8,8,8,8,8,8,8,8,8,8,8,8,8,8,8,8,8,8,8,8,8,8,8,8,8,8,8,8,8,8,8,8,8,8,8,8,8,8,8,8,8,8,8,8,8,8,8,8,8,8,8,8,8,8,8,8,8,8,8,8]⟩)) (.t 21),none⟩,
 ⟨(some 23),.conv .i64 (.t 22),none⟩,
 ⟨(some 24),.bin .add .int (.t 19) (.t 23),none⟩,
 ⟨(some 2),.mv (.t 24),none⟩]) <|
 .ret,
 none⟩
def eh:au:=ai Tryz.f108 _
def U3:au:=ai Tryz.f109 _
def el:au:=ai Tryz.f110 _
def fj:au:=ai Tryz.f111 _
def eT:au:=ai Tryz.f112 _
def cT:au:=ai Tryz.f113 _
def rZ:au:=ai Tryz.f114 _
def dW:au:=ai Tryz.f115 _
def fE:au:=ai Tryz.f116 _
def gq:au:=ai Tryz.f123 _
def kr:au:=ai Tryz.f82 _
def dw:au:=ai Tryz.f91 _
def rP:au:=ai Tryz.f92 _
def wh:au:=ai Tryz.f126 _
def kD:au:=ai Tryz.f127 _
def c_P_cone_under_cut:au:=ai Tryz.f130 _
def c_P_cone_under_fold:au:=ai Tryz.f131 _
def tH:au:=ai Tryz.f132 _
def nz:au:=ai Tryz.f134 _
def Bg:au:=ai Tryz.f133 _
def CT:au:=ai Tryz.f102 _
def fG:au:=ai Tryz.f139 _
def yw:au:=ai Tryz.f148 _
def yy:au:=ai Tryz.f147 _
def yE:au:=ai Tryz.f125 _
def gm:au:=ai Tryz.f141 _
def jv:au:=ai Tryz.f142 _
def iY:au:=ai Tryz.f143 _
def dX:au:=ai Tryz.f144 _
def ig:au:=ai Tryz.f145 _
def qJ:au:=ai Tryz.f146 _
def kv:au:=ai Tryz.f107 _
def dZ:au:=ai Tryz.f124 _
def Bv:au:=ai Tryz.f129 _
def yO:au:=ai Tryz.f128 _
def mj:au:=ai Tryz.f149 _
def yP:au:=ai Tryz.f150 _
def Br:au:=ai Tryz.f152 _
def Bs:au:=ai Tryz.f151 _
def yz:au:=ai Tryz.f153 _
def eA:au:=ai Tryz.f155 _
def s8:au:=ai Tryz.f154 _
def c_P_rows_form_put:au:=ai Tryz.f156 _
def yA:au:=ai Tryz.f160 _
def Vy:au:=ai Tryz.f162 _
def rQ:au:=ai Tryz.f161 _
def Bf:au:=ai Tryz.f157 _
def tE:au:=ai Tryz.f158 _
def bT:au:=ai Tryz.f136 _
def vZ:au:=ai Tryz.f137 _
def qF:au:=ai Tryz.f173 _
def CX:au:=ai Tryz.f175 _
def yr:au:=ai Tryz.f174 _
def ie:au:=ai Tryz.f172 _
def kw:au:=ai Tryz.f140 _
def c_sat_Signs:au:=ai Tryz.f176 _
def Bu:au:=ai Tryz.f177 _
def yv:au:=ai Tryz.f179 _
def CR:au:=ai Tryz.f178 _
def rN:au:=ai Tryz.f180 _
def tJ:au:=ai Tryz.f181 _
def dY:au:=⟨3,3,[],
 .skip,
 (some (.insert 1 24 af))⟩
def tF:au:=ai Tryz.f183 _
def rO:au:=ai Tryz.f184 _
def tG:au:=ai Tryz.f186 _
def fH:au:=ai Tryz.f159 _
def yx:au:=ai Tryz.f138 _
def U9:au:=ai Tryz.f193 _
def tN:au:=ai Tryz.f192 _
def CV:au:=ai Tryz.f190 _
def CU:au:=ai Tryz.f191 _
def vY:au:=ai Tryz.f194 _
def CY:au:=ai Tryz.f197 _
def tx:au:=ai Tryz.f185 _
def pw:au:=ai Tryz.f199 _
def yu:au:=ai Tryz.f171 _
def wq:au:=ai Tryz.f205 _
def yF:au:=ai Tryz.f206 _
def CW:au:=ai Tryz.f208 _
def Bm:au:=ai Tryz.f207 _
def GJ:au:=ai Tryz.f209 _
def tM:au:=ai Tryz.f201 _
def wn:au:=ai Tryz.f202 _
def nZ:au:=⟨3,3,[],
 .skip,
 (some .add64)⟩
def nU:au:=⟨3,3,[],
 .skip,
 (some .sub64)⟩
def tO:au:=ai Tryz.f211 _
def C0:au:=ai Tryz.f212 _
def pu:au:=ai Tryz.f198 _
def nV:au:=ai Tryz.f214 _
def Bk:au:=ai Tryz.f215 _
def yC:au:=ai Tryz.f213 _
def tT:au:=ai Tryz.f217 _
def Bp:au:=ai Tryz.f218 _
def ij:au:=ai Tryz.f219 _
def GH:au:=ai Tryz.f220 _
def kC:au:=ai Tryz.f221 _
def lJ:au:=ai Tryz.f222 _
def lM:au:=ai Tryz.f223 _
def Bo:au:=ai Tryz.f225 _
def Bj:au:=ai Tryz.f224 _
def rS:au:=ai Tryz.f226 _
def eU:au:=ai Tryz.f227 _
def nY:au:=ai Tryz.f228 _
def yD:au:=ai Tryz.f229 _
def dH:au:=ai Tryz.f230 _
structure Code (tab:Nat->Option au):Prop where
 q0:tab ol=some c_facetroomlaw24_DimsPoints
 q1:tab fQ=some jV
 q2:tab gF=some ky
 q3:tab dQ=some ik
 q4:tab Vd=some VK
 q5:tab nM=some yM
 q6:tab U4=some U8
 q7:tab lz=some yN
 q8:tab vS=some U7
 q9:tab nL=some yL
 q10:tab VB=some VP
 q11:tab vp=some GG
 q12:tab gG=some kz
 q13:tab eY=some iX
 q14:tab iP=some mg
 q15:tab dR=some il
 q16:tab ph=some CZ
 q17:tab fP=some jU
 q18:tab fO=some jT
 q19:tab pR=some wm
 q20:tab Vf=some VE
 q21:tab Vi=some VA
 q22:tab U6=some Vz
 q23:tab jI=some rW
 q24:tab gf=some qI
 q25:tab dC=some mi
 q26:tab jJ=some rX
 q27:tab i9=some qH
 q28:tab fo=some mh
 q29:tab rx=some yJ
 q30:tab dO=some ii
 q31:tab iL=some l8
 q32:tab g8=some rV
 q33:tab Vc=some Vo
 q34:tab ul=some Be
 q35:tab gA=some kn
 q36:tab gy=some km
 q37:tab fS=some jX
 q38:tab e9=some tQ
 q39:tab ly=some yH
 q40:tab oL=some c_dual_points
 q41:tab ru=some yI
 q42:tab fM=some jR
 q43:tab ry=some yK
 q44:tab fR=some jW
 q45:tab eZ=some tP
 q46:tab ni=some Bn
 q47:tab rv=some c_dual_cons
 q48:tab Vn=some VD
 q49:tab da=some fw
 q50:tab cR=some fk
 q51:tab aO=some fF
 q52:tab gW=some lH
 q53:tab dj=some iW
 q54:tab Au=some GI
 q55:tab pM=some vV
 q56:tab iN=some mc
 q57:tab gB=some ko
 q58:tab eI=some iJ
 q59:tab bQ=some cW
 q60:tab eH=some iI
 q61:tab rt=some yG
 q62:tab rA=some c_cone_Gens
 q63:tab bO=some cU
 q64:tab kO=some px
 q65:tab pV=some wt
 q66:tab fN=some jS
 q67:tab gZ=some rU
 q68:tab gY=some rT
 q69:tab aY=some bH
 q70:tab aX=some bF
 q71:tab eF=some iH
 q72:tab bP=some cV
 q73:tab eE=some iG
 q74:tab uo=some Bh
 q75:tab sJ=some CS
 q76:tab pN=some vW
 q77:tab dm=some fI
 q78:tab lV=some qG
 q79:tab dF=some gN
 q80:tab pS=some Bi
 q81:tab iO=some mf
 q82:tab eC=some iF
 q83:tab eB=some iD
 q84:tab nI=some yB
 q85:tab lS=some du
 q86:tab nj=some c_cone_checked
 q87:tab rz=some yQ
 q88:tab ux=some Bx
 q89:tab db=some c_P_cone_under_add
 q90:tab nh=some rR
 q91:tab oH=some tK
 q92:tab dz=some dD
 q93:tab jK=some rY
 q94:tab ca=some dr
 q95:tab cd=some dt
 q96:tab bp=some bY
 q97:tab jD=some vX
 q98:tab oB=some tD
 q99:tab oA=some tC
 q100:tab wU=some CQ
 q101:tab kY=some Vw
 q102:tab pL=some vU
 q103:tab nK=some Vg
 q104:tab gL=some nW
 q105:tab br=some eh
 q106:tab gc=some U3
 q107:tab ee=some el
 q108:tab fg=some fj
 q109:tab eR=some eT
 q110:tab cS=some cT
 q111:tab nk=some rZ
 q112:tab dM=some dW
 q113:tab fD=some fE
 q114:tab cy=some gq
 q115:tab gC=some kr
 q116:tab cj=some dw
 q117:tab nf=some rP
 q118:tab mr=some wh
 q119:tab gI=some kD
 q120:tab jh=some c_P_cone_under_cut
 q121:tab iQ=some c_P_cone_under_fold
 q122:tab oF=some tH
 q123:tab jg=some nz
 q124:tab um=some Bg
 q125:tab wW=some CT
 q126:tab dl=some fG
 q127:tab ri=some yw
 q128:tab rk=some yy
 q129:tab nJ=some yE
 q130:tab fZ=some gm
 q131:tab jp=some jv
 q132:tab iT=some iY
 q133:tab dN=some dX
 q134:tab gV=some ig
 q135:tab lW=some qJ
 q136:tab gD=some kv
 q137:tab cB=some dZ
 q138:tab pY=some Bv
 q139:tab lB=some yO
 q140:tab fp=some mj
 q141:tab nN=some yP
 q142:tab pW=some Br
 q143:tab Vj=some Bs
 q144:tab nH=some yz
 q145:tab cI=some eA
 q146:tab cC=some s8
 q147:tab gM=some c_P_rows_form_put
 q148:tab rl=some yA
 q149:tab pQ=some Vy
 q150:tab ng=some rQ
 q151:tab mZ=some Bf
 q152:tab oC=some tE
 q153:tab bg=some bT
 q154:tab pP=some vZ
 q155:tab lU=some qF
 q156:tab xd=some CX
 q157:tab rf=some yr
 q158:tab gU=some ie
 q159:tab gE=some kw
 q160:tab rm=some c_sat_Signs
 q161:tab uw=some Bu
 q162:tab rh=some yv
 q163:tab wV=some CR
 q164:tab m6=some rN
 q165:tab oG=some tJ
 q166:tab cA=some dY
 q167:tab oD=some tF
 q168:tab nd=some rO
 q169:tab oE=some tG
 q170:tab cw=some fH
 q171:tab rj=some yx
 q172:tab iM=some U9
 q173:tab oJ=some tN
 q174:tab wZ=some CV
 q175:tab wY=some CU
 q176:tab pO=some vY
 q177:tab xe=some CY
 q178:tab oy=some tx
 q179:tab ft=some pw
 q180:tab rg=some yu
 q181:tab pU=some wq
 q182:tab rr=some yF
 q183:tab xc=some CW
 q184:tab ut=some Bm
 q185:tab Av=some GJ
 q186:tab oI=some tM
 q187:tab pT=some wn
 q188:tab jH=some nZ
 q189:tab jE=some nU
 q190:tab oK=some tO
 q191:tab xg=some C0
 q192:tab kN=some pu
 q193:tab jF=some nV
 q194:tab ur=some Bk
 q195:tab rp=some yC
 q196:tab oM=some tT
 q197:tab uv=some Bp
 q198:tab dP=some ij
 q199:tab At=some GH
 q200:tab gH=some kC
 q201:tab g9=some lJ
 q202:tab hZ=some lM
 q203:tab uu=some Bo
 q204:tab uq=some Bj
 q205:tab U5=some rS
 q206:tab cL=some eU
 q207:tab jG=some nY
 q208:tab rq=some yD
 q209:tab bh=some dH
end Go.Proofs.YtiigaeehghcjiaaGreat.Ev
namespace Go.Proofs.YtiigaeehghcjiaaGreat.Nn
abbrev B:Nat:=18446744073709551616
def val:List Nat->Nat
 | []=>0
 | a :: l=>a+B*val l
def Lim (l:List Nat):Prop:=∀ a∈l,a<B
def My (l:List Nat):Prop:=l.getLast? ≠ some 0
def Lim.nil:Lim []:=fun a h=>by cases h
def Lim.cons {a:Nat} {l:List Nat} (h:a<B) (hl:Lim l):Lim (a :: l):=fun b hb=>by
 rcases WV.1 hb with rfl | hb
 ·exact h
 ·exact hl b hb
def Lim.head {a:Nat} {l:List Nat} (h:Lim (a :: l)):a<B:=h a (WH ..)
def Lim.tail {a:Nat} {l:List Nat} (h:Lim (a :: l)):Lim l:=fun b hb=>h b (SO _ hb)
def Lim.append {l m:List Nat} (h:Lim l) (h':Lim m):Lim (l++m):=fun b hb=>by
 rcases WQ.1 hb with hb | hb
 ·exact h b hb
 ·exact h' b hb
def Lim.take {l:List Nat} (h:Lim l) (n:Nat):Lim (l.take n):=fun b hb=>h b (YJ hb)
def Lim.drop {l:List Nat} (h:Lim l) (n:Nat):Lim (l.drop n):=fun b hb=>h b (YZ hb)
def Lim.replicate (n:Nat):Lim (List.replicate n 0):=fun b hb=>by
 rw [ZL hb]; decide
def Lim.at {l:List Nat} (h:Lim l) (i:Nat):l.getD i 0<B:=by
 rw [qf];cases hi:l[i]? with
 | none=>show 0<B; decide
 | some a=>exact h a (WN hi)
def pE:∀ (l m:List Nat),val (l++m)=val l+B^l.length*val m
 | [],m=>by simp [val]
 | a :: l,m=>by
  simp only [Yn,val,pE l m,W5,Xc];rw [Xy,<- Xj,WR (B^l.length) B];omega
def wI:∀ {l:List Nat},Lim l->val l<B^l.length
 | [],_=>by simp [val]
 | a :: l,h=>by
  have b:=wI h.tail;have ha:=h.head;simp only [val,W5,Xc]
  have:B*(val l+1)<=B*B^l.length:=YR B b
  rw [WR (B^l.length) B];rw [Xy] at this;omega
def gt (n:Nat):val (List.replicate n 0)=0:=by
 induction n with
 | zero=>rfl
 | succ n a=>simp [Xt,val,a]
def kF (l:List Nat) (a:Nat):val (l++[a])=val l+B^l.length*a:=by
 rw [pE]; simp [val]
def I7:∀ {l m:List Nat},Lim l->Lim m->l.length=m.length->val l=val m->l=m
 | [],[],_,_,_,_=>rfl
 | [],_ :: _,_,_,h,_=>by simp at h
 | _ :: _,[],_,_,h,_=>by simp at h
 | a :: l,b :: m,h1,h2,h,e=>by
  have ha:=h1.head;have hb:=h2.head;simp only [val] at e;have c:a=b:=by
   have:(a+B*val l) % B=(b+B*val m) % B:=by rw [e]
   rw [Y7,Y7,Xf ha,Xf hb] at this;exact this
  subst c;have d:val l=val m:=Nat.eq_of_mul_eq_mul_left (by decide) (Nat.add_left_cancel e);rw [I7 h1.tail h2.tail (by simpa using h) d]
def zb {l:List Nat} (hn:My l) (hne:l≠[]):B^(l.length-1)<=val l:=by
 rcases YE l with rfl | ⟨l',a,rfl⟩
 ·exact absurd rfl hne
 ·rw [YF] at *;rw [kF];have ha:a≠0:=fun e=>hn (by rw [e]; simp)
  have:B^l'.length*1<=B^l'.length*a:=YR _ zO
  simp only [WM,List.length_singleton,YH];omega
def Qr {l m:List Nat} (h1:Lim l) (h2:Lim m) (b:My l) (a:My m) (e:val l=val m):l=m:=by
 have key:∀ {l m:List Nat},Lim l->My m->val l=val m->m.length<=l.length:=by
  intro l m h1 a e;by_cases hm:m=[]
  ·subst hm; simp
  ·have c:=wI h1;have d:=zb a hm
   apply YV
   intro hlt
   have:B^l.length<=B^(m.length-1):=W8 (by decide) zO
   omega
 exact I7 h1 h2 (YT (key h2 b e.symm) (key h1 a e)) e
def ah (n:Nat):List Nat:=if h:n=0 then [] else n % B :: ah (n / B)
 termination_by n
 decreasing_by exact Nat.div_lt_self zO (by decide)
theorem cD:ah 0=[]:=by unfold ah; rfl
def jr {n:Nat} (h:n≠0):ah n=n % B :: ah (n / B):=by rw [ah,dif_neg h]
def lA (n:Nat):val (ah n)=n:=by
 induction n using Nat.strongRecOn with
 | _ n a =>
  by_cases h:n=0
  ·subst h; rw [cD]; rfl
  ·rw [jr h];simp only [val];rw [a _ (Nat.div_lt_self zO (by decide))]
   have:=Nat.mod_add_div n B
   omega
def bI (n:Nat):Lim (ah n):=by
 induction n using Nat.strongRecOn with
 | _ n a =>
  by_cases h:n=0
  ·subst h; rw [cD]; exact Lim.nil
  ·rw [jr h];exact Lim.cons (Xp _ (by decide)) (a _ (Nat.div_lt_self zO (by decide)))
def dI (n:Nat):My (ah n):=by
 induction n using Nat.strongRecOn with
 | _ n a =>
  by_cases h:n=0
  ·subst h; rw [cD]; simp [My]
  ·rw [jr h];have a:=a _ (Nat.div_lt_self zO (by decide:1<B));unfold My at a ⊢;by_cases h2:n / B=0
   ·rw [h2,cD]
    have:n % B=n:=Xf (by
     rcases Nat.lt_or_ge n B with h | h
     ·exact h
     ·have:=Nat.div_pos h (by decide:0<B); omega)
    rw [this];simp [h]
   ·rw [jr h2] at a ⊢;rw [List.getLast?_cons_cons]; exact a
def xp {l:List Nat} (h:Lim l) (n:My l):ah (val l)=l:=Qr (bI _) h (dI _) n (lA _)
def bu {n k:Nat} (h:n<B^k):(ah n).length<=k:=by
 by_cases h0:ah n=[]
 ·rw [h0]; simp
 ·have g:=zb (dI n) h0;rw [lA] at g
  apply YV
  intro hlt
  have:B^k<=B^((ah n).length-1):=W8 (by decide) zO
  omega
def iU (n:Nat):n<B^(ah n).length:=by
 have:=wI (bI n)
 rw [lA] at this; exact this
def limbs_nil {n:Nat}:ah n=[] ↔ n=0:=by
 constructor
 ·intro h
  have:=lA n
  rw [h] at this
  simpa [val] using this.symm
 ·rintro rfl; exact cD
def fc (l:List Nat):List Nat:=(l.reverse.dropWhile (· == 0)).reverse
def eO (l:List Nat):fc (l++[0])=fc l:=by simp [fc]
def jB {l:List Nat} {a:Nat} (h:a≠0):fc (l++[a])=l++[a]:=by simp [fc,h]
theorem wJ:fc []=[]:=rfl
def zC:∀ (n:Nat) (l:List Nat),l.length=n->Lim l->fc l=ah (val l)
 | 0,l,hl,_=>by
  have:l=[]:=Xl hl
  subst this;rw [wJ]; show []=ah 0; rw [cD]
 | n+1,l,hl,h=>by
  rcases YE l with rfl | ⟨l',a,rfl⟩
  ·simp at hl
  ·rw [YF] at *;have b:l'.length=n:=by simpa using hl
   have c:Lim l':=fun x hx=>h x (XK _ hx);by_cases ha:a=0
   ·subst ha;rw [eO,zC n l' b c,kF]; simp
   ·rw [jB ha,xp h];unfold My;simp [ha]
def eW {l:List Nat} (h:Lim l):fc l=ah (val l):=zC _ l rfl h
end Go.Proofs.YtiigaeehghcjiaaGreat.Nn
namespace Go.Proofs.YtiigaeehghcjiaaGreat.Ev
open Go Nn
abbrev Lb (H:Heap) (v:AV) (l:List Nat):Prop:=pC cq ae H v l
abbrev cm (H:Heap) (v:AV) (n:Nat):Prop:=Lb H v (ah n)
def Sm (n:Nat):Prop:=(ah n).length<1099511627776
section
variable {tab:Nat->Option au} {H:Heap} {s:AV} {l:List Nat}
def fU (hs:Lb H s l) {i:Nat} (hi:i<l.length):bc H none (az s i)=some (.int .u64 (l.getD i 0:Nat)):=by
 obtain ⟨c,hc,h⟩:=SlV.at1 hs (i:=i) (a:=l.getD i 0) (by simp [hi,qf]);rw [h,hc]
def pg (C:Code tab) (i:Wf H) (hs:Lb H s l) (d:l.length<4611686018427387904) :
  Ans tab (.fn nJ [s]) H fun v H'=>v=.int .i64 (if l.getLast? = some 0 then 8 else 0)/\Kp H H':=by
 refine cz C.q129 zU fun T hl b=>?_;rcases YE l with rfl | ⟨l',a,rfl⟩
 ·have c:lenV s=some (.int .i64 0):=hs.lenV;refine zW (aC hl b c) ?_;exact ⟨rfl,zK⟩
 ·rw [YF] at *;have c:lenV s=some (.int .i64 ((l'.length:Int)+1)):=by have:=hs.lenV; simpa using this
  have g:IntKind.i64.wrap ((l'.length:Int)+1-1)=(l'.length:Int):=by rw [wrap_i64] <;> simp at d <;> omega
  have f:(0:Int)<(l'.length:Int)+1:=zO;have hi:=SlV.idx1 hs .i64 l'.length (by simp);have e:bc H none (az s l'.length)=some (.int .u64 (a:Nat)):=by rw [fU hs (by simp)]; simp
  refine zW (ip hl b c g f hi e) ?_;refine iteH.split (fun h=>?_) fun h=>?_
  ·refine zW (aB hl b) ?_;exact ⟨by rw [if_pos]; simp; omega,zK⟩
  ·refine zW (aB hl b) ?_;exact ⟨by rw [if_neg]; simp; omega,zK⟩
def re (C:Code tab) (q:Wf H) {ls:List (List Nat)} {ty:Nat} (hs:pC (Vt (bz cq) ae) ty H s ls) (p:ls.length<4611686018427387904) (hc:∀ c∈ls,c.length<4611686018427387904/\c.getLast? ≠ some 0) :
  Ans tab (.fn oI [s]) H fun v H'=>v=.int .i64 0/\Kp H H':=by
 refine cz C.q186 zU fun T hl d=>?_;refine zW (aC hl d hs.lenV) ?_;refine aq H [] (fun _ _ _=>True) (a:=0) (N:=ls.length) rfl (by refine zW (aB hl d) ?_; rfl) (zV (aB hl d)) (WG _) zO (by simp only [jL,hl]; rfl) rfl (fun _ _ _ _ h=>h) zK trivial ?_ ?_
 ·intro j T1 i _ hj b l g e _;have w1:=e.wf;have r:=e.le;have o:ad T1 6=s:=(g.at_ 6 zU).trans (zV (aB hl d));obtain ⟨c,k,n⟩:=SlV.at1 (hs.mono e.sub) (zh hj);have m:=SlV.idx1 hs .i64 j hj;have f:=hc _ (EL hj);simp only [jL,hl] at b;refine zW (cn b o l m n) ?_;refine AnsH.eq (pg C zF k f.1) fun H2 h2=>?_;rw [if_neg f.2];refine zW b ?_;have k2:Kp H H2:=Kp.trans zK h2;have t:=k2.le;exact zK
 ·intro T1 i b g e _;simp only [jL,hl] at b;refine zW b ?_;exact zK
def qz (C:Code tab) (c:Wf H) (hs:Lb H s l):Ans tab (.fn cy [s]) H fun v H'=>Lb H' v l/\Kp H H':=by
 refine cz C.q114 zU fun T hl a=>?_;obtain ⟨b,e,hr⟩:=hs.clip .i64 .i64;have e':bU 1 s none (some (.int .i64 (l.length:Int))) (some (.int .i64 (l.length:Int)))=some b:=e;refine zW (aZ hl a hs.lenV e') ?_;exact ⟨hr.mono (Sub.bump H _),zK⟩
def vj (C:Code tab) (B:Wf H) (hs:Lb H s l) (x:l.length<4611686018427387904) :
  Ans tab (.fn pS [s]) H fun v H'=>Lb H' v (fc l)/\Kp H H':=by
 refine cz C.q80 zU fun T hl i=>?_;refine zW (aB hl i) ?_;refine bk H [0] (fun k vs H'=>∃ v,vs=[v]/\Lb H' v (l.take k)/\fc (l.take k)=fc l/\k<=l.length) l.length (by simp only [jL]; exact hl) rfl zK ⟨s,by exact zV (aB hl i),by rw [WZ]; exact hs,by rw [WZ],Jv _⟩ ?_;rintro k T1 d b A j ⟨v,f,hr,c,y⟩;have w1:=j.wf;have D:=j.le;simp only [SA,WF,Ud,and_true] at f;rcases YE (l.take k) with h0 | ⟨l',a,h0⟩
 ·rw [h0] at hr c;have g:lenV v=some (.int .i64 0):=hr.lenV;refine zW (aC b f g) ?_;refine AnsH.use (qz C zF (hr.mono (Sub.bump d _))) ?_;rintro v2 H2 ⟨h1,h2⟩;have k2:Kp H H2:=Kp.trans zK h2;have w:=k2.le;rw [<- c];refine zW b ?_;exact ⟨h1,zK⟩
 ·rw [YF] at h0;have z:k=l'.length+1:=by have:=congrArg List.length h0; simp at this; omega
  have m:l.take l'.length=l':=by
   have:=congrArg (List.take l'.length) h0
   rw [YO,XJ zO] at this
   simpa using this
  rw [h0] at hr c;have g:lenV v=some (.int .i64 ((l'.length:Int)+1)):=by have:=hr.lenV; simpa using this
  have t:(0:Int)<(l'.length:Int)+1:=zO;have q:=SlV.idx1 hr .i64 l'.length (by simp);have r:bc d none (az v l'.length)=some (.int .u64 (a:Nat)):=by rw [fU hr (by simp)]; simp
  have n:IntKind.i64.wrap ((l'.length:Int)+1-1)=(l'.length:Int):=by rw [wrap_i64] <;> omega
  refine zW (ip b f g t q r n) ?_;refine iteH.split (fun ha=>?_) fun ha=>?_
  ·obtain ⟨h,e,u⟩:=hr.hi .i64 l'.length (by simp);have e':bU 1 v none (some (.int .i64 (l'.length:Int))) none=some h:=e;have p:a=0:=zO;subst p;refine zW (cn b f g n e') ?_;refine ⟨zK,l'.length,zO,h,rfl,?_,?_,zO⟩
   ·rw [m];have h3:Lb d h l':=by simpa using u
    exact h3.mono (Sub.bump d _)
   ·rw [m,<- c,eO]
  ·have o:a≠0:=zO;refine zW (aB b f) ?_;refine AnsH.use (qz C zF (hr.mono (Sub.bump d _))) ?_;rintro v2 H2 ⟨h1,h2⟩;have k2:Kp H H2:=Kp.trans zK h2;have w:=k2.le;rw [jB o] at c;rw [<- c];refine zW b ?_;exact ⟨h1,zK⟩
def HY (C:Code tab) (b:Wf H) {n:Nat} (hn:n<B):Ans tab (.fn Au [.int .u64 (n:Int)]) H fun v H'=>cm H' v n/\Sm n/\Kp H H':=by
 refine cz C.q54 zU fun T hl a=>?_;refine zW (aB hl a) ?_;have k1:Kp H ((H.up 5).put (H.next+2) (.cells [.int .u64 (n:Int)] ae true)):=zK;have c:=k1.le;have hs:Lb ((H.up 5).put (H.next+2) (.cells [.int .u64 (n:Int)] ae true)) (.own (H.next+2) 0 1 1 1 true) [n] :=
  (show Own (bz cq) ae H _ _ true _ [n] from ⟨_,rfl,am _ _ _,Cells.one ⟨_,rfl,rfl⟩,zO⟩).sl
 refine AnsH.use (vj C k1.wf hs (by simp)) ?_;rintro v H2 ⟨h1,h2⟩;have e:fc [n]=ah n:=by rw [eW (Lim.cons hn Lim.nil)]; simp [val]
 rw [e] at h1;refine zW (aB hl a) ?_;refine ⟨h1,?_,k1.trans h2⟩
 have:=bu (n:=n) (k:=1) (by simpa using hn)
 unfold Sm; omega
def fJ (C:Code tab) (d:Wf H) (hs:Lb H s l) (b:Bool) :
  Ans tab (.fn pM [.bool b,s]) H fun v H'=>v=.agg [.bool (b && decide (0<l.length)),s]/\Kp H H':=by
 refine bE C.q55 zU fun T hl a c=>?_;have e:=hs.one;cases b
 ·refine zW (aZ hl a c hs.lenV) ?_;exact zK
 ·refine zW (aZ hl a c hs.lenV) ?_;exact zK
end
def dG (f:Nat->Nat->Nat->Nat × Nat) (a b:List Nat):Nat->List Nat × Nat
 | 0=>([],0)
 | k+1=>((dG f a b k).1++[(f (a.getD k 0) (b.getD k 0) (dG f a b k).2).1],(f (a.getD k 0) (b.getD k 0) (dG f a b k).2).2)
def iA (f:Nat->Nat->Nat->Nat × Nat) (a b:List Nat):∀ k,(dG f a b k).1.length=k
 | 0=>rfl
 | k+1=>by simp [dG,iA f a b k]
section
variable {tab:Nat->Option au} {H:Heap}
def Lh (C:Code tab) (c:Wf H) {sa sb:AV} (ha:One sa) (hb:One sb) :
  Ans tab (.fn rp [sa,sb]) H fun v H'=>v=.fn (.func U5) [] [.ptr H.next 0,.ptr (H.next+1) 0]/\H'.get H.next=some (.cells [sa] aI true)/\H'.get (H.next+1)=some (.cells [sb] aI true)/\H.next+2<=H'.next/\Kp H H':=by
 refine bE C.q195 zU fun T hl a b=>?_;refine zW (aC hl a b) ?_;exact ⟨zO,zK⟩
def BQ (C:Code tab) {H0:Heap} {r s bb:Nat} {a b:List Nat} {sa sb:AV} (J:Nat->Heap->Prop) (D:a.length<4611686018427387904) (E:b.length<4611686018427387904) {M:Nat} (A:M=max a.length b.length)
  (B:Kp H0 H) (h0:J 0 H) (w:∀ k H m,J k H->J k (H.up m)) (hA:∀ k H,J k H->H.get s=some (.cells [sa] aI true)/\Lb H sa a/\H.get bb=some (.cells [sb] aI true)/\Lb H sb b)
  (hr:∀ k H,k<M->Kp H0 H->J k H->Ans tab (.round r [.int .u64 (a.getD k 0:Nat),.int .u64 (b.getD k 0:Nat)]) H fun v H'=>v=.bool true/\Kp H0 H'/\J (k+1) H') :
  Ans tab (.ent U5 [.loopv r,.ptr s 0,.ptr bb 0]) H fun _ H'=>Kp H0 H'/\J M H':=by
 refine Uv C.q205 zU fun T hl i n o=>?_;obtain ⟨q1,q2,q3,q4⟩:=hA _ _ h0;have z:Lk (.int .i64 (a.length:Int)) (.int .i64 (b.length:Int))=some (.int .i64 (M:Int)):=by rw [D6]; congr 2; split <;> omega
 refine zW (lh hl i n o q1 q3 q2.lenV q4.lenV z) ?_;refine aq H0 [] (fun j _ H'=>J j H') (a:=0) (N:=M) rfl (by refine zW (aZ hl i n o) ?_; rfl) (zV (aZ hl i n o)) (WG _) zO (by simp only [jL,hl]; rfl) rfl (fun j _ H' m h=>w _ _ _ h) zK (w _ _ _ h0) ?_ ?_
 ·intro j T1 y _ hj c d q u p;simp only [jL,hl] at c;have t0:ad T1 0=.loopv r:=(q.at_ 0 zU).trans (zV (aB hl i));have t1:ad T1 1=.ptr s 0:=(q.at_ 1 zU).trans (zV (cn hl i n o n));have g:ad T1 2=.ptr bb 0:=(q.at_ 2 zU).trans (zV (cn hl i n o o));obtain ⟨q1,q2,q3,q4⟩:=hA _ _ p;have t:∀ (l:List Nat),¬ j<l.length->l.getD j 0=0:=fun l h=>by rw [qf,Xa zO]; rfl
  have e:∀ m,Ans tab (.round r [.int .u64 (a.getD j 0:Nat),.int .u64 (b.getD j 0:Nat)]) (y.up m) fun v H'=>v=.bool true/\Kp H0 H'/\J (j+1) H':=fun m=>hr j _ hj (u.up m) (w _ _ _ p);refine zW (lh c t0 t1 g d q1 q3 q2.lenV q4.lenV) ?_;refine iteH.split (fun h1=>?_) fun h1=>?_
  ·have x1:=SlV.idx1 q2 .i64 j h1;have d1:=fU q2 h1;refine zW (mo c t0 t1 g d q1 q3 q2.lenV q4.lenV x1 d1) ?_;refine iteH.split (fun h2=>?_) fun h2=>?_
   ·have x:=SlV.idx1 q4 .i64 j h2;have d2:=fU q4 h2;refine zW (mo c t0 t1 g d q1 q3 q2.lenV q4.lenV x d2) ?_;refine AnsH.eq (e _) fun H2 ⟨k2,f⟩=>?_;refine zW c ?_;exact ⟨zK,f⟩
   ·rw [t b h2] at e;refine zW (ip c t0 t1 g d q1 q3) ?_;refine AnsH.eq (e _) fun H2 ⟨k2,f⟩=>?_;refine zW c ?_;exact ⟨zK,f⟩
  ·rw [t a h1] at e;refine zW (lh c t0 t1 g d q1 q3 q2.lenV q4.lenV) ?_;refine iteH.split (fun h2=>?_) fun h2=>?_
   ·have x:=SlV.idx1 q4 .i64 j h2;have d2:=fU q4 h2;refine zW (mo c t0 t1 g d q1 q3 q2.lenV q4.lenV x d2) ?_;refine AnsH.eq (e _) fun H2 ⟨k2,f⟩=>?_;refine zW c ?_;exact ⟨zK,f⟩
   ·rw [t b h2] at e;refine zW (ip c t0 t1 g d q1 q3) ?_;refine AnsH.eq (e _) fun H2 ⟨k2,f⟩=>?_;refine zW c ?_;exact ⟨zK,f⟩
 ·intro T1 y c q u p;refine zW c ?_;exact ⟨u,p⟩
def pJ {f:Src} {ps:List Nat} {a body:ACode} {T:Tm} {Q:Ex->Tm->Heap->Prop} {fi:Nat} {args:List AV} (b:jd (f.ev T) [.loopv H.next]=some (.fn fi args))
  (h:Ans tab (.ent fi args) ((H.up 1).put H.next (.loop T ps a body .ready none)) fun _ H2 =>
   (H2.get H.next=some (.loop T ps a body .ready none)/\Q .nrm T (H2.kill H.next))\/(H2.get H.next=some (.loop T ps a body .done (some .ret))/\Q .ret T (H2.kill H.next)) \/
   (∃ id,H2.get H.next=some (.loop T ps a body .done (some (.exit id)))/\Q (.exit id) T (H2.kill H.next))):rangeH tab f ps a body () () T H Q ():=rangeH.use b h
def As (C:Code tab) (hw:Wf H) {sa sb:AV} {a b:List Nat} (ha:Lb H sa a) (hb:Lb H sb b) (aa:a.length<4398046511104) (ab:b.length<4398046511104) (P:Lim a) (Q:Lim b) {fi:Nat} {f:Nat->Nat->Nat->Nat × Nat}
  (hg:∀ H x y c,x<B->y<B->c<=1->Ans tab (.fn fi [.int .u64 (x:Nat),.int .u64 (y:Nat),.int .u64 (c:Nat)]) H fun v H'=>v=.tup [.int .u64 ((f x y c).1:Nat),.int .u64 ((f x y c).2:Nat)]/\H'=H) (V:∀ x y c,x<B->y<B->c<=1->(f x y c).2<=1) :
  Ans tab (.fn pT [sa,sb,.fn (.func fi) [] []]) H fun v H'=>∃ o,v=.tup [o,.int .u64 ((dG f a b (max a.length b.length)).2:Nat)]/\Bl (bz cq) ae H H' o (dG f a b (max a.length b.length)).1/\Kp H H':=by
 refine mz C.q187 zU fun T hl j l m=>?_;refine zW (aZ hl j l m) ?_;have k1:Kp H ((((H.up 6).put H.next (.cells [.fn (.func fi) [] []] aG true)).put (H.next+1) (.cells [.nilSl] aI true)).put (H.next+1+1) (.cells [.int .u64 0] ae true)):=zK;have ah:=k1.le;refine AnsH.use (Lh C k1.wf ha.one hb.one) ?_;rintro v H2 ⟨rfl,G,I,Y,t⟩;have k2:=k1.trans t;have p5:H2.get H.next=some (.cells [.fn (.func fi) [] []] aG true):=t.get (cY)
 have p6:H2.get (H.next+1)=some (.cells [.nilSl] aI true):=t.get (cY);have p7:H2.get (H.next+1+1)=some (.cells [.int .u64 0] ae true):=t.get (cY);have X:((((H.up 6).put H.next (.cells [.fn (.func fi) [] []] aG true)).put (H.next+1) (.cells [.nilSl] aI true)).put (H.next+1+1) (.cells [.int .u64 0] ae true)).next=H.next+6:=rfl
 rw [X] at G I Y ⊢;refine zW (aZ hl j l m) ?_;refine pJ (fi:=U5) (args:=[.loopv H2.next,.ptr (H.next+6) 0,.ptr (H.next+6+1) 0]) (by refine zW (aZ hl j l m) ?_; rfl) ?_
 generalize he:Ent.loop _ _ _ _ _ _=e0
 have A:Kp H ((H2.up 1).put H2.next e0):=zK;have aj:=A.le;refine (BQ C (H0:=H) (a:=a) (b:=b) (sa:=sa) (sb:=sb) (M:=max a.length b.length) (fun k H'=>H'.get H2.next=some e0/\H'.get H.next=some (.cells [.fn (.func fi) [] []] aG true) /\
   (∃ o,H'.get (H.next+1)=some (.cells [o] aI true)/\Bl (bz cq) ae H H' o (dG f a b k).1/\∀ n,o ≠ .own (H.next+1+1) 0 n n 1 false)/\H'.get (H.next+1+1)=some (.cells [.int .u64 ((dG f a b k).2:Nat)] ae true)/\(dG f a b k).2<=1 /\
   H'.get (H.next+6)=some (.cells [sa] aI true)/\H'.get (H.next+6+1)=some (.cells [sb] aI true)/\Lb H' sa a/\Lb H' sb b) zO zO rfl A
  ⟨by exact cY,by exact zV p5,⟨.nilSl,by exact zV p6,Bl.nil,fun n h=>by cases h⟩,by refine zW p7 ?_; rfl,WG _,by exact zV G,by exact zV I,ha.mono A.sub,hb.mono A.sub⟩ (fun _ _ _ h=>h) (fun k H' h=>⟨h.2.2.2.2.2.1,h.2.2.2.2.2.2.2.1,h.2.2.2.2.2.2.1,h.2.2.2.2.2.2.2.2⟩) ?_).mono ?_
 ·rintro k d hk K ⟨g,r,⟨o,q,s,F⟩,w,E,L,N,-,-⟩;rw [<- he] at g;refine qp g rfl ?_;refine zW (lp hl j l m g r q w) ?_;refine AnsH.eq (hg _ _ _ _ (P.at k) (Q.at k) E) fun H3 e3=>?_;subst e3;have hlt:=K.wf _ _ g;have ad:=K.le;have hz:=V _ _ _ (P.at k) (Q.at k) E;refine zW (lp hl j l m g r q w) ?_
  generalize J:Ent.loop _ _ _ _ LoopState.busy none=p
  generalize u:f (a.getD k 0) (b.getD k 0) (dG f a b k).2=z
  have O:Kp H (((d.up 13).put H2.next p).put (H.next+2) (.cells [.int .u64 (z.2:Nat)] ae true)):=zK;have ak:=O.le;have q1:Bl (bz cq) ae H (((d.up 13).put H2.next p).put (H.next+2) (.cells [.int .u64 (z.2:Nat)] ae true)) o (dG f a b k).1 :=
   (Bl.put (show Bl _ _ _ (d.up 13) _ _ from s) (s.ne g fun cs h=>by cases h) (SubT.nil _ _)).put F (SubT.nil _ _)
  have af:=iA f a b k;obtain ⟨n,i,S,q2,k5,Z,hp⟩:=q1.push (ty2:=ae) (bytes:=8) (id:=d.next+16) (id2:=d.next+15) (k:=5) (cs:=[.int .u64 (z.1:Nat)]) (a:=z.1) (fun h=>by cases h) O ⟨_,rfl,rfl⟩
   (by show d.next+13<=_; omega) (by show _<d.next+13+5; omega) (by show d.next+13<=_; omega) (by show _<d.next+13+5; omega) zO zO zO
  have U:dq ((((d.up 18).put H2.next p).put (H.next+2) (.cells [.int .u64 (z.2:Nat)] ae true)).put (d.next+15) (.cells [.int .u64 (z.1:Nat)] ae true)) (d.next+16) 1 8 ae o (.own (d.next+15) 0 1 1 1 true)=some (.own (d.next+16) 0 n n 1 false,i):=S;have r6:i.get (H.next+1)=some (.cells [o] aI true):=hp (H.next+1) (.cells [o] aI true) (zV q) (q1.ne (e:=.cells [o] aI true) (zV q) fun cs h=>by injection h with _ h2; exact absurd h2 zU);refine zW (fy hl j l m U r6) ?_;have R:∀ {o':AV} {cs:List AV},Ent.cells [o'] aI true ≠ .cells cs ae true:=fun h=>by injection h with _ h2; exact absurd h2 zU
  have r0:i.get H2.next=some p:=hp H2.next p (cY) (q1.ne (e:=p) (cY) fun cs h=>by rw [<- J] at h; cases h)
  have r5:i.get H.next=some (.cells [.fn (.func fi) [] []] aG true):=hp H.next _ (zV r) (q1.ne (e:=.cells [.fn (.func fi) [] []] aG true) (zV r) fun cs h=>by injection h with _ h2; exact absurd h2 zU)
  have r7:i.get (H.next+2)=some (.cells [.int .u64 (z.2:Nat)] ae true):=hp (H.next+2) _ (cY) F;have ra:i.get (H.next+6)=some (.cells [sa] aI true):=hp (H.next+6) (.cells [sa] aI true) (zV L) (q1.ne (e:=.cells [sa] aI true) (zV L) fun cs=>R);have rb:i.get (H.next+7)=some (.cells [sb] aI true):=hp (H.next+7) (.cells [sb] aI true) (zV N) (q1.ne (e:=.cells [sb] aI true) (zV N) fun cs=>R);have ag:i.next=d.next+18:=Z
  have D:Kp H ((i.put (H.next+1) (.cells [.own (d.next+16) 0 n n 1 false] aI true)).put H2.next e0):=zK;have al:=D.le;rw [uU];refine zW (ip J he r0 r5 r7 ra rb) ?_;refine ⟨D,⟨_,rfl,?_,fun n' h=>by injection h; omega⟩,?_,?_,ha.mono D.sub,hb.mono D.sub⟩
  ·have:(dG f a b (k+1)).1=(dG f a b k).1++[z.1]:=by rw [<- u]; rfl
   rw [this];exact (q2.put (fun n' h=>by injection h; omega) (SubT.nil _ _)).put (fun n' h=>by injection h; omega) (SubT.nil _ _)
  ·rw [<- u]; rfl
  ·have:(dG f a b (k+1)).2=z.2:=by rw [<- u]; rfl
   rw [this,<- u]; exact hz
 ·rintro _ H' ⟨W,g,r,⟨o,q,s,F⟩,w,E,-⟩;have hlt:=W.wf _ _ g;refine .inl ⟨g,?_⟩;refine zW (fy hl j l m q w) ?_;exact ⟨o,rfl,s.kill (s.ne g fun cs h=>by rw [<- he] at h; cases h) (SubT.nil _ _),zK⟩
end
def dg (l:List Nat) (k:Nat):val (l.take (k+1))=val (l.take k)+B^k*l.getD k 0:=by
 by_cases h:k<l.length
 ·rw [TY h,kF,WU,XJ (Yx h)];simp [qf,h]
 ·rw [WS zO,WS zO,qf,Xa zO]
  simp
def fu (x y c:Nat):Nat × Nat:=((x+y+c) % B,(x+y+c) / B)
def jP (x y c:Nat):Nat × Nat:=((x+B-y-c) % B,if x<y+c then 1 else 0)
def zj (x y c:Nat) (hx:x<B) (hy:y<B) (hc:c<=1):(fu x y c).2<=1:=by
 simp only [fu,B] at *; omega
def vK (x y c:Nat):(jP x y c).2<=1:=by
 unfold jP; simp only; split <;> omega
def zf {f:Nat->Nat->Nat->Nat × Nat} {a b:List Nat} (d:Lim a) (e:Lim b) (h:∀ x y c,x<B->y<B->c<=1->(f x y c).2<=1):∀ k,(dG f a b k).2<=1
 | 0=>WG _
 | k+1=>h _ _ _ (d.at k) (e.at k) (zf d e h k)
def AH {f:Nat->Nat->Nat->Nat × Nat} {a b:List Nat} (h:∀ x y c,(f x y c).1<B):∀ k,Lim (dG f a b k).1
 | 0=>Lim.nil
 | k+1=>(AH h k).append (Lim.cons (h _ _ _) Lim.nil)
def Kc {a b:List Nat}:∀ k,val (dG fu a b k).1+B^k*(dG fu a b k).2=val (a.take k)+val (b.take k)
 | 0=>by simp [dG,val]
 | k+1=>by
  have c:=Kc (a:=a) (b:=b) k;rw [dg,dg];simp only [dG,kF,iA]
  generalize dG fu a b k=r at c ⊢
  generalize a.getD k 0=x
  generalize b.getD k 0=y
  simp only [fu];have e:=XL (x+y+r.2) B
  have:B^(k+1)*((x+y+r.2) / B)=B^k*(B*((x+y+r.2) / B)):=by rw [Xc,Xj]
  rw [this]
  generalize B*((x+y+r.2) / B)=q at *
  generalize (x+y+r.2) % B=m at *
  have:B^k*(x+y+r.2)=B^k*q+B^k*m:=by rw [<- e,Xy]
  rw [Xy,Xy] at this;omega
def Jc {a b:List Nat} (d:Lim a) (e:Lim b):∀ k,val (dG jP a b k).1+val (b.take k)=val (a.take k)+B^k*(dG jP a b k).2
 | 0=>by simp [dG,val]
 | k+1=>by
  have f:=Jc d e k;have hc:(dG jP a b k).2<=1:=zf d e (fun x y c _ _ _=>vK x y c) k;rw [dg,dg];simp only [dG,kF,iA];have hx:=d.at k;have hy:=e.at k
  generalize dG jP a b k=r at f hc ⊢
  generalize a.getD k 0=x at *
  generalize b.getD k 0=y at *
  have key:(jP x y r.2).1+y+r.2=x+B*(jP x y r.2).2:=by
   clear f;simp only [jP,B] at *;split <;> omega
  have:B^(k+1)*(jP x y r.2).2=B^k*(B*(jP x y r.2).2):=by rw [Xc,Xj]
  rw [this]
  have:=congrArg (B^k * ·) key
  simp only [Xy] at this
  generalize B^k*(B*(jP x y r.2).2)=q at *
  generalize B^k*(jP x y r.2).1=m at *
  omega
section
variable {tab:Nat->Option au} {H:Heap}
def jw (C:Code tab) (H:Heap) (x y c:Nat) (_:x<B) (_:y<B) (hc:c<=1):Ans tab (.fn jH [.int .u64 (x:Nat),.int .u64 (y:Nat),.int .u64 (c:Nat)]) H fun v H'=>v=.tup [.int .u64 ((fu x y c).1:Nat),.int .u64 ((fu x y c).2:Nat)]/\H'=H :=
 zk C.q188 rfl rfl (v:=.tup [.int .u64 ((fu x y c).1:Nat),.int .u64 ((fu x y c).2:Nat)]) (H':=H) (by
  show (if c<=1 then _ else _)=_;rw [if_pos hc]; rfl) ⟨rfl,rfl⟩
def xL (C:Code tab) (H:Heap) (x y c:Nat) (_:x<B) (_:y<B) (hc:c<=1):Ans tab (.fn jE [.int .u64 (x:Nat),.int .u64 (y:Nat),.int .u64 (c:Nat)]) H fun v H'=>v=.tup [.int .u64 ((jP x y c).1:Nat),.int .u64 ((jP x y c).2:Nat)]/\H'=H :=
 zk C.q189 rfl rfl (v:=.tup [.int .u64 ((jP x y c).1:Nat),.int .u64 ((jP x y c).2:Nat)]) (H':=H) (by
  show (if c<=1 then _ else _)=_;rw [if_pos hc]; rfl) ⟨rfl,rfl⟩
def BR {H c:Heap} {b ty t1:Nat} {α:Type} {E:gr α} {x y:AV} {l m:List α} (hx:SlV E t1 H x l) (hy:SlV E t1 H y m) (hs:Sub H c) (hg:c.get b=some (.cells [x,y] ty true)):pC (Vt E t1) ty c (.own b 0 2 2 1 true) [l,m] :=
 ⟨[x,y],Rd.own hg rfl (Jv _),fun _ _ _ _ _ _ e=>by cases e; exact ⟨_,_,hg⟩,rfl,fun i a hi=>by
  match i with
  | 0=>simp at hi; subst hi; exact ⟨x,rfl,hx.mono hs⟩
  | 1=>simp at hi; subst hi; exact ⟨y,rfl,hy.mono hs⟩
  | i+2=>simp at hi⟩
def SE {H c:Heap} {b ty t1:Nat} {α:Type} {E:gr α} {x:AV} {l:List α} (hx:SlV E t1 H x l) (hs:Sub H c) (hg:c.get b=some (.cells [x] ty true)):pC (Vt E t1) ty c (.own b 0 1 1 1 true) [l] :=
 ⟨[x],Rd.own hg rfl (Jv _),fun _ _ _ _ _ _ e=>by cases e; exact ⟨_,_,hg⟩,rfl,fun i a hi=>by
  match i with
  | 0=>simp at hi; subst hi; exact ⟨x,rfl,hx.mono hs⟩
  | i+1=>simp at hi⟩
def tl (a b:List Nat):a.take (max a.length b.length)=a:=WS zO
def qR (a b:List Nat):b.take (max a.length b.length)=b:=WS zO
def Jt (C:Code tab) (G:Wf H) {sa sb:AV} {x y:Nat} (ha:cm H sa x) (hb:cm H sb y) (hx:Sm x) (hy:Sm y) :
  Ans tab (.fn wZ [sa,sb]) H fun v H'=>∃ o,v=.tup [o,.int .i64 0]/\cm H' o (x+y)/\Kp H H':=by
 refine bE C.q174 zU fun T hl g i=>?_;have L:=ha.one;have M:=hb.one;unfold Sm at hx hy;refine zW (aC hl g i) ?_;have k1:Kp H ((H.up 7).put (H.next+4) (.cells [sa,sb] aI true)):=zK;have J:=k1.le;refine AnsH.eq (re C k1.wf (BR ha hb k1.sub (am _ _ _)) (by simp) fun c hc=>?_) fun H2 u=>?_
 ·simp at hc;rcases hc with rfl | rfl
  ·exact ⟨zO,dI x⟩
  ·exact ⟨zO,dI y⟩
 have k2:=k1.trans u;have w2:=k2.wf;refine zW (aC hl g i) ?_;refine AnsH.use (As C zF (ha.mono (k2.up _).sub) (hb.mono (k2.up _).sub) zO zO (bI x) (bI y) (f:=fu) (jw C) zj) ?_;rintro v d ⟨o,rfl,D,j⟩;obtain ⟨I,_,N⟩:=zT H zK j;have z:=iA fu (ah x) (ah y) (max (ah x).length (ah y).length);have hval:=Kc (a:=ah x) (b:=ah y) (max (ah x).length (ah y).length);rw [tl,qR,lA,lA] at hval;have A:Lim (dG fu (ah x) (ah y) (max (ah x).length (ah y).length)).1:=AH (fun x y c=>Xp _ zU) _;have E:=zf (bI x) (bI y) zj (max (ah x).length (ah y).length)
 generalize dG fu (ah x) (ah y) (max (ah x).length (ah y).length)=r at *
 refine zW (aC hl g i) ?_;obtain ⟨n,p,s,q2,l,F,-⟩:=D.push (ty2:=ae) (bytes:=8) (id:=d.next+3) (id2:=d.next+2) (k:=7) (cs:=[.int .u64 (r.2:Nat)]) (a:=r.2) (fun h=>by cases h) j ⟨_,rfl,rfl⟩ zO zO zO zO zO zO zO;have t:dq ((d.up 7).put (d.next+2) (.cells [.int .u64 (r.2:Nat)] ae true)) (d.next+3) 1 8 ae o (.own (d.next+2) 0 1 1 1 true)=some (.own (d.next+3) 0 n n 1 false,p):=s;refine zW (aZ hl g i t) ?_;have O:=l.wf;refine AnsH.use (vj C zF q2.sl zS) ?_;rintro v q ⟨h5,w⟩;have m:Kp H q:=((k2.up _).trans l).trans w;have K:=m.le;have e:fc (r.1++[r.2])=ah (x+y):=by
  rw [eW (A.append (Lim.cons (by unfold B; omega) Lim.nil)),kF,z,hval]
 rw [e] at h5;refine zW (aC hl g i) ?_;exact ⟨v,rfl,h5,m⟩
def DW (C:Code tab) (t:Wf H) {sa sb:AV} {x y:Nat} (ha:cm H sa x) (hb:cm H sb y) (hx:Sm x) (hy:Sm y) :
  Ans tab (.fn wY [sa,sb]) H fun v H'=>Kp H H'/\if y<=x then ∃ o,v=.tup [o,.int .i64 0]/\cm H' o (x-y) else v=.tup [.nilSl,.int .i64 10]:=by
 refine bE C.q175 zU fun T hl a b=>?_;have z:=ha.one;have A:=hb.one;unfold Sm at hx hy;refine zW (aC hl a b) ?_;have k1:Kp H ((H.up 7).put (H.next+4) (.cells [sa,sb] aI true)):=zK;have w:=k1.le;refine AnsH.eq (re C k1.wf (BR ha hb k1.sub (am _ _ _)) (by simp) fun c hc=>?_) fun H2 i=>?_
 ·simp at hc;rcases hc with rfl | rfl
  ·exact ⟨zO,dI x⟩
  ·exact ⟨zO,dI y⟩
 have k2:=k1.trans i;have w2:=k2.wf;refine zW (aC hl a b) ?_;refine AnsH.use (As C zF (ha.mono (k2.up _).sub) (hb.mono (k2.up _).sub) zO zO (bI x) (bI y) (f:=jP) (xL C) fun x y c _ _ _=>vK x y c) ?_;rintro v g ⟨o,rfl,m,j⟩;obtain ⟨u,_,B⟩:=zT H zK j;have l:=iA jP (ah x) (ah y) (max (ah x).length (ah y).length);have hval:=Jc (bI x) (bI y) (max (ah x).length (ah y).length);rw [tl,qR,lA,lA] at hval;have d:Lim (dG jP (ah x) (ah y) (max (ah x).length (ah y).length)).1:=AH (fun x y c=>Xp _ zU) _;have s:=zf (bI x) (bI y) (fun x y c _ _ _=>vK x y c) (max (ah x).length (ah y).length);have hlt:=wI d;rw [l] at hlt
 generalize dG jP (ah x) (ah y) (max (ah x).length (ah y).length)=r at *
 refine zW (aC hl a b) ?_;refine iteH.split (fun h=>?_) fun h=>?_
 ·have h1:r.2=1:=zO;rw [h1] at hval
  have:¬ y<=x:=zO
  refine zW (aZ hl a b this) ?_;exact zK
 ·have h1:r.2=0:=zO;rw [h1] at hval;have n:y<=x:=zO;refine zW (aC hl a b) ?_;refine AnsH.use (vj C zF (m.sl.mono (Sub.bump g _)) zO) ?_;rintro v q ⟨h5,k⟩;obtain ⟨p,_,_⟩:=zT H zK k;have e:fc r.1=ah (x-y):=by
   rw [eW d]; congr 1; omega
  rw [e] at h5;refine zW (aC hl a b) ?_;exact ⟨p,by rw [if_pos n]; exact ⟨v,rfl,h5⟩⟩
end
section
variable {tab:Nat->Option au} {H:Heap} {s:AV} {l:List Nat}
def kI (C:Code tab) (h:Wf H) (hs:Lb H s l) (j:l.length<1099511627776):Ans tab (.fn cw [s]) H fun v H'=>Lb H' v l/\Kp H H':=by
 refine cz C.q170 zU fun T hl a=>?_;rcases hs.nilcase with ⟨rfl,rfl⟩ | hne
 ·have e:b7 .eql .sl .nilSl .nilSl=some (.bool true):=rfl;refine zW (aC hl a e) ?_;exact ⟨SlV.nil _ _ _,zK⟩
 ·have f:cP ([]:List AV) []=some []:=rfl;refine zW (aZ hl a hne f) ?_;have k1:Kp H ((H.up 7).put (H.next+3) (.cells [] ae true)):=zK;have n:=k1.le;have h0:SlV (bz cq) ae ((H.up 7).put (H.next+3) (.cells [] ae true)) (.own (H.next+3) 0 0 0 1 true) ([]:List Nat) :=
   (show Own (bz cq) ae H _ (H.next+3) true _ [] from ⟨_,rfl,am _ _ _,Cells.nil _ _,zO⟩).sl
  obtain ⟨i,H2,c,h2,g,k,m,-⟩:=SlV.app (l:=[]) (id:=H.next+5) (bytes:=8) h0 k1 (hs.mono k1.sub) zO (by show _<H.next+7; omega) (by rw [aw zO]; exact h.fresh (b:=H.next+5) zO) zS zS;have d:dq ((H.up 7).put (H.next+3) (.cells [] ae true)) (H.next+5) 1 8 ae (.own (H.next+3) 0 0 0 1 true) s=some (i,H2):=c;refine zW (aC hl a d) ?_;exact ⟨h2,g⟩
def intE:gr Int where
 sz:=2
 tys:=[ae]
 R H cs z:=∃ v,cs=[.bool (decide (z<0)),v]/\cm H v z.natAbs
 pos:=zO
 len:=by rintro H cs z ⟨v,rfl,h⟩; exact ⟨rfl,by simp [h.one.2]; rfl⟩
 mono:=by rintro H H' cs z hs ⟨v,rfl,h⟩; exact ⟨v,rfl,h.monoT hs⟩
def IntV (H:Heap) (v:AV) (z:Int):Prop:=∃ w,v=.agg [.bool (decide (z<0)),w]/\cm H w z.natAbs
def fm (z:Int):Prop:=Sm z.natAbs
def IntV.mono {H H':Heap} (hs:Sub H H') {v:AV} {z:Int} (h:IntV H v z):IntV H' v z:=by
 obtain ⟨w,rfl,h⟩:=h; exact ⟨w,rfl,h.mono hs⟩
def bZ (n:Nat):(0<(ah n).length) ↔ n≠0:=by
 rw [List.length_pos_iff];exact not_congr limbs_nil
def fq (C:Code tab) (f:Wf H) {v:AV} {z:Int} (c:IntV H v z) (d:fm z):Ans tab (.fn kY [v]) H fun v H'=>v=.int .i64 0/\Kp H H':=by
 obtain ⟨w,rfl,hn⟩:=c;unfold fm Sm at d;have i:=hn.one;refine cz C.q101 zU fun T hl a=>?_;refine zW (aB hl a) ?_;have k1:Kp H ((H.up 16).put H.next (.cells [.bool (decide (z<0)),w] aa true)):=zK;have g:=k1.le;refine AnsH.eq (pg C k1.wf (hn.mono k1.sub) zO) fun H2 b=>?_;rw [if_neg (dI _)];have k2:=k1.trans b;have b0:H2.get H.next=some (.cells [.bool (decide (z<0)),w] aa true):=b.get (am _ _ _)
 refine zW (aC hl a @b0) ?_;refine iteH.split (fun h=>?_) fun h=>?_
 ·have:¬ (ah z.natAbs).length=0:=by have:=(bZ z.natAbs).2 zO; omega
  have e:decide (((ah z.natAbs).length:Int)=0)=false:=by simp; intro h; rw [h] at this; exact this rfl
  refine zW (fy hl a @b0 hn.lenV h e) ?_;exact zK
 ·refine zW (aZ hl a @b0 h) ?_;exact zK
def jM {ty:Nat} {v:AV} {l:List Int} (hs:SlV intE ty H v l) {i:Nat} (hi:i<l.length):∃ w,cm H w (l[i]).natAbs/\bc H (some 2) (az v (i*2))=some (.agg [.bool (decide (l[i]<0)),w])/\bc H none (az v (i*2))=some (.bool (decide (l[i]<0)))/\bc H none (az v (i*2+1))=some w:=by
 obtain ⟨cs,⟨w,rfl,hn⟩,-,h1,h2⟩:=hs.at (zh hi);exact ⟨w,hn,h2,h1 0 _ rfl,h1 1 _ rfl⟩
def JC {c:Heap} {b ty:Nat} {x y:Int} {p q:AV} (hx:cm H p x.natAbs) (hy:cm H q y.natAbs) (hs:Sub H c) (hg:c.get b=some (.cells [.bool (decide (x<0)),p,.bool (decide (y<0)),q] ty true)):SlV intE ty c (.own b 0 2 2 2 true) [x,y] :=
 ⟨_,Rd.own hg rfl (Jv _),fun _ _ _ _ _ _ e=>by cases e; exact ⟨_,_,hg⟩,rfl,fun i a hi=>by
  match i with
  | 0=>simp at hi; subst hi; exact ⟨p,rfl,hx.mono hs⟩
  | 1=>simp at hi; subst hi; exact ⟨q,rfl,hy.mono hs⟩
  | i+2=>simp at hi⟩
def ir (C:Code tab) (q:Wf H) {v:AV} {ls:List Int} {ty:Nat} (hs:SlV intE ty H v ls) (o:ls.length<4611686018427387904) (hc:∀ z∈ls,fm z) :
  Ans tab (.fn lU [v]) H fun v H'=>v=.int .i64 0/\Kp H H':=by
 refine cz C.q155 zU fun T hl d=>?_;refine zW (aC hl d hs.lenV) ?_;refine aq H [] (fun _ _ _=>True) (a:=0) (N:=ls.length) rfl (by refine zW (aB hl d) ?_; rfl) (zV (aB hl d)) (WG _) zO (by simp only [jL,hl]; rfl) rfl (fun _ _ _ _ h=>h) zK trivial ?_ ?_
 ·intro j T1 e _ hj b i f c _;have w1:=c.wf;have r:=c.le;have n:ad T1 6=v:=(f.at_ 6 zU).trans (zV (aB hl d));obtain ⟨w,hn,m,-,-⟩:=jM (hs.mono c.sub) hj;have k:cG 2 v (.int .i64 (j:Int))=some (az v (j*2)):=SlV.idx hs .i64 j hj;have g:=hc _ (EL hj);have s:=hn.one;simp only [jL,hl] at b;refine zW (cn b n i k m) ?_;have p:=c.le;refine AnsH.eq (fq C zF ⟨w,rfl,hn.mono (zG e)⟩ g) fun H2 l=>?_;obtain ⟨k2,_,_⟩:=zT H zK l;refine zW b ?_;exact zK
 ·intro T1 e b f c _;simp only [jL,hl] at b;refine zW b ?_;exact zK
def pk {w:AV} {n:Nat} (b:Bool) (h:cm H w n):IntV H (.agg [.bool (b && decide (0<(ah n).length)),w]) (if b then -(n:Int) else n):=by
 refine ⟨w,?_,?_⟩
 ·have:=bZ n
  congr 3;cases b
  ·simp
  ·simp only [Bool.true_and,if_true];by_cases h0:n=0
   ·simp [h0,cD]
   ·have h1:=this.2 h0;simp [h1]; omega
 ·cases b
  ·simpa using h
  ·simpa using h
def Cc (C:Code tab) (n:Wf H) {v:AV} {z:Int} (l:IntV H v z) (i:fm z):Ans tab (.fn rh [v]) H fun v H'=>∃ r,v=.tup [r,.int .i64 0]/\IntV H' r (-z)/\Kp H H':=by
 obtain ⟨w,rfl,hn⟩:=l;have s:=hn.one;refine cz C.q162 zU fun T hl a=>?_;refine zW (aB hl a) ?_;refine AnsH.eq (fq C zF ⟨w,rfl,hn.mono (zG H)⟩ i) fun H2 c=>?_;obtain ⟨k2,_,_⟩:=zT H zK c;have b0:H2.get H.next=some (.cells [.bool (decide (z<0)),w] aa true):=c.get (cY)
 have b:H2.get (H.next+1)=some (.cells [.bool false,.nilSl] aa true):=c.get (cY);refine zW (aB hl a) ?_;refine aJ ?_;refine zD (aZ hl a @b0 b) ?_;unfold fm Sm at i;have w2:=k2.wf;refine AnsH.use (kI C zF (hn.mono (zG H)) zO) ?_;rintro v3 g ⟨h3,d⟩;obtain ⟨o,_,t⟩:=zT H zK d;refine zD (aZ hl a @b0 b) ?_;refine AnsH.use (fJ C zF h3 _) ?_;rintro v4 j ⟨rfl,f⟩;obtain ⟨m,_,_⟩:=zT H zK f;have q:=h3.one;have k:g.get H.next=some (.cells [.bool (decide (z<0)),w] aa true):=d.get b0
 have d1:j.get (H.next+1)=some (.cells [.bool false,.nilSl] aa true):=f.get (d.get b);refine zD (fy hl a @b0 b k d1) ?_;have p:=m.wf _ _ d1;refine ⟨_,rfl,?_,zK⟩;have hm:=pk (!decide (z<0)) ((h3.mono (Kp.sub (H:=g) (Kp.trans zK f))).monoT (SubT.put_ty (e:=.cells [.bool (!decide (z<0) && decide (0<(ah z.natAbs).length)),v3] aa true) d1 zU));have e:(if (!decide (z<0))=true then -((z.natAbs:Nat):Int) else ((z.natAbs:Nat):Int)) = -z:=by
  by_cases h:z<0 <;> simp [h] <;> omega
 rw [e] at hm;exact hm
end
section
variable {tab:Nat->Option au} {H:Heap}
def OQ (x y:Int):(decide (x<0) == decide (y<0))=decide ((x<0)=(y<0)):=by
 by_cases hx:x<0 <;> by_cases hy:y<0 <;> simp [hx,hy]
def Cb (C:Code tab) (D:Wf H) {a b:AV} {x y:Int} (ha:IntV H a x) (hb:IntV H b y) (hx:fm x) (hy:fm y):Ans tab (.fn rf [a,b]) H fun v H'=>IntV H' v (x+y)/\Kp H H':=by
 obtain ⟨p,rfl,hp⟩:=ha;obtain ⟨q,rfl,hq⟩:=hb;have op:=hp.one;have F:=hq.one;refine bE C.q157 zU fun T hl f g=>?_;refine zW (aC hl f g) ?_;have fin:∀ (c:Heap) (j:Kp H c) (bb:Bool) (o:AV) (n:Nat) (z:Int),c.get (H.next+2)=some (.cells [.bool false,.nilSl] aa true)->Lb c o (ah n)->(if bb then -(n:Int) else n)=z ->
   IntV (c.put (H.next+2) (.cells [.bool (bb && decide (0<(ah n).length)),o] aa true)) (.agg [.bool (bb && decide (0<(ah n).length)),o]) z/\Kp H (c.put (H.next+2) (.cells [.bool (bb && decide (0<(ah n).length)),o] aa true)):=by
  intro c j bb o n z d1 d A;have E:=j.wf _ _ d1;refine ⟨?_,zK⟩;rw [<- A];exact pk bb (d.monoT (SubT.put_ty d1 zU))
 refine iteH.split (fun h=>?_) fun h=>?_
 ·rw [OQ] at h;simp only [decide_eq_true_eq,eq_iff_iff] at h;refine zW (aC hl f g) ?_;refine AnsH.use (Jt C zF (hp.mono (zG H)) (hq.mono (zG H)) hx hy) ?_;rintro v H2 ⟨o,rfl,d,i⟩;obtain ⟨k2,_,w2⟩:=zT H zK i;have b0:H2.get H.next=some (.cells [.bool (decide (x<0)),p] aa true):=i.get (cY)
  have k:H2.get (H.next+2)=some (.cells [.bool false,.nilSl] aa true):=i.get (cY);refine zW (aZ hl f g @b0) ?_;refine AnsH.use (fJ C zF (d.mono (zG H2)) _) ?_;rintro v3 c ⟨rfl,e⟩;obtain ⟨j,_,_⟩:=zT H zK e;have s:=d.one;have d1:=e.get (b:=H.next+2) k;refine zW (aZ hl f g d1) ?_;refine fin c j _ _ _ _ d1 (d.mono (Kp.sub (H:=H2) (Kp.trans zK e))) ?_;by_cases h1:x<0 <;> simp [h1] <;> omega
 ·rw [OQ] at h;simp only [decide_eq_true_eq,eq_iff_iff] at h;refine zW (aC hl f g) ?_;refine AnsH.use (DW C zF (hp.mono (zG H)) (hq.mono (zG H)) hx hy) ?_;rintro v H2 ⟨i,hr⟩;obtain ⟨k2,_,w2⟩:=zT H zK i;have b0:H2.get H.next=some (.cells [.bool (decide (x<0)),p] aa true):=i.get (cY)
  have m:H2.get (H.next+1)=some (.cells [.bool (decide (y<0)),q] aa true):=i.get (cY);have k:H2.get (H.next+2)=some (.cells [.bool false,.nilSl] aa true):=i.get (cY);by_cases r:y.natAbs<=x.natAbs
  ·rw [if_pos r] at hr;obtain ⟨o,rfl,d⟩:=hr;refine zW (aZ hl f g @b0) ?_;refine AnsH.use (fJ C zF (d.mono (zG H2)) _) ?_;rintro v3 c ⟨rfl,e⟩;obtain ⟨j,_,_⟩:=zT H zK e;have s:=d.one;have d1:=e.get (b:=H.next+2) k;refine zW (aZ hl f g d1) ?_;refine fin c j _ _ _ _ d1 (d.mono (Kp.sub (H:=H2) (Kp.trans zK e))) ?_;by_cases h1:x<0 <;> simp [h1] <;> omega
  ·rw [if_neg r] at hr;subst hr;refine zW (cn hl f g @b0 m) ?_;refine AnsH.use (DW C zF (hq.mono (zG H)) (hp.mono (zG H)) hy hx) ?_;rintro v c ⟨e,hr⟩;rw [if_pos zO] at hr;obtain ⟨o,rfl,d⟩:=hr;obtain ⟨j,_,G⟩:=zT H zK e;have u:=e.get (b:=H.next+1) m;have w:=e.get (b:=H.next+2) k;refine zW (aZ hl f g @u) ?_;refine AnsH.use (fJ C zF (d.mono (zG c)) _) ?_;rintro v4 t ⟨rfl,l⟩;obtain ⟨B,_,_⟩:=zT H zK l;have s:=d.one;have d1:=l.get (b:=H.next+2) w;refine zW (aZ hl f g d1) ?_;refine fin t B _ _ _ _ d1 (d.mono (Kp.sub (H:=c) (Kp.trans zK l))) ?_;by_cases h1:y<0 <;> simp [h1] <;> omega
end
end Go.Proofs.YtiigaeehghcjiaaGreat.Ev
