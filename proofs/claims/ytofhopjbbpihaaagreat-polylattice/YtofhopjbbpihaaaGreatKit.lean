/- A part. -/
import Derived.Test.YtofhopjbbpihaaaGreatA0
import Derived.Test.YtofhopjbbpihaaaGreatEvDraw5
import Derived.Test.YtofhopjbbpihaaaGreatProg
namespace Go.Proofs.YtofhopjbbpihaaaGreat.Ev
open Go
set_option linter.all false
def Heap.up (H:Heap) (k:Nat):Heap:={ H with next:=H.next+k }
theorem RZ (H:Heap) (a b:Nat):(H.up a).up b=H.up (a+b):=by simp [Heap.up,US]
theorem Q8 (H:Heap) (b k:Nat) (e:Ent):(H.put b e).up k=(H.up k).put b e:=rfl
theorem Pt (H:Heap) (b k:Nat):(H.kill b).up k=(H.up k).kill b:=rfl
theorem da (H:Heap) (k:Nat):(H.up k).next=H.next+k:=rfl
theorem next_put (H:Heap) (b:Nat) (e:Ent):(H.put b e).next=H.next:=rfl
theorem next_kill (H:Heap) (b:Nat):(H.kill b).next=H.next:=rfl
theorem Rr (H:Heap) (k b:Nat):(H.up k).get b=H.get b:=rfl
theorem aq (H:Heap) (b:Nat) (e:Ent):(H.put b e).get b=some e:=by rw [Ff,if_pos rfl]
theorem aA {H:Heap} {b c:Nat} {e:Ent} (h:c≠b):(H.put b e).get c=H.get c:=by rw [Ff,if_neg h]
theorem cZ {H:Heap} {b c:Nat} (h:c≠b):(H.kill b).get c=H.get c:=by rw [KA,if_neg h]
structure Kp (H H':Heap):Prop where
 wf0:Wf H
 wf:Wf H'
 le:H.next<=H'.next
 same:∀ b,b<H.next->H'.get b=H.get b
theorem Kp.sub {H H':Heap} (h:Kp H H'):Sub H H':=⟨h.le,fun b e hb=>(h.same b (h.wf0 b e hb)).trans hb⟩
def Zh:=@Kp.sub
theorem Kp.refl {H:Heap} (h:Wf H):Kp H H:=⟨h,h,TO _,fun _ _=>rfl⟩
def Zg:=@Kp.refl
theorem Kp.up {H H':Heap} (h:Kp H H') (k:Nat):Kp H (H'.up k):=⟨h.wf0,h.wf.bump k,Ub h.le (Uu _ _),h.same⟩
theorem Kp.trans {H H' H'':Heap} (h:Kp H H') (h':Kp H' H''):Kp H H'':=⟨h.wf0,h'.wf,Ub h.le h'.le,fun b hb=>(h'.same b (Ue hb h.le)).trans (h.same b hb)⟩
def Zi:=@Kp.trans
theorem Kp.get {H H':Heap} (h:Kp H H') {b:Nat} {e:Ent} (hb:H.get b=some e):H'.get b=some e:=h.sub.get b e hb
theorem Kp.put {H H':Heap} (h:Kp H H') {b:Nat} {e:Ent} (h1:H.next<=b) (h2:b<H'.next):Kp H (H'.put b e):=⟨h.wf0,h.wf.put h2 e,h.le,fun c hc=>by rw [aA (by omega)]; exact h.same c hc⟩
theorem Kp.kill {H H':Heap} (h:Kp H H') {b:Nat} (h1:H.next<=b):Kp H (H'.kill b):=⟨h.wf0,h.wf.kill b,h.le,fun c hc=>by rw [cZ (by omega)]; exact h.same c hc⟩
theorem Kp.old {H H':Heap} (h:Kp H H') {b:Nat} {e:Ent} (hb:H.get b=some e):b<H.next:=h.wf0 b e hb
theorem Kp.free {H H':Heap} (h:Kp H H') {b:Nat} (h1:b<H.next) (h2:H.get b=none):H'.get b=none:=(h.same b h1).trans h2
def I4 (os:List D6):List Nat:=os.filterMap (·.dst)
def fI:ACode->List Nat
 | .region os=>I4 os
 | .draw ds _=>ds.filterMap (·.dst)
 | .drawF ds _ l _=>(ds++[l]).filterMap (·.dst)
 | .seq a b=>fI a++fI b
 | .cond _ a b=>fI a++fI b
 | .block _ a=>fI a
 | .loop a=>fI a
 | .scope a=>fI a
 | _=>[]
def wx (res:List (Nat × Option (Option Nat))) (Q:AV->Heap->Prop) (x:Ex) (T:Tm) (H:Heap):Prop:=(x=.nrm\/x=.ret)/\∃ v,ck T H res=some v/\Q v H
theorem MF {res:List (Nat × Option (Option Nat))} {Q:AV->Heap->Prop} {T:Tm} {H:Heap}:wx res Q .nrm T H=gw (ck T H res) (fun v=>Q v H) ():=by
 unfold wx gw ik
 cases ck T H res <;> simp
theorem ME {res:List (Nat × Option (Option Nat))} {Q:AV->Heap->Prop} {T:Tm} {H:Heap}:wx res Q .ret T H=gw (ck T H res) (fun v=>Q v H) ():=by
 unfold wx gw ik
 cases ck T H res <;> simp
def uE (H:Heap) (v:AV):Option (Option Nat)->Option AV
 | none=>some v
 | some k=>match v with
  | .ptr b o=>bg H k (.ptr b o)
  | _=>none
theorem JZ (H:Heap) (v:AV):uE H v none=some v:=rfl
theorem MG (H:Heap) (b o:Nat) (k:Option Nat):uE H (.ptr b o) (some k)=bg H k (.ptr b o):=rfl
theorem kO (T:Tm) (H:Heap) (r:Nat × Option (Option Nat)):oN T H r=uE H (aa T r.1) r.2:=by
 obtain ⟨n,k⟩:=r
 cases k with
 | none=>rfl
 | some k=>simp only [oN,uE]; cases aa T n <;> rfl
def QS (a b:Option AV):Option AV:=a.bind fun a=>b.bind fun b=>some (.tup [a,b])
def QR (a b c:Option AV):Option AV:=a.bind fun a=>b.bind fun b=>c.bind fun c=>some (.tup [a,b,c])
theorem JH (a b:AV):QS (some a) (some b)=some (.tup [a,b]):=rfl
theorem JG (a b c:AV):QR (some a) (some b) (some c)=some (.tup [a,b,c]):=rfl
theorem Q3 (T:Tm) (H:Heap):ck T H []=some (.tup []):=rfl
theorem Q2 (T:Tm) (H:Heap) (r:Nat) (k:Option (Option Nat)):ck T H [(r,k)]=uE H (aa T r) k:=by
 show (List.mapM (oN T H) [(r,k)]).bind _=_
 rw [<- kO T H (r,k)]
 simp only [Vn,Yb]
 cases oN T H (r,k) <;> rfl
theorem Q0 (T:Tm) (H:Heap) (r s:Nat) (k l:Option (Option Nat)):ck T H [(r,k),(s,l)]=QS (uE H (aa T r) k) (uE H (aa T s) l):=by
 show (List.mapM (oN T H) [(r,k),(s,l)]).bind _=_
 rw [<- kO T H (r,k),<- kO T H (s,l)]
 simp only [Vn,Yb,QS]
 cases oN T H (r,k) <;> cases oN T H (s,l) <;> rfl
theorem MB (T:Tm) (H:Heap) (r s t:Nat) (k l m:Option (Option Nat)):ck T H [(r,k),(s,l),(t,m)]=QR (uE H (aa T r) k) (uE H (aa T s) l) (uE H (aa T t) m):=by
 show (List.mapM (oN T H) [(r,k),(s,l),(t,m)]).bind _=_
 rw [<- kO T H (r,k),<- kO T H (s,l),<- kO T H (t,m)]
 simp only [Vn,Yb,QR]
 cases oN T H (r,k) <;> cases oN T H (s,l) <;> cases oN T H (t,m) <;> rfl
section
variable {tab:Nat->Option aw} {f n:Nat} {res:List (Nat × Option (Option Nat))} {body:ACode} {H:Heap} {Q:AV->Heap->Prop}
theorem SW (hf:tab f=some ⟨0,n,res,body,none⟩) (h:∀ T:Tm,T.length=n->WC tab false body T H (wx res Q)):Ans tab (.fn f []) H Q :=
 pg hf rfl rfl (TY _) fun T hl g=>h T hl
theorem cU {a:AV} (hf:tab f=some ⟨1,n,res,body,none⟩) (hn:1<=n) (h:∀ T:Tm,T.length=n->aa T 0=a->WC tab false body T H (wx res Q)):Ans tab (.fn f [a]) H Q :=
 pg hf rfl rfl hn fun T hl g=>h T hl (g 0 (by simp))
theorem bz {a b:AV} (hf:tab f=some ⟨2,n,res,body,none⟩) (hn:2<=n) (h:∀ T:Tm,T.length=n->aa T 0=a->aa T 1=b->WC tab false body T H (wx res Q)):Ans tab (.fn f [a,b]) H Q :=
 pg hf rfl rfl hn fun T hl g=>h T hl (g 0 (by simp)) (g 1 (by simp))
theorem nd {a b c:AV} (hf:tab f=some ⟨3,n,res,body,none⟩) (hn:3<=n) (h:∀ T:Tm,T.length=n->aa T 0=a->aa T 1=b->aa T 2=c->WC tab false body T H (wx res Q)):Ans tab (.fn f [a,b,c]) H Q :=
 pg hf rfl rfl hn fun T hl g=>h T hl (g 0 (by simp)) (g 1 (by simp)) (g 2 (by simp))
theorem Py {a b c d:AV} (hf:tab f=some ⟨4,n,res,body,none⟩) (hn:4<=n) (h:∀ T:Tm,T.length=n->aa T 0=a->aa T 1=b->aa T 2=c->aa T 3=d->WC tab false body T H (wx res Q)):Ans tab (.fn f [a,b,c,d]) H Q :=
 pg hf rfl rfl hn fun T hl g=>h T hl (g 0 (by simp)) (g 1 (by simp)) (g 2 (by simp)) (g 3 (by simp))
theorem St {a b:AV} (hf:tab f=some ⟨2,n,res,body,none⟩) (hn:2<=n) (h:∀ T:Tm,T.length=n->aa T 0=a->aa T 1=b->WC tab false body T H (wx res Q)):Ans tab (.ent f [a,b]) H Q :=
 Bf hf rfl rfl hn fun T hl g=>h T hl (g 0 (by simp)) (g 1 (by simp))
theorem S2 {a b c:AV} (hf:tab f=some ⟨3,n,res,body,none⟩) (hn:3<=n) (h:∀ T:Tm,T.length=n->aa T 0=a->aa T 1=b->aa T 2=c->WC tab false body T H (wx res Q)):Ans tab (.ent f [a,b,c]) H Q :=
 Bf hf rfl rfl hn fun T hl g=>h T hl (g 0 (by simp)) (g 1 (by simp)) (g 2 (by simp))
end
theorem S0 (a:AV) (l:List AV):Fm 0 (.tup (a :: l))=some a:=rfl
theorem SZ (a b:AV) (l:List AV):Fm 1 (.tup (a :: b :: l))=some b:=rfl
theorem SY (a b c:AV) (l:List AV):Fm 2 (.tup (a :: b :: c :: l))=some c:=rfl
theorem Rv (off b o:Nat):Ay off (.ptr b o)=some (.ptr b (o+off)):=rfl
theorem KM (k:Option Nat) (off:Nat) (cs:List AV):DF k off (.agg cs)=bH cs off k:=rfl
theorem Ph (b o:Nat):zQ (.ptr b o)=some (.ptr b o):=rfl
theorem Re (f:Nat) (a c:List AV):zQ (.fn (.func f) a c)=some (.fn (.func f) a c):=rfl
def HF (neg:Bool) (n:Nat):AV->AV->Option AV
 | .agg a,.agg b=>(match n with | 0=>Fs a b | n+1=>rk (n+1) a b).map fun r=>.bool (if neg then !r else r)
 | _,_=>none
theorem LL {tab:Nat->Option aw} (ev:Src->AV) (H:Heap) (id:Nat) (Q:AV->Heap->Prop) (neg:Bool) (n:Nat) (x y:Src):mA tab ev H id (.eqAgg neg n x y) Q=gw (HF neg n (ev x) (ev y)) (fun v=>Q v H) ():=by
 rw [bY,dR tab ev H id Q (o:=.eqAgg neg n x y) (v:=HF neg n (ev x) (ev y)) (fun f a e=>by cases e) (by simp only [aN]; cases ev x <;> cases ev y <;> rfl) rfl]; rfl
def Sl (len size:Nat) (k:Option Nat) (v i:AV):Option AV:=aN (fun s=>match s with | .t 0=>v | _=>i) (.indexAgg len size k (.t 0) (.t 1))
theorem D9 {tab:Nat->Option aw} (ev:Src->AV) (H:Heap) (id:Nat) (Q:AV->Heap->Prop) (len size:Nat) (k:Option Nat) (x i:Src):mA tab ev H id (.indexAgg len size k x i) Q=gw (Sl len size k (ev x) (ev i)) (fun v=>Q v H) ():=by
 rw [bY,dR tab ev H id Q (o:=.indexAgg len size k x i) (v:=Sl len size k (ev x) (ev i)) (fun f a e=>by cases e) (by simp only [aN,Sl]) rfl]; rfl
theorem SU (k:IntKind) (a b:AV):Sl 2 1 none (.agg [a,b]) (.int k 0)=some a:=rfl
theorem ST (k:IntKind) (a b:AV):Sl 2 1 none (.agg [a,b]) (.int k 1)=some b:=rfl
theorem Ry (a b c d:Bool):HF false 0 (.agg [.bool a,.bool b]) (.agg [.bool c,.bool d])=some (.bool (a == c && b == d)):=rfl
theorem QO (k:IntKind) (n:Int):QP .neg (.int k n)=some (.int k (k.wrap (0-n))):=rfl
section
variable (a b:Nat)
theorem Lf (x y:Int):bX .add .int (.int .i64 x) (.int .i64 y)=some (.int .i64 (IntKind.i64.wrap (x+y))):=DT _ _ _
theorem K9 (x y:Int):bX .sub .int (.int .i64 x) (.int .i64 y)=some (.int .i64 (IntKind.i64.wrap (x-y))):=Jg _ _ _
theorem Lc (x y:Int):bX .mul .int (.int .i64 x) (.int .i64 y)=some (.int .i64 (IntKind.i64.wrap (x*y))):=Jh _ _ _
theorem Le:bX .add .int (.int .u64 (a:Int)) (.int .u64 (b:Int))=some (.int .u64 (((a+b) % 18446744073709551616:Nat):Int)):=by
 rw [DT,kU]; congr 2
theorem xo:bX .mul .int (.int .u64 (a:Int)) (.int .u64 (b:Int))=some (.int .u64 (((a*b) % 18446744073709551616:Nat):Int)):=by
 rw [Jh,kU]; congr 2
theorem xn (h:b<=18446744073709551616):bX .sub .int (.int .u64 (a:Int)) (.int .u64 (b:Int))=some (.int .u64 (((a+18446744073709551616-b) % 18446744073709551616:Nat):Int)):=by
 rw [Jg,kU]; congr 2; omega
theorem HV:bX .and .int (.int .u64 (a:Int)) (.int .u64 4294967295)=some (.int .u64 ((a % 4294967296:Nat):Int)):=by
 have e:(BitVec.ofInt 64 (a:Int) &&& BitVec.ofInt 64 4294967295).toNat=a % 4294967296:=by
  rw [BitVec.toNat_and]
  have h1:(BitVec.ofInt 64 (a:Int)).toNat=a % 2^64:=by simp
  have h2:(BitVec.ofInt 64 4294967295).toNat=2^32-1:=by decide
  rw [h1,h2,Nat.and_two_pow_sub_one_eq_mod]
  omega
 show some (AV.int .u64 (IntKind.u64.wrap ((BitVec.ofInt 64 (a:Int) &&& BitVec.ofInt 64 4294967295).toNat:Nat)))=_
 rw [e,gn (by omega) (by omega)]
theorem sA {k:IntKind} (hb:b<64):bX .shr .int (.int .u64 (a:Int)) (.int k (b:Int))=some (.int .u64 ((a / 2^b:Nat):Int)):=by
 show lC .shr .u64 (a:Int) (b:Int)=_
 unfold lC
 rw [if_neg (by omega)]
 have h1:Nat.min (b:Int).toNat IntKind.u64.bits=b:=by
  have:IntKind.u64.bits=64:=rfl
  rw [this,VK]; exact UZ (by omega)
 simp only [h1]
 congr 2
 rw [XT _ (VF (Int.pow_pos (by omega)))]
 simp
theorem La:bX .shr .int (.int .u64 (a:Int)) (.int .u64 32)=some (.int .u64 ((a / 4294967296:Nat):Int)):=sA a 32 (by omega)
end
theorem GK (T:Tm) (t:Nat) (v:AV) (r:List (Nat × AV)):oO T ((t,v) :: r)=oO (T.set t v) r:=rfl
theorem J5 (T:Tm):oO T []=T:=rfl
def mV (v:AV) (w:Bool) (P Q:Prop) (_:Gb P) (_:Gb Q):Prop:=match v with
 | .bool b=>if b=w then P else Q
 | .tup []=>Q
 | _=>False
theorem Fd (b w:Bool) (P Q:Prop):mV (.bool b) w P Q () ()=iteH (b=w) P Q () ():=rfl
theorem Ht (w:Bool) (P Q:Prop):mV (.tup []) w P Q () ()=Q:=rfl
section
variable {tab:Nat->Option aw} {rd:Bool} {T:Tm} {H:Heap}
theorem Jr {Q:Tm->Heap->Prop} {id:Nat} (d:Option Nat) (o:AOp) (t:Nat) (w:Bool) (os:List D6):DY tab id (⟨d,o,some (t,w)⟩ :: os) T H Q =
  mV (aa T t) w (mA tab (Src.ev T) H id o fun v H'=>DY tab (id+1) os (putT T d v) H' Q) (DY tab (id+1) os (putT T d (.tup [])) H Q) () ():=by
 rw [yS,bY]
 have hw:b7 T (some (t,w))=match aa T t with | .bool b=>some (b == w) | .tup []=>some false | _=>none:=by
  unfold aa
  rw [TI]
  cases h:T[t]? with
  | none=>simp only [b7,h]; rfl
  | some v =>
   simp only [b7,h,Vm]
   cases v with
   | tup vs=>cases vs <;> rfl
   | _=>rfl
 conv=>lhs; unfold xA
 simp only [hw,mV]
 cases aa T t with
 | bool b=>cases b <;> cases w <;> rfl
 | tup vs=>cases vs <;> rfl
 | _=>rfl
theorem Gf {Q:Ex->Tm->Heap->Prop} (ops:List D6):WC tab rd (.region ops) T H Q=Q6 H.next (H.up ops.length) (fun id H'=>DY tab id ops T H' (Q .nrm)) ():=Js ops
theorem HM (P Q:Prop):Ja (.bool true) P Q () ()=P:=rfl
theorem FF (P Q:Prop):Ja (.bool false) P Q () ()=Q:=rfl
end
def Pz (id id1 i n c k:Nat) (body:ACode):ACode :=
 .block id (.loop (.seq (.region [⟨some c,.bin .lss .int (.t i) (.t n),none⟩]) (.seq (.cond (.t c) .skip (.exit id)) (.seq (.block id1 body)
  (.region [⟨some k,.bin .add .int (.t i) (.c (.int .i64 1)),none⟩,⟨some i,.mv (.t k),none⟩])))))
def NP (id:Nat) (c:ACode):ACode:=.block id (.loop c)
def iL:ACode->Bool
 | .rangeM ..=>false
 | .scopeL ..=>false
 | .seq a b=>iL a && iL b
 | .cond _ a b=>iL a && iL b
 | .block _ a=>iL a
 | .loop a=>iL a
 | .scope a=>iL a
 | _=>true
structure Same (D:List Nat) (T T':Tm):Prop where
 len:T'.length=T.length
 at_:∀ s,s ∉ D->aa T' s=aa T s
theorem Same.refl (D:List Nat) (T:Tm):Same D T T:=⟨rfl,fun _ _=>rfl⟩
def Zs:=@Same.refl
theorem Same.trans {D D':List Nat} {T T' T'':Tm} (h:Same D T T') (h':Same D' T' T''):Same (D++D') T T'' :=
 ⟨h'.len.trans h.len,fun s hs=>(h'.at_ s fun h1=>hs (Ve _ h1)).trans (h.at_ s fun h1=>hs (U0 _ h1))⟩
theorem Same.wide {D D':List Nat} {T T':Tm} (h:Same D T T') (hd:∀ s,s∈D->s∈D'):Same D' T T':=⟨h.len,fun s hs=>h.at_ s fun h1=>hs (hd s h1)⟩
theorem mp (T:Tm) (i j:Nat) (v:AV) (h:i≠j):aa (T.set i v) j=aa T j:=by
 unfold aa
 rw [TI,TI,VZ]
 rw [if_neg h]
theorem KB (T:Tm) (i j:Nat) (v:AV):aa (T.set i v) j=if i=j then (if i<T.length then v else .undef) else aa T j:=by
 by_cases h:i<T.length
 ·rw [uV T i j v h]; simp [h]
 ·unfold aa
  rw [List.set_eq_of_length_le (by omega)]
  by_cases hij:i=j
  ·subst hij; rw [TI,Uw (by omega)]; simp [h]
  ·simp [hij]
theorem NK:((0:Nat):Int)=0:=rfl
theorem Same.put (T:Tm) (d:Option Nat) (v:AV):Same d.toList T (putT T d v):=by
 cases d with
 | none=>exact Zs _ _
 | some d=>exact ⟨by simp [putT],fun s hs=>mp T d s v fun e=>hs (by simp [e])⟩
theorem BU {cal:oE}:∀ (os:List D6) (id:Nat) (T:Tm) (H:Heap) (T':Tm) (H':Heap),yD cal id os T H=some (T',H')->Same (I4 os) T T'
 | [],id,T,H,T',H',h=>by cases h; exact Zs _ _
 | o :: os,id,T,H,T',H',h=>by
  have key:∀ v H1,yD cal (id+1) os (putT T o.dst v) H1=some (T',H')->Same (I4 (o :: os)) T T':=fun v H1 h1=>by
   refine ((Same.put T o.dst v).trans (BU os _ _ _ _ _ h1)).wide fun s hs=>?_
   unfold I4 at hs ⊢
   cases hd:o.dst with
   | none=>rw [Yc hd]; simpa [hd] using hs
   | some d=>rw [Yd hd]; simpa [hd] using hs
  unfold yD at h
  split at h
  ·split at h
   ·exact key _ _ h
   ·cases h
  ·exact key _ _ h
  ·cases h
theorem xJ:∀ (ds:List jO) (vs:List AV) (T:Tm),Same (ds.filterMap (·.dst)) T (gu T ds vs)
 | [],vs,T=>by cases vs <;> exact Zs _ _
 | d :: ds,[],T=>⟨rfl,fun _ _=>rfl⟩
 | d :: ds,v :: vs,T=>by
  refine ((Same.put T d.dst v).trans (xJ ds vs _)).wide fun s hs=>?_
  cases hd:d.dst with
  | none=>rw [Yc hd]; simpa [hd] using hs
  | some d'=>rw [Yd hd]; simpa [hd] using hs
theorem B4 {D:List Nat} {body:Tm->Heap->Option (Ex × Tm × Heap)} (hb:∀ T H x T' H',body T H=some (x,T',H')->Same D T T') :
  ∀ (n:Nat) (T:Tm) (H:Heap) (x:Ex) (T':Tm) (H':Heap),Ar body n T H=some (x,T',H')->Same D T T'
 | 0,_,_,_,_,_,h=>by cases h
 | n+1,T,H,x,T',H',h=>by
  unfold Ar at h
  split at h
  ·rename_i T1 H1 h1
   exact ((hb _ _ _ _ _ h1).trans (B4 hb n _ _ _ _ _ h)).wide fun s hs=>by simpa using hs
  ·exact hb _ _ _ _ _ h
theorem dH {cal:oE} {m:Nat} {rd:Bool}:∀ (c:ACode) (T:Tm) (H:Heap) (x:Ex) (T':Tm) (H':Heap),iL c=true->aJ cal m rd c T H=some (x,T',H')->Same (fI c) T T'
 | .skip,T,H,x,T',H',_,h=>by cases h; exact Zs _ _
 | .exit _,T,H,x,T',H',_,h=>by cases h; exact Zs _ _
 | .goto _,T,H,x,T',H',_,h=>by cases h; exact Zs _ _
 | .ret,T,H,x,T',H',_,h=>by cases h; exact Zs _ _
 | .region os,T,H,x,T',H',_,h=>by
  simp only [aJ] at h
  split at h
  ·rename_i h1; cases h; exact BU _ _ _ _ _ _ h1
  ·cases h
 | .draw ds late,T,H,x,T',H',_,h=>by
  simp only [aJ] at h
  split at h
  ·rename_i h1
   cases h
   unfold Fv at h1
   split at h1
   ·cases h1
   ·split at h1
    ·cases h1; exact xJ _ _ _
    ·cases h1
  ·cases h
 | .drawF ..,T,H,x,T',H',_,h=>by cases h
 | .seq a b,T,H,x,T',H',hp,h=>by
  simp only [iL,Uq] at hp
  simp only [aJ] at h
  split at h
  ·rename_i T1 H1 h1
   exact (dH a _ _ _ _ _ hp.1 h1).trans (dH b _ _ _ _ _ hp.2 h)
  ·exact (dH a _ _ _ _ _ hp.1 h).wide fun s hs=>U0 _ hs
 | .cond c a b,T,H,x,T',H',hp,h=>by
  simp only [iL,Uq] at hp
  simp only [aJ] at h
  split at h
  ·exact (dH a _ _ _ _ _ hp.1 h).wide fun s hs=>U0 _ hs
  ·exact (dH b _ _ _ _ _ hp.2 h).wide fun s hs=>Ve _ hs
  ·cases h
 | .block id a,T,H,x,T',H',hp,h=>by
  simp only [aJ] at h
  split at h
  ·rename_i h1
   split at h
   ·cases h; exact dH a _ _ _ _ _ hp h1
   ·cases h; exact dH a _ _ _ _ _ hp h1
  ·exact dH a _ _ _ _ _ hp h
 | .loop a,T,H,x,T',H',hp,h=>by
  simp only [aJ] at h
  exact B4 (fun T H x T' H' h1=>dH a _ _ _ _ _ hp h1) _ _ _ _ _ _ h
 | .scope a,T,H,x,T',H',hp,h=>by
  simp only [aJ] at h
  split at h
  ·cases h
  ·exact dH a _ _ _ _ _ hp h
 | .rangeFunc f ps asg body,T,H,x,T',H',_,h=>by
  have:T'=T:=by
   simp only [aJ] at h
   split at h
   ·cases h
   ·split at h
    ·split at h
     ·split at h
      ·cases h; rfl
      ·split at h <;> first | (cases h; rfl) | cases h
      ·cases h
     ·cases h
    ·cases h
  subst this; exact Zs _ _
 | .rangeM ..,T,H,x,T',H',hp,h=>by cases hp
 | .scopeL ..,T,H,x,T',H',hp,h=>by cases hp
def WB (tab:Nat->Option aw) (rd:Bool) (c:ACode) (T:Tm) (H:Heap) (Q:Ex->Tm->Heap->Prop):Prop:=∃ x T' H',Ob tab rd c T H x T' H'/\Q x T' H'
section
variable {tab:Nat->Option aw} {rd:Bool}
theorem WC.wb {c:ACode} {T:Tm} {H:Heap} {Q:Ex->Tm->Heap->Prop} (h:WC tab rd c T H Q):WB tab rd c T H Q:=eB c T H Q h.run
theorem WB.same {c:ACode} {T:Tm} {H:Heap} {Q:Ex->Tm->Heap->Prop} (h:WB tab rd c T H Q) (hp:iL c=true):WB tab rd c T H fun x T' H'=>Same (fI c) T T'/\Q x T' H':=by
 obtain ⟨x,T',H',⟨N,g⟩,hq⟩:=h
 exact ⟨x,T',H',⟨N,g⟩,dH c _ _ _ _ _ hp (g N N (TO _) (TO _)),hq⟩
theorem WB.mono {c:ACode} {T:Tm} {H:Heap} {Q Q':Ex->Tm->Heap->Prop} (h:WB tab rd c T H Q) (hq:∀ x T' H',Q x T' H'->Q' x T' H'):WB tab rd c T H Q':=by
 obtain ⟨x,T',H',hb,h⟩:=h
 exact ⟨x,T',H',hb,hq _ _ _ h⟩
theorem yZ {a b:ACode} {T:Tm} {H:Heap} {Q:Ex->Tm->Heap->Prop} (h:WB tab rd a T H fun x T' H'=>match x with | .nrm=>WB tab rd b T' H' Q | x=>Q x T' H'):WB tab rd (.seq a b) T H Q:=by
 obtain ⟨x,T1,H1,⟨N1,g1⟩,h1⟩:=h
 by_cases hx:x=.nrm
 ·subst hx
  obtain ⟨y,T2,H2,⟨N2,g2⟩,h2⟩:=h1
  refine ⟨y,T2,H2,⟨N1+N2,fun m n hm hn=>?_⟩,h2⟩
  simp only [aJ,g1 m n (by omega) (by omega)]
  exact g2 m n (by omega) (by omega)
 ·refine ⟨x,T1,H1,⟨N1,fun m n hm hn=>?_⟩,?_⟩
  ·simp only [aJ,g1 m n hm hn]
   all_goals (cases x <;> first | rfl | exact absurd rfl hx)
  ·cases x <;> first | exact h1 | exact absurd rfl hx
theorem OM {c:Src} {a b:ACode} {T:Tm} {H:Heap} {Q:Ex->Tm->Heap->Prop} {v:Bool} (hc:c.ev T=.bool v) (h:if v=true then WB tab rd a T H Q else WB tab rd b T H Q):WB tab rd (.cond c a b) T H Q:=by
 cases v with
 | true =>
  obtain ⟨x,T1,H1,⟨N1,g1⟩,h1⟩:=h
  exact ⟨x,T1,H1,⟨N1,fun m n hm hn=>by simp only [aJ,hc]; exact g1 m n hm hn⟩,h1⟩
 | false =>
  obtain ⟨x,T1,H1,⟨N1,g1⟩,h1⟩:=h
  exact ⟨x,T1,H1,⟨N1,fun m n hm hn=>by simp only [aJ,hc]; exact g1 m n hm hn⟩,h1⟩
theorem L5 {id:Nat} {a:ACode} {T:Tm} {H:Heap} {Q:Ex->Tm->Heap->Prop} (h:WB tab rd a T H (uj id Q)):WB tab rd (.block id a) T H Q:=by
 obtain ⟨x,T1,H1,⟨N1,g1⟩,h1⟩:=h
 cases x with
 | exit id' =>
  simp only [uj] at h1
  by_cases hi:id'=id
  ·rw [if_pos hi] at h1
   exact ⟨.nrm,T1,H1,⟨N1,fun m n hm hn=>by simp only [aJ,g1 m n hm hn,if_pos hi]⟩,h1⟩
  ·rw [if_neg hi] at h1
   exact ⟨.exit id',T1,H1,⟨N1,fun m n hm hn=>by simp only [aJ,g1 m n hm hn,if_neg hi]⟩,h1⟩
 | nrm=>exact ⟨_,T1,H1,⟨N1,fun m n hm hn=>by simp only [aJ,g1 m n hm hn]⟩,h1⟩
 | goto l=>exact ⟨_,T1,H1,⟨N1,fun m n hm hn=>by simp only [aJ,g1 m n hm hn]⟩,h1⟩
 | ret=>exact ⟨_,T1,H1,⟨N1,fun m n hm hn=>by simp only [aJ,g1 m n hm hn]⟩,h1⟩
theorem OK {T:Tm} {H:Heap} {Q:Ex->Tm->Heap->Prop} (h:Q .nrm T H):WB tab rd .skip T H Q:=⟨.nrm,T,H,⟨0,fun _ _ _ _=>rfl⟩,h⟩
theorem OL {i:Nat} {T:Tm} {H:Heap} {Q:Ex->Tm->Heap->Prop} (h:Q (.exit i) T H):WB tab rd (.exit i) T H Q:=⟨.exit i,T,H,⟨0,fun _ _ _ _=>rfl⟩,h⟩
theorem CO {body:ACode} {Q:Ex->Tm->Heap->Prop} (Inv:Nat->Tm->Heap->Prop)
  (hr:∀ k T H,Inv k T H->WB tab rd body T H (Hg Inv k Q)):∀ (k:Nat) (T:Tm) (H:Heap),Inv k T H->WB tab rd (.loop body) T H Q:=by
 have key:∀ (k:Nat) (T:Tm) (H:Heap),Inv k T H->∃ x T' H',Q x T' H'/\∃ N,∀ m n j,N<=m->N<=n->N<=j->Ar (aJ (l7 tab eU m n) m rd body) j T H=some (x,T',H'):=by
  intro k
  induction k using Nat.strongRecOn with
  | _ k ih =>
   intro T H hI
   obtain ⟨x,T1,H1,⟨N1,g1⟩,h1⟩:=hr k T H hI
   by_cases hx:x=.nrm
   ·subst hx
    obtain ⟨k',hk,hI'⟩:=h1
    obtain ⟨y,T2,H2,hq,N2,g2⟩:=ih k' hk T1 H1 hI'
    refine ⟨y,T2,H2,hq,N1+N2+1,fun m n j hm hn hj=>?_⟩
    obtain ⟨j',rfl⟩:∃ j',j=j'+1:=⟨j-1,by omega⟩
    unfold Ar
    rw [g1 m n (by omega) (by omega)]
    exact g2 m n j' (by omega) (by omega) (by omega)
   ·refine ⟨x,T1,H1,by cases x <;> first | exact h1 | exact absurd rfl hx,N1+1,fun m n j hm hn hj=>?_⟩
    obtain ⟨j',rfl⟩:∃ j',j=j'+1:=⟨j-1,by omega⟩
    unfold Ar
    rw [g1 m n (by omega) (by omega)]
    cases x <;> first | rfl | exact absurd rfl hx
 intro k T H hI
 obtain ⟨x,T',H',hq,N,g⟩:=key k T H hI
 exact ⟨x,T',H',⟨N,fun m n hm hn=>g m n m hm hn hm⟩,hq⟩
theorem WB.wcLoop {id:Nat} {body:ACode} {T:Tm} {H:Heap} {Q:Ex->Tm->Heap->Prop} (h:WB tab rd (.loop body) T H (uj id Q)):WC tab rd (.block id (.loop body)) T H Q:=by
 rw [Ea]
 exact ⟨h⟩
def KL (id id1:Nat) (P:Tm->Heap->Prop) (Q:Ex->Tm->Heap->Prop) (x:Ex) (T:Tm) (H:Heap):Prop:=match x with
 | .nrm=>P T H
 | .exit e=>if e=id1 then P T H else if e=id then Q .nrm T H else Q (.exit e) T H
 | x=>Q x T H
section
variable {id id1:Nat} {P:Tm->Heap->Prop} {Q:Ex->Tm->Heap->Prop} {T:Tm} {H:Heap}
theorem Np:KL id id1 P Q .nrm T H=P T H:=rfl
theorem No:KL id id1 P Q .ret T H=Q .ret T H:=rfl
theorem KJ (l:Nat):KL id id1 P Q (.goto l) T H=Q (.goto l) T H:=rfl
theorem KK (e:Nat):KL id id1 P Q (.exit e) T H=iteH (e=id1) (P T H) (iteH (e=id) (Q .nrm T H) (Q (.exit e) T H) () ()) () ():=rfl
end
def P8 (L i n c k:Nat) (D live:List Nat):Bool :=
 decide (i<L) && decide (n<L) && decide (c<L) && decide (k<L) && i != n && i != c && i != k && n != c && n != k && c != k && !D.contains i && !D.contains n && live.all fun s=>s != i && s != c && s != k
theorem am {id id1 i n c k:Nat} {body:ACode} {T:Tm} {H:Heap} {Q:Ex->Tm->Heap->Prop} {L a N:Nat} (H0:Heap) (live:List Nat) (P:Nat->List AV->Heap->Prop)
  (hl:T.length=L) (ha:aa T i=.int .i64 (a:Int)) (hn:aa T n=.int .i64 (N:Int)) (haN:a<=N) (hN:N<9223372036854775807) (hok:P8 L i n c k (fI body) live=true) (hp:iL body=true)
  (hup:∀ j vs H m,P j vs H->P j vs (H.up m))
  (hk0:Kp H0 H) (h0:P a (live.map (aa T)) H)
  (hb:∀ j T1 H1,a<=j->j<N->T1.length=L->aa T1 i=.int .i64 (j:Int)->Same (i :: c :: k :: fI body) T T1->Kp H0 H1->P j (live.map (aa T1)) H1 ->
   WC tab rd body T1 H1 (KL id id1 (fun T2 H2=>Kp H0 H2/\P (j+1) (live.map (aa T2)) H2) Q))
  (he:∀ T1 H1,T1.length=L->Same (i :: c :: k :: fI body) T T1->Kp H0 H1->P N (live.map (aa T1)) H1->Q .nrm T1 H1) :
  WC tab rd (Pz id id1 i n c k body) T H Q:=by
 have hok':=hok
 simp only [P8,Uq,decide_eq_true_eq,bne_iff_ne,ne_eq,UT,Uj] at hok
 obtain ⟨⟨⟨⟨⟨⟨⟨⟨⟨⟨⟨⟨o1,o2⟩,o3⟩,o4⟩,o5⟩,o6⟩,o7⟩,o8⟩,o9⟩,o10⟩,o11⟩,o12⟩,o13⟩:=hok
 have hDi:i ∉ fI body:=fun h=>by rw [VB.2 h] at o11; cases o11
 have hDn:n ∉ fI body:=fun h=>by rw [VB.2 h] at o12; cases o12
 have hnS:n ∉ i :: c :: k :: fI body:=by
  simp only [Ul,not_or]; exact ⟨fun h=>o5 h.symm,o8,o9,hDn⟩
 have hlive:∀ {T1 T2:Tm},(∀ s,s≠i->s≠c->s≠k->aa T2 s=aa T1 s)->live.map (aa T2)=live.map (aa T1):=fun h=>by
  refine Vz fun s hs=>?_
  obtain ⟨⟨q1,q2⟩,q3⟩:=o13 s hs
  exact h s q1 q2 q3
 unfold Pz
 refine WB.wcLoop ?_
 refine CO (fun r T1 H1=>∃ j,r=N-j/\a<=j/\j<=N/\T1.length=L/\aa T1 i=.int .i64 (j:Int)/\Same (i :: c :: k :: fI body) T T1/\Kp H0 H1/\P j (live.map (aa T1)) H1) ?_ (N-a) T H ⟨a,rfl,TO _,haN,hl,ha,Zs _ _,hk0,h0⟩
 rintro r T1 H1 ⟨j,rfl,haj,hjN,hl1,hi1,hs1,hk1,hP1⟩
 have hn1:aa T1 n=.int .i64 (N:Int):=(hs1.at_ n hnS).trans hn
 refine yZ (WC.wb ?_)
 rw [Gf]
 simp only [C6,yV,CG,Gg,Rx,hi1,hn1,Ji,wC,iQ]
 have hk2:Kp H0 (H1.up 1):=hk1.up 1
 have hP2:P j (live.map (aa (T1.set c (.bool (decide ((j:Int)<(N:Int))))))) (H1.up 1):=by
  rw [hlive (T1:=T1) fun s q1 q2 q3=>mp _ _ _ _ (Ne.symm q2)]
  exact hup _ _ _ _ hP1
 have hs2:Same (i :: c :: k :: fI body) T (T1.set c (.bool (decide ((j:Int)<(N:Int))))) :=
  (hs1.trans (Same.put T1 (some c) (.bool (decide ((j:Int)<(N:Int)))))).wide fun s hs=>by
   rcases Uc.1 hs with hs | hs
   ·exact hs
   ·simp only [XU,UV] at hs; subst hs; simp
 have hl2:(T1.set c (.bool (decide ((j:Int)<(N:Int))))).length=L:=by simp [hl1]
 have hi2:aa (T1.set c (.bool (decide ((j:Int)<(N:Int))))) i=.int .i64 (j:Int):=by rw [mp _ _ _ _ (Ne.symm o6)]; exact hi1
 have hc2:aa (T1.set c (.bool (decide ((j:Int)<(N:Int))))) c=.bool (decide ((j:Int)<(N:Int))):=by
  rw [uV _ _ _ _ (by omega),if_pos rfl]
 generalize hT2:T1.set c (.bool (decide ((j:Int)<(N:Int))))=T2 at hP2 hs2 hl2 hi2 hc2 ⊢
 refine yZ (OM (v:=decide ((j:Int)<(N:Int))) hc2 ?_)
 by_cases hj:j<N
 ·have e1:decide ((j:Int)<(N:Int))=true:=by simp; omega
  rw [if_pos e1]
  refine OK ?_
  refine yZ (L5 ?_)
  refine (((hb j T2 (H1.up 1) haj hj hl2 hi2 hs2 hk2 hP2).wb).same hp).mono ?_
  rintro x T3 H3 ⟨hs3,hq⟩
  have fin:Kp H0 H3/\P (j+1) (live.map (aa T3)) H3->WB tab rd (.region [⟨some k,.bin .add .int (.t i) (.c (.int .i64 1)),none⟩,⟨some i,.mv (.t k),none⟩]) T3 H3 (Hg (fun r T1 H1=>∃ j,r=N-j/\a<=j/\j<=N/\T1.length=L/\aa T1 i=.int .i64 (j:Int)/\Same (i :: c :: k :: fI body) T T1/\Kp H0 H1/\P j (live.map (aa T1)) H1) (N-j) (uj id Q)):=by
   rintro ⟨hk3,hP3⟩
   have hi3:aa T3 i=.int .i64 (j:Int):=(hs3.at_ i hDi).trans hi2
   have hl3:T3.length=L:=hs3.len.trans hl2
   have hwr:IntKind.i64.wrap ((j:Int)+1)=((j+1:Nat):Int):=by rw [wrap_i64 (by omega) (by omega)]; simp
   refine WC.wb ?_
   rw [Gf]
   simp only [C6,yV,CG,Gg,PZ,Il,Rx,Ss,hi3,DT,wC,iQ,hwr]
   rw [uV _ _ _ _ (by omega),if_pos rfl,EY]
   refine ⟨N-(j+1),by omega,j+1,rfl,by omega,by omega,by simp [hl3],?_,?_,hk3.up _,?_⟩
   ·rw [uV _ _ _ _ (by simp; omega),if_pos rfl]
   ·refine ((hs2.trans hs3).trans ((Same.put T3 (some k) _).trans (Same.put _ (some i) _))).wide fun s hs=>?_
    rcases Uc.1 hs with hs | hs
    ·rcases Uc.1 hs with hs | hs
     ·exact hs
     ·exact TQ _ (TQ _ (TQ _ hs))
    ·rcases Uc.1 hs with hs | hs
     ·simp only [XU,UV] at hs; subst hs; simp
     ·simp only [XU,UV] at hs; subst hs; simp
   ·rw [hlive (T1:=T3) fun s q1 q2 q3=>by rw [mp _ _ _ _ (Ne.symm q1),mp _ _ _ _ (Ne.symm q3)]]
    exact hup _ _ _ _ hP3
  cases x with
  | nrm=>exact fin hq
  | exit e =>
   simp only [KL] at hq
   simp only [uj]
   by_cases h1:e=id1
   ·rw [if_pos h1] at hq ⊢; exact fin hq
   ·rw [if_neg h1] at hq ⊢
    simp only [Hg,uj]; exact hq
  | goto l=>exact hq
  | ret=>exact hq
 ·have e1:decide ((j:Int)<(N:Int))=false:=by simp; omega
  have:j=N:=by omega
  subst this
  rw [if_neg (by rw [e1]; simp)]
  refine OL ?_
  show uj id Q (.exit id) T2 (H1.up 1)
  simp only [uj,if_pos]
  exact he T2 (H1.up 1) hl2 hs2 hk2 hP2
def QE (id:Nat) (P:Tm->Heap->Prop) (Q:Ex->Tm->Heap->Prop) (x:Ex) (T:Tm) (H:Heap):Prop:=match x with
 | .nrm=>P T H
 | .exit e=>if e=id then Q .nrm T H else Q (.exit e) T H
 | x=>Q x T H
section
variable {id:Nat} {P:Tm->Heap->Prop} {Q:Ex->Tm->Heap->Prop} {T:Tm} {H:Heap}
theorem OG:QE id P Q .nrm T H=P T H:=rfl
theorem OF:QE id P Q .ret T H=Q .ret T H:=rfl
theorem LY (l:Nat):QE id P Q (.goto l) T H=Q (.goto l) T H:=rfl
theorem LZ (e:Nat):QE id P Q (.exit e) T H=iteH (e=id) (Q .nrm T H) (Q (.exit e) T H) () ():=rfl
end
theorem cp {id:Nat} {c:ACode} {T:Tm} {H:Heap} {Q:Ex->Tm->Heap->Prop} {L:Nat} (H0:Heap) (live:List Nat) (P:Nat->List AV->Heap->Prop) (k0:Nat)
  (hl:T.length=L) (hp:iL c=true) (hk0:Kp H0 H) (h0:P k0 (live.map (aa T)) H)
  (hb:∀ k T1 H1,T1.length=L->Same (fI c) T T1->Kp H0 H1->P k (live.map (aa T1)) H1->WC tab rd c T1 H1 (QE id (fun T2 H2=>Kp H0 H2/\∃ k',k'<k/\P k' (live.map (aa T2)) H2) Q)):WC tab rd (NP id c) T H Q:=by
 unfold NP
 refine WB.wcLoop ?_
 refine CO (fun k T1 H1=>T1.length=L/\Same (fI c) T T1/\Kp H0 H1/\P k (live.map (aa T1)) H1) ?_ k0 T H ⟨hl,Zs _ _,hk0,h0⟩
 rintro k T1 H1 ⟨hl1,hs1,hk1,hP1⟩
 refine ((hb k T1 H1 hl1 hs1 hk1 hP1).wb.same hp).mono ?_
 rintro x T2 H2 ⟨hs2,hq⟩
 cases x with
 | nrm =>
  obtain ⟨hk2,k',hk',hP2⟩:=hq
  exact ⟨k',hk',hs2.len.trans hl1,(hs1.trans hs2).wide fun s hs=>by simpa using hs,hk2,hP2⟩
 | exit e=>exact hq
 | goto l=>exact hq
 | ret=>exact hq
end
def SS (e:Option Ent) (k:Option Nat) (o:Nat):Option AV:=match e with
 | some (.cells cs _ _)=>bH cs o k
 | _=>none
theorem Rk (H:Heap) (k:Option Nat) (b o:Nat):bg H k (.ptr b o)=SS (H.get b) k o:=by
 simp only [bg,SS]
 cases H.get b with
 | none=>rfl
 | some e=>cases e <;> rfl
theorem Kw (cs:List AV) (ty:Nat) (rw:Bool) (k:Option Nat) (o:Nat):SS (some (.cells cs ty rw)) k o=bH cs o k:=rfl
def Eo (e:Option Ent) (n o:Nat) (v:AV):Option Ent:=match e with
 | some (.cells cs ty true)=>if v.cells.length=n/\o+n<=cs.length/\v.cells.all AV.one=true then some (.cells (cs.take o++v.cells++cs.drop (o+n)) ty true) else none
 | _=>none
theorem QV (H:Heap) (n b o:Nat) (v:AV):qq H n (.ptr b o) v=(Eo (H.get b) n o v).map fun e=>H.put b e:=by
 simp only [qq,Eo]
 split
 ·rename_i cs ty h
  simp only [h]
  split <;> rfl
 ·rename_i h
  split
  ·rename_i cs ty hg
   exact absurd hg (h cs ty)
  ·rfl
def fits (v:AV) (n:Nat) (cs:List AV):Prop:=v.cells=cs/\cs.length=n/\cs.all AV.one=true
theorem jd {cs vs:List AV} {ty n o:Nat} {v:AV} (h:fits v n vs) (ho:o+n<=cs.length):Eo (some (.cells cs ty true)) n o v=some (.cells (cs.take o++vs++cs.drop (o+n)) ty true):=by
 obtain ⟨rfl,h2,h3⟩:=h
 simp only [Eo]
 rw [if_pos ⟨h2,ho,h3⟩]
theorem Kl {α β:Type} (f:α->β) (a:α):(some a).map f=some (f a):=rfl
theorem Tl (a:AV) (l:List AV):bH (a :: l) 0 none=some a:=rfl
theorem Tk (a b:AV) (l:List AV):bH (a :: b :: l) 1 none=some b:=rfl
theorem Tj (a b c:AV) (l:List AV):bH (a :: b :: c :: l) 2 none=some c:=rfl
theorem SK (a b:AV):bH [a,b] 0 (some 2)=some (.agg [a,b]):=rfl
theorem SJ (a b c:AV):bH [a,b,c] 0 (some 3)=some (.agg [a,b,c]):=rfl
def One (v:AV):Prop:=v.cells=[v]/\v.one=true
theorem One.fits {v:AV} (h:One v):fits v 1 [v]:=⟨h.1,rfl,by simp [h.2]⟩
theorem aR (b:Bool):One (.bool b):=⟨rfl,rfl⟩
theorem bj (k:IntKind) (n:Int):One (.int k n):=⟨rfl,rfl⟩
theorem cz (f:Fn) (a b:List AV):One (.fn f a b):=⟨rfl,rfl⟩
theorem bD (b o:Nat):One (.ptr b o):=⟨rfl,rfl⟩
theorem br:One .nilSl:=⟨rfl,rfl⟩
theorem bp (b o n c z:Nat) (x:Bool):One (.own b o n c z x):=⟨rfl,rfl⟩
theorem cI (cs:List AV) (n:Nat):One (.sl cs n):=⟨rfl,rfl⟩
theorem bE (b:Nat):One (.map b):=⟨rfl,rfl⟩
theorem Rd.one {H:Heap} {sz:Nat} {v:AV} {cells:List AV} (h:Rd H sz v cells):One v:=by
 obtain ⟨-,h1,n,hn,-⟩:=h
 cases v <;> first | exact ⟨rfl,rfl⟩ | exact absurd rfl (h1 _) | (simp [g8] at hn; done)
theorem NO {v:AV} (h:One v):gP v=some [v]:=by
 unfold gP; rw [h.1]; simp [h.2]
theorem Fk {a b:AV} (ha:One a) (hb:One b):fits (.agg [a,b]) 2 [a,b]:=⟨rfl,rfl,by simp [ha.2,hb.2]⟩
theorem SA {a b:AV} (ha:One a) (hb:One b):gP (.agg [a,b])=some [a,b]:=by
 simp [gP,AV.cells,ha.2,hb.2]
theorem RE {x y a b:AV} (ha:One a) (hb:One b):ip [x,y] [((0,1),a),((1,1),b)]=some (.agg [a,b]):=by
 simp [ip,cV,ha.1,ha.2,hb.1,hb.2]
theorem Sr {x a:AV} (ha:One a):cV [x] [((0,1),a)]=some [a]:=by simp [cV,ha.1,ha.2]
theorem Sq {x y a b:AV} (ha:One a) (hb:One b):cV [x,y] [((0,1),a),((1,1),b)]=some [a,b]:=by simp [cV,ha.1,ha.2,hb.1,hb.2]
theorem SM {cs:List AV} {ty o:Nat} {v:AV} (h:One v):Eo (some (.cells cs ty true)) 1 o v=if o<cs.length then some (.cells (cs.set o v) ty true) else none:=by
 simp only [Eo,h.1]
 by_cases ho:o<cs.length
 ·rw [if_pos ⟨rfl,by omega,by simp [h.2]⟩,if_pos ho]
  congr 2
  rw [Wn,if_pos ho]
  simp
 ·rw [if_neg (fun h=>ho (by have:=h.2.1; omega)),if_neg ho]
theorem SL {x y a b:AV} {ty:Nat} (ha:One a) (hb:One b):Eo (some (.cells [x,y] ty true)) 2 0 (.agg [a,b])=some (.cells [a,b] ty true):=by
 simp [Eo,AV.cells,ha.2,hb.2]
theorem Sp {x y z a b c:AV} (ha:One a) (hb:One b) (hc:One c):cV [x,y,z] [((0,1),a),((1,1),b),((2,1),c)]=some [a,b,c]:=by simp [cV,ha.1,ha.2,hb.1,hb.2,hc.1,hc.2]
theorem Rs {p q r t a b c d:AV} (ha:One a) (hb:One b) (hc:One c) (hd:One d):cV [p,q,r,t] [((0,2),.agg [a,b]),((2,2),.agg [c,d])]=some [a,b,c,d]:=by
 simp [cV,AV.cells,ha.2,hb.2,hc.2,hd.2]
theorem Rt {p q a b:AV} (ha:One a) (hb:One b):cV [p,q] [((0,2),.agg [a,b])]=some [a,b]:=by
 simp [cV,AV.cells,ha.2,hb.2]
theorem RF (z:List AV):ip z []=some (.agg z):=rfl
theorem Ro {H H':Heap} {b:Nat} {e:Ent} (h1:H.next<=b) (h2:b<H'.next):Kp H (H'.put b e) ↔ Kp H H':=by
 refine ⟨fun h=>⟨h.wf0,fun c e' hc=>?_,h.le,fun c hc=>?_⟩,fun h=>h.put h1 h2⟩
 ·by_cases hb:c=b
  ·rw [hb]; exact h2
  ·exact h.wf c e' (by rw [aA hb]; exact hc)
 ·have:=h.same c hc
  rwa [aA (by omega)] at this
theorem aH {H:Heap} {b:Nat} {e:Ent} (h:H.get b=none):Sub H (H.put b e):=(Sub.refl H).put h e
theorem Ps {H H':Heap} {b:Nat} (h1:H.next<=b) (h:Kp H H'):Kp H (H'.kill b) ↔ True:=⟨fun _=>trivial,fun _=>h.kill h1⟩
theorem Sh {H H':Heap} {k:Nat} (h:Kp H H'):Kp H (H'.up k) ↔ True:=⟨fun _=>trivial,fun _=>h.up k⟩
theorem Rm {H:Heap} {k:Nat} (h:Wf H):Kp H (H.up k) ↔ True:=⟨fun _=>trivial,fun _=>(Zg h).up k⟩
theorem Pr {H:Heap} (h:Wf H):Kp H H ↔ True:=⟨fun _=>trivial,fun _=>Zg h⟩
theorem QF {H:Heap} {b:Nat} {e:Ent} (h2:b<H.next):Wf (H.put b e) ↔ Wf H:=by
 refine ⟨fun h c e' hc=>?_,fun h=>h.put h2 e⟩
 by_cases hb:c=b
 ·rw [hb]; exact h2
 ·exact h c e' (by rw [aA hb]; exact hc)
theorem RV {H:Heap} {k:Nat} (h:Wf H):Wf (H.up k) ↔ True:=⟨fun _=>trivial,fun _=>h.bump k⟩
theorem OH {H:Heap} {b:Nat} (h:Wf H):Wf (H.kill b) ↔ True:=⟨fun _=>trivial,fun _=>h.kill b⟩
structure Ldd (H:Heap) (k:Option Nat) (p w:AV):Prop where
 ld:bg H k p=some w
 put:∀ H' b e,H.next<=b->bg (H'.put b e) k p=bg H' k p
 kill:∀ H' b,H.next<=b->bg (H'.kill b) k p=bg H' k p
theorem M9 (H:Heap) (m:Nat) (k:Option Nat) (p:AV):bg (H.up m) k p=bg H k p:=rfl
theorem bT {H H':Heap} (h:Sub H H') {k:Option Nat} {p w:AV} (hl:bg H k p=some w):bg H' k p=some w:=by
 unfold bg at hl ⊢
 split at hl
 ·split at hl
  ·rename_i hb
   rw [h.get _ _ hb]; exact hl
  ·cases hl
 ·exact hl
 ·cases hl
theorem Ldd.of {H:Heap} (hw:Wf H) {k:Option Nat} {p w:AV} (h:bg H k p=some w):Ldd H k p w:=by
 refine ⟨h,fun H' b e hb=>?_,fun H' b hb=>?_⟩
 all_goals
  cases p with
  | ptr c o =>
   have:c<H.next:=by
    simp only [bg] at h
    split at h
    ·rename_i hc; exact hw c _ hc
    ·cases h
   simp only [bg]
   first | rw [aA (by omega)] | rw [cZ (by omega)]
  | _=>rfl
def Zm:=@Ldd.of
theorem Ldd.mono {H H':Heap} (h:Kp H H') {k:Option Nat} {p w:AV} (hl:Ldd H k p w):Ldd H' k p w:=Zm h.wf (bT h.sub hl.ld)
def SubT (tys:List Nat) (H H':Heap):Prop:=∀ b cs t r,t∈tys->H.get b=some (.cells cs t r)->H'.get b=some (.cells cs t r)
theorem Sub.t {H H':Heap} (h:Sub H H') (tys:List Nat):SubT tys H H':=fun b cs t r _ hb=>h.get b _ hb
theorem SubT.of {tys tys':List Nat} {H H':Heap} (h:SubT tys H H') (hs:∀ t,t∈tys'->t∈tys):SubT tys' H H':=fun b cs t r ht hb=>h b cs t r (hs t ht) hb
def S6 (H:Heap) (ty:Nat) (v:AV):Prop:=∀ b off n c z x,v=.own b off n c z x->∃ cs r,H.get b=some (.cells cs ty r)
structure fg (α:Type) where
 sz:Nat
 tys:List Nat
 R:Heap->List AV->α->Prop
 pos:0<sz
 len:∀ {H cs a},R H cs a->cs.length=sz/\cs.all AV.one=true
 mono:∀ {H H' cs a},SubT tys H H'->R H cs a->R H' cs a
variable {α:Type}
def Cells (E:fg α) (H:Heap) (cells:List AV) (l:List α):Prop:=cells.length=l.length*E.sz/\∀ i a,l[i]? = some a->E.R H ((cells.drop (i*E.sz)).take E.sz) a
def SlV (E:fg α) (ty:Nat) (H:Heap) (v:AV) (l:List α):Prop:=∃ cells,Rd H E.sz v cells/\S6 H ty v/\Cells E H cells l
theorem Cells.mono {E:fg α} {H H':Heap} (h:SubT E.tys H H') {cells:List AV} {l:List α} (hc:Cells E H cells l):Cells E H' cells l:=⟨hc.1,fun i a hi=>E.mono h (hc.2 i a hi)⟩
def Y8:=@Cells.mono
theorem SlV.monoT {E:fg α} {ty:Nat} {H H':Heap} (h:SubT (ty :: E.tys) H H') {v:AV} {l:List α} (hs:SlV E ty H v l):SlV E ty H' v l:=by
 obtain ⟨cells,⟨h0,h1,n,h2,h3⟩,ht,hc⟩:=hs
 refine ⟨cells,⟨h0,h1,n,h2,?_⟩,fun b off n c z x e=>?_,hc.mono (h.of fun t ht=>TQ _ ht)⟩
 ·unfold aM at h3 ⊢
  split at h3
  ·rename_i b off n' c sz ex
   obtain ⟨cs,r,hb⟩:=ht b off _ c sz ex rfl
   rw [hb] at h3
   rw [h b cs ty r (TW ..) hb]; exact h3
  ·exact h3
  ·exact h3
  ·exact h3
  ·cases h3
 ·obtain ⟨cs,r,hb⟩:=ht b off n c z x e
  exact ⟨cs,r,h b cs ty r (TW ..) hb⟩
def Zw:=@SlV.monoT
theorem SlV.mono {E:fg α} {ty:Nat} {H H':Heap} (h:Sub H H') {v:AV} {l:List α} (hs:SlV E ty H v l):SlV E ty H' v l:=hs.monoT (h.t _)
theorem SlV.one {E:fg α} {ty:Nat} {H:Heap} {v:AV} {l:List α} (hs:SlV E ty H v l):One v:=by
 obtain ⟨cells,h1,h2⟩:=hs; exact h1.one
theorem SlV.nil (E:fg α) (ty:Nat) (H:Heap):SlV E ty H .nilSl []:=⟨[],Rd.nil H E.sz,(fun _ _ _ _ _ _ e=>by cases e),by simp,fun i a h=>by simp at h⟩
def Zx:=@SlV.nil
theorem SlV.lenV {E:fg α} {ty:Nat} {H:Heap} {v:AV} {l:List α} (hs:SlV E ty H v l):lenV v=some (.int .i64 (l.length:Int)):=by
 obtain ⟨cells,h1,-,h2⟩:=hs
 exact IM h1 h2.1 E.pos
theorem SlV.idx {E:fg α} {ty:Nat} {H:Heap} {v:AV} {l:List α} (hs:SlV E ty H v l) (k:IntKind) (i:Nat) (hi:i<l.length):cw E.sz v (.int k (i:Int))=some (az v (i*E.sz)):=by
 obtain ⟨cells,h1,-,h2⟩:=hs
 have:=E.pos
 refine Pw h1 ?_ E.pos
 rw [h2.1,<- Vr]
 exact T8 _ hi
def Zu:=@SlV.idx
theorem KN {H:Heap} {sz:Nat} {v:AV} {cells:List AV} (h:Rd H sz v cells) (hne:cells≠[]) (off o:Nat):Ay off (az v o)=some (az v (o+off)):=by
 obtain ⟨-,h1,n,hn,hf⟩:=h
 cases v with
 | own b f m c s e=>simp [az,Ay,US]
 | sl cs m=>simp [az,Ay]
 | nilSl =>
  simp only [aM] at hf
  split at hf
  ·cases hf; exact absurd rfl hne
  ·cases hf
 | str s=>exact absurd rfl (h1 _)
 | _=>simp [g8] at hn
theorem SlV.fa {E:fg α} {ty:Nat} {H:Heap} {v:AV} {l:List α} (hs:SlV E ty H v l) (hne:0<l.length) (off o:Nat):Ay off (az v o)=some (az v (o+off)):=by
 obtain ⟨cells,h1,-,h2⟩:=hs
 refine KN h1 (fun h=>?_) off o
 have:=h2.1
 rw [h] at this
 have:=X7 hne E.pos
 simp at *
 omega
theorem SlV.at {E:fg α} {ty:Nat} {H:Heap} {v:AV} {l:List α} (hs:SlV E ty H v l) {i:Nat} {a:α} (hi:l[i]? = some a):∃ cs,E.R H cs a/\cs.length=E.sz/\(∀ j c,cs[j]? = some c->bg H none (az v (i*E.sz+j))=some c)/\bg H (some E.sz) (az v (i*E.sz))=some (.agg cs):=by
 obtain ⟨cells,h1,-,h2⟩:=hs
 have hlt:i<l.length:=(TZ.1 hi).1
 have hle:i*E.sz+E.sz<=cells.length:=by rw [h2.1,<- Vr]; exact T8 _ hlt
 have:=E.pos
 refine ⟨_,h2.2 i a hi,by simp; omega,fun j c hj=>?_,?_⟩
 ·refine h1.load (by simp) ?_
  rw [Uh] at hj
  split at hj
  ·rw [Ui] at hj
   simpa [bH] using hj
  ·cases hj
 ·refine h1.load (by simp; omega) ?_
  simp only [bH]
  rw [if_pos hle]
structure PY (α:Type) where
 tys:List Nat
 R:Heap->AV->α->Prop
 one:∀ {H v a},R H v a->One v
 mono:∀ {H H' v a},SubT tys H H'->R H v a->R H' v a
def bU (e:PY α):fg α where
 sz:=1
 tys:=e.tys
 R H cs a:=∃ v,cs=[v]/\e.R H v a
 pos:=by omega
 len:=by rintro H cs a ⟨v,rfl,h⟩; exact ⟨rfl,by simp [(e.one h).2]⟩
 mono:=by rintro H H' cs a hs ⟨v,rfl,h⟩; exact ⟨v,rfl,e.mono hs h⟩
abbrev yT (e:PY α) (ty:Nat) (H:Heap) (v:AV) (l:List α):Prop:=SlV (bU e) ty H v l
theorem SlV.at1 {e:PY α} {ty:Nat} {H:Heap} {v:AV} {l:List α} (hs:yT e ty H v l) {i:Nat} {a:α} (hi:l[i]? = some a):∃ c,e.R H c a/\bg H none (az v i)=some c:=by
 obtain ⟨cs,⟨c,rfl,hr⟩,-,h2,-⟩:=hs.at hi
 refine ⟨c,hr,?_⟩
 have:=h2 0 c rfl
 simpa [bU] using this
def Zt:=@SlV.at1
theorem SlV.idx1 {e:PY α} {ty:Nat} {H:Heap} {v:AV} {l:List α} (hs:yT e ty H v l) (k:IntKind) (i:Nat) (hi:i<l.length):cw 1 v (.int k (i:Int))=some (az v i):=by
 have:=Zu hs k i hi
 simpa [bU] using this
def Zv:=@SlV.idx1
def Hn (k:IntKind):PY Int:=⟨[],fun _ v a=>v=.int k a,fun h=>h ▸ bj _ _,fun _ h=>h⟩
def cm:PY Nat:=⟨[],fun _ v a=>v=.int .u64 (a:Int),fun h=>h ▸ bj _ _,fun _ h=>h⟩
def sO (E:fg α) (ty:Nat):PY (List α):=⟨ty :: E.tys,SlV E ty,fun h=>h.one,fun h hs=>hs.monoT h⟩
theorem Cells.take {E:fg α} {H:Heap} {cells:List AV} {l:List α} (h:Cells E H cells l) {n:Nat} (hn:n<=l.length):Cells E H (cells.take (n*E.sz)) (l.take n):=by
 have hm:=T8 E.sz hn
 refine ⟨by rw [Un,Un,h.1,UZ hm,UZ hn],fun i a hi=>?_⟩
 rw [Uh] at hi
 split at hi
 ·rename_i hin
  have:=h.2 i a hi
  have h1:i*E.sz+E.sz<=n*E.sz:=by rw [<- Vr]; exact T8 _ hin
  rw [List.drop_take,VY,UZ (by omega)]
  exact this
 ·cases hi
theorem Cells.drop {E:fg α} {H:Heap} {cells:List AV} {l:List α} (h:Cells E H cells l) (n:Nat):Cells E H (cells.drop (n*E.sz)) (l.drop n):=by
 refine ⟨by rw [U8,U8,h.1,Y2],fun i a hi=>?_⟩
 rw [Ui] at hi
 have:=h.2 _ a hi
 rw [List.drop_drop,<- UO]
 exact this
theorem Cells.append {E:fg α} {H:Heap} {c1 c2:List AV} {l1 l2:List α} (h1:Cells E H c1 l1) (h2:Cells E H c2 l2):Cells E H (c1++c2) (l1++l2):=by
 refine ⟨by rw [T9,T9,h1.1,h2.1,UO],fun i a hi=>?_⟩
 by_cases hlt:i<l1.length
 ·rw [Uo hlt] at hi
  have:=h1.2 i a hi
  have hle:i*E.sz+E.sz<=c1.length:=by rw [h1.1,<- Vr]; exact T8 _ hlt
  rw [List.drop_append_of_le_length (by omega),Wc (by rw [U8]; omega)]
  exact this
 ·rw [UI (by omega)] at hi
  have:=h2.2 _ a hi
  have e:i*E.sz=c1.length+(i-l1.length)*E.sz:=by rw [h1.1,<- UO]; congr 1; omega
  rw [e,List.drop_append,WN (by omega),V6,WH]
  exact this
theorem Cells.nil (E:fg α) (H:Heap):Cells E H [] []:=⟨by simp,fun i a h=>by simp at h⟩
def Y9:=@Cells.nil
theorem Cells.one {E:fg α} {H:Heap} {cs:List AV} {a:α} (h:E.R H cs a):Cells E H cs [a]:=by
 refine ⟨by simp [(E.len h).1],fun i b hi=>?_⟩
 cases i with
 | zero=>simp at hi; subst hi; simp [<- (E.len h).1]; exact h
 | succ i=>simp at hi
def Za:=@Cells.one
theorem Cells.set {E:fg α} {H:Heap} {cells cs:List AV} {l:List α} (h:Cells E H cells l) {i:Nat} {a:α} (hi:i<l.length) (hr:E.R H cs a):Cells E H (cells.take (i*E.sz)++cs++cells.drop (i*E.sz+E.sz)) (l.set i a):=by
 have e:l.set i a=l.take i++[a]++l.drop (i+1):=by rw [Wn,if_pos hi]; simp
 rw [e]
 have:=h.drop (i+1)
 rw [Vr] at this
 exact ((h.take (VG hi)).append (Za hr)).append this
theorem Cells.ones {E:fg α} {H:Heap} {cells:List AV} {l:List α} (h:Cells E H cells l):cells.all AV.one=true:=by
 rw [Uj]
 intro c hc
 obtain ⟨j,hj,rfl⟩:=UY hc
 have hp:=E.pos
 have hlt:j / E.sz<l.length:=by
  apply Yx
  rw [Uf,<- h.1]; exact hj
 have:=(E.len (h.2 (j / E.sz) _ (TL hlt))).2
 rw [Uj] at this
 refine this _ ?_
 have hm:j % E.sz<E.sz:=UL _ hp
 have e:=U2 j E.sz
 refine Ua (i:=j % E.sz) ?_
 rw [Uh,if_pos hm,Ui]
 rw [Uf,e,TL hj]
theorem rV {H:Heap} {ty sz:Nat} {v v':AV} {lo hi mx:Option AV} (ht:S6 H ty v) (h:bI sz v lo hi mx=some v'):S6 H ty v':=by
 intro b off n c z x e
 subst e
 cases v with
 | own b' off' n' c' z' x' =>
  have hb:b=b':=by
   simp only [bI,bJ] at h
   split at h
   ·cases h
   ·split at h
    ·simp only [TK,TG] at h
     obtain ⟨m,-,h',-,l,-,h⟩:=h
     split at h
     ·split at h <;> (cases h; rfl)
     ·cases h
    ·simp only [TK,TG] at h
     obtain ⟨h',-,l,-,h⟩:=h
     split at h
     ·split at h
      ·cases h; rfl
      ·split at h
       ·cases h; rfl
       ·cases h
     ·cases h
    ·cases h
  subst hb
  exact ht _ _ _ _ _ _ rfl
 | sl cs n' =>
  exfalso
  simp only [bI,bJ] at h
  split at h
  ·simp only [TK,TG] at h
   obtain ⟨h',-,l,-,h⟩:=h
   split at h <;> cases h
  ·simp only [TK,TG] at h
   obtain ⟨m,-,h',-,l,-,h⟩:=h
   split at h <;> cases h
  ·cases h
 | nilSl =>
  exfalso
  simp only [bI,bJ] at h
  split at h
  ·split at h <;> cases h
  ·split at h <;> cases h
  ·cases h
 | str s=>cases h
 | _=>cases h
theorem SlV.hi {E:fg α} {ty:Nat} {H:Heap} {v:AV} {l:List α} (hs:SlV E ty H v l) (k:IntKind) (n:Nat) (hn:n<=l.length):∃ v',bI E.sz v none (some (.int k (n:Int))) none=some v'/\SlV E ty H v' (l.take n):=by
 obtain ⟨cells,h1,ht,h2⟩:=hs
 obtain ⟨v',e,h⟩:=h1.hi (k:=k) (hi:=n) (by rw [h2.1]; exact T8 _ hn) E.pos
 exact ⟨v',e,_,h,rV ht e,h2.take hn⟩
theorem SlV.lo {E:fg α} {ty:Nat} {H:Heap} {v:AV} {l:List α} (hs:SlV E ty H v l) (k:IntKind) (n:Nat) (hn:n<=l.length):∃ v',bI E.sz v (some (.int k (n:Int))) none none=some v'/\SlV E ty H v' (l.drop n):=by
 obtain ⟨cells,h1,ht,h2⟩:=hs
 obtain ⟨v',e,h⟩:=h1.lo (k:=k) (lo:=n) (by rw [h2.1]; exact T8 _ hn) E.pos
 exact ⟨v',e,_,h,rV ht e,h2.drop n⟩
theorem SlV.clip {E:fg α} {ty:Nat} {H:Heap} {v:AV} {l:List α} (hs:SlV E ty H v l) (k j:IntKind):∃ v',bI E.sz v none (some (.int k (l.length:Int))) (some (.int j (l.length:Int)))=some v'/\SlV E ty H v' l:=by
 obtain ⟨cells,h1,ht,h2⟩:=hs
 obtain ⟨v',e,h⟩:=h1.clip (k:=k) (j:=j) h2.1 E.pos
 exact ⟨v',e,_,h,rV ht e,h2⟩
def Own (E:fg α) (ty:Nat) (H0 H:Heap) (b:Nat) (ex:Bool) (v:AV) (l:List α):Prop :=
 ∃ cells,v=.own b 0 l.length l.length E.sz ex/\H.get b=some (.cells cells ty true)/\Cells E H cells l/\H0.next<=b
theorem Own.sl {E:fg α} {ty:Nat} {H0 H:Heap} {b:Nat} {ex:Bool} {v:AV} {l:List α} (h:Own E ty H0 H b ex v l):SlV E ty H v l:=by
 obtain ⟨cells,rfl,hb,hc,-⟩:=h
 exact ⟨cells,Zr hb hc.1 (TO _),fun _ _ _ _ _ _ e=>by cases e; exact ⟨_,_,hb⟩,hc⟩
def Bl (E:fg α) (ty:Nat) (H0 H:Heap) (v:AV) (l:List α):Prop:=(v=.nilSl/\l=[])\/∃ b,Own E ty H0 H b false v l
theorem Bl.nil {E:fg α} {ty:Nat} {H0 H:Heap}:Bl E ty H0 H .nilSl []:=.inl ⟨rfl,rfl⟩
theorem Bl.sl {E:fg α} {ty:Nat} {H0 H:Heap} {v:AV} {l:List α} (h:Bl E ty H0 H v l):SlV E ty H v l:=by
 rcases h with ⟨rfl,rfl⟩ | ⟨b,h⟩
 ·exact Zx E ty H
 ·exact h.sl
theorem Own.monoT {E:fg α} {ty:Nat} {H0 H H':Heap} (hs:SubT (ty :: E.tys) H H') {b:Nat} {ex:Bool} {v:AV} {l:List α} (h:Own E ty H0 H b ex v l):Own E ty H0 H' b ex v l:=by
 obtain ⟨cells,rfl,hb,hc,h0⟩:=h
 exact ⟨cells,rfl,hs b _ _ _ (TW ..) hb,hc.mono (hs.of fun t ht=>TQ _ ht),h0⟩
theorem Own.mono {E:fg α} {ty:Nat} {H0 H H':Heap} (hs:Sub H H') {b:Nat} {ex:Bool} {v:AV} {l:List α} (h:Own E ty H0 H b ex v l):Own E ty H0 H' b ex v l:=h.monoT (hs.t _)
theorem Bl.monoT {E:fg α} {ty:Nat} {H0 H H':Heap} (hs:SubT (ty :: E.tys) H H') {v:AV} {l:List α} (h:Bl E ty H0 H v l):Bl E ty H0 H' v l:=by
 rcases h with h | ⟨b,h⟩
 ·exact .inl h
 ·exact .inr ⟨b,h.monoT hs⟩
theorem Bl.mono {E:fg α} {ty:Nat} {H0 H H':Heap} (hs:Sub H H') {v:AV} {l:List α} (h:Bl E ty H0 H v l):Bl E ty H0 H' v l:=h.monoT (hs.t _)
theorem Bl.put {E:fg α} {ty:Nat} {H0 H:Heap} {v:AV} {l:List α} (h:Bl E ty H0 H v l) {b:Nat} {e:Ent} (hne:∀ n,v ≠ .own b 0 n n E.sz false) (hs:SubT E.tys H (H.put b e)):Bl E ty H0 (H.put b e) v l:=by
 rcases h with h | ⟨b',cells,rfl,hb,hc,h0⟩
 ·exact .inl h
 ·exact .inr ⟨b',cells,rfl,by rw [aA (fun e1=>hne _ (by rw [e1]))]; exact hb,hc.mono hs,h0⟩
theorem Bl.kill {E:fg α} {ty:Nat} {H0 H:Heap} {v:AV} {l:List α} (h:Bl E ty H0 H v l) {b:Nat} (hne:∀ n,v ≠ .own b 0 n n E.sz false) (hs:SubT E.tys H (H.kill b)):Bl E ty H0 (H.kill b) v l:=by
 rcases h with h | ⟨b',cells,rfl,hb,hc,h0⟩
 ·exact .inl h
 ·exact .inr ⟨b',cells,rfl,by rw [cZ (fun e1=>hne _ (by rw [e1]))]; exact hb,hc.mono hs,h0⟩
theorem SubT.nil (H H':Heap):SubT [] H H':=fun _ _ _ _ h=>by cases h
theorem SubT.put {tys:List Nat} {H:Heap} {b:Nat} {e:Ent} (h:∀ cs t r,t∈tys->H.get b≠some (.cells cs t r)):SubT tys H (H.put b e):=fun c cs t r ht hc=>by
 rw [aA (fun e1=>h cs t r ht (by rw [<- e1]; exact hc))]; exact hc
theorem SubT.put_ty {tys:List Nat} {H:Heap} {b ty:Nat} {e:Ent} {cs:List AV} {r:Bool} (hb:H.get b=some (.cells cs ty r)) (hty:ty ∉ tys):SubT tys H (H.put b e):=SubT.put fun cs' t r' ht h=>by
 rw [hb] at h; cases h; exact hty ht
def ZC:=@SubT.put_ty
theorem Bl.base {E:fg α} {ty:Nat} {H0 H1 H:Heap} (hs:H0.next<=H1.next) {v:AV} {l:List α} (h:Bl E ty H1 H v l):Bl E ty H0 H v l:=by
 rcases h with h | ⟨b,cells,h1,h2,h3,h4⟩
 ·exact .inl h
 ·exact .inr ⟨b,cells,h1,h2,h3,Ub hs h4⟩
def cM (H:Heap) (id size bytes ty:Nat) (x y:AV):Option (AV × Heap):=match g8 y with
 | none=>none
 | some m=>match aM H size m y with
  | none=>none
  | some news=>cH H id size bytes ty x m news (match y with | .own b _ _ _ _ _=>some b | _=>none)
theorem Qv {tab:Nat->Option aw} (ev:Src->AV) (H:Heap) (id:Nat) (Q:AV->Heap->Prop) (size bytes ty:Nat) (z:List AV) (x y:Src) :
  mA tab ev H id (.append size bytes ty z x y) Q=gw (cM H id size bytes ty (ev x) (ev y)) (fun r=>Q r.1 r.2) ():=by rw [Ju]; rfl
def IF (H:Heap) (id ty size bytes:Nat) (z:List AV) (l c:AV):Option (AV × Heap):=match pj l,pj c with
 | some l,some c=>if l<=c/\bytes*c<=2^47/\c<2^63/\z.length=size then some (.own id 0 l c size true,H.put id (.cells ((List.replicate c z).flatten) ty true)) else none
 | _,_=>none
theorem RR {tab:Nat->Option aw} (ev:Src->AV) (H:Heap) (id:Nat) (Q:AV->Heap->Prop) (ty size bytes:Nat) (z:List AV) (l c:Src) :
  mA tab ev H id (.mksl ty size bytes z l c) Q=gw (IF H id ty size bytes z (ev l) (ev c)) (fun r=>Q r.1 r.2) ():=by rw [On]; rfl
theorem jt (H:Heap) (id ty size bytes:Nat) (z:List AV) (k j:IntKind) (n:Nat) (hb:bytes*n<=140737488355328) (hn:n<9223372036854775808) (hz:z.length=size) :
  IF H id ty size bytes z (.int k (n:Int)) (.int j (n:Int))=some (.own id 0 n n size true,H.put id (.cells ((List.replicate n z).flatten) ty true)):=by
 simp only [IF,fH]
 rw [if_pos ⟨TO _,hb,hn,hz⟩]
theorem rW {E:fg α} {H:Heap} {z:List AV} {a:α} (hz:E.R H z a) (n:Nat):Cells E H (List.replicate n z).flatten (List.replicate n a):=by
 induction n with
 | zero=>exact Y9 E H
 | succ n ih=>rw [Vf,Vf,WT]; exact (Za hz).append ih
theorem Bl.app {E:fg α} {ty ty2 bytes id:Nat} {H0 H:Heap} {v w:AV} {l l2:List α} (h:Bl E ty H0 H v l) (hty:ty ∉ E.tys) (hk:Kp H0 H) (hy:SlV E ty2 H w l2) (hid:H0.next<=id) (hid2:id<H.next) (hfree:H.get id=none)
  (hne:∀ b n,v=.own b 0 n n E.sz false->∀ off m c z x,w ≠ .own b off m c z x) (hb:(l.length+l2.length)*bytes<=70368744177664) (hl:l.length+l2.length<4611686018427387904) :
  ∃ v' H',cM H id E.sz bytes ty v w=some (v',H')/\Bl E ty H0 H' v' (l++l2)/\Kp H0 H'/\H'.next=H.next/\(∀ b e,H.get b=some e->(∀ n,v ≠ .own b 0 n n E.sz false)->H'.get b=some e)/\(0<l2.length->∃ n,v'=.own id 0 n n E.sz false):=by
 obtain ⟨news,hr,hty2,hc⟩:=hy
 obtain ⟨m,hm,hlen⟩:=hr.length
 obtain ⟨-,-,m',hm',hf⟩:=hr
 rw [hm] at hm'; cases hm'
 have hml:m=l2.length:=Vv E.pos (by rw [<- hlen,hc.1])
 subst hml
 obtain ⟨fr,hfr0⟩:∃ fr,(match w with | .own b _ _ _ _ _=>some b | _=>none)=fr:=⟨_,rfl⟩
 have hap:cM H id E.sz bytes ty v w=cH H id E.sz bytes ty v l2.length news fr:=by
  unfold cM
  rw [hm]
  simp only
  rw [hf]
  simp only
  rw [hfr0]
 rw [hap]
 have hones:=hc.ones
 have hnf:∀ {b e},H.get b=some e->b≠id:=fun hb e1=>by rw [e1,hfree] at hb; cases hb
 rcases h with ⟨rfl,rfl⟩ | ⟨b,cells,rfl,hb0,hcl,hb1⟩
 ·by_cases h0:l2.length=0
  ·refine ⟨.nilSl,H,by simp only [cH]; rw [if_pos h0],.inl ⟨rfl,by simpa using h0⟩,hk,rfl,fun b e hb _=>hb,fun h=>by omega⟩
  ·refine ⟨_,_,by simp only [cH]; rw [if_neg h0,if_pos ⟨by simpa using hb,by simpa using hl⟩],.inr ⟨id,news,by simp,aq _ _ _,?_,hid⟩,hk.put hid hid2,rfl,fun b e hb _=>?_,fun _=>⟨_,rfl⟩⟩
   ·have:=hc.mono (H':=H.put id (.cells news ty true)) fun c cs t r _ hce=>by rw [aA (hnf hce)]; exact hce
    simpa using this
   ·rw [aA (hnf hb)]; exact hb
 ·have hbid:b≠id:=hnf hb0
  have hfr:fr≠some b:=by
   rw [<- hfr0]
   cases w with
   | own b' off m c z x =>
    simp only [ne_eq,Ux]
    intro e1; subst e1
    exact hne _ _ rfl _ _ _ _ _ rfl
   | _=>simp
  simp only [cH,hb0]
  rw [if_pos ⟨trivial,hb,hl,trivial,by simp; exact Wt hcl.1.symm⟩]
  by_cases h0:l2.length=0
  ·rw [if_pos (by omega),if_pos h0]
   refine ⟨_,H,rfl,.inr ⟨b,cells,?_,hb0,?_,hb1⟩,hk,rfl,fun b e hb _=>hb,fun h=>by omega⟩
   ·simp [h0]
   ·have:l2=[]:=Us h0
    subst this; simpa using hcl
  ·rw [if_neg (by omega)]
   simp only [UN,if_false]
   rw [if_pos ⟨trivial,trivial,hfr,hones⟩]
   have hsub:∀ c e,H.get c=some e->c≠b->((H.kill b).put id (.cells (cells.take (l.length*E.sz)++news) ty true)).get c=some e:=fun c e hc hcb=>by
    rw [aA (hnf hc),cZ hcb]; exact hc
   refine ⟨_,_,rfl,.inr ⟨id,_,by simp,aq _ _ _,?_,hid⟩,(hk.kill hb1).put hid hid2,rfl,fun c e hc he=>hsub c e hc fun e1=>?_,fun _=>⟨_,rfl⟩⟩
   ·have hs:SubT E.tys H ((H.kill b).put id (.cells (cells.take (l.length*E.sz)++news) ty true)):=fun c cs t r ht hc=>hsub c _ hc fun e1=>by
     subst e1
     rw [hb0] at hc; cases hc
     exact hty ht
    have ht:cells.take (l.length*E.sz)=cells:=by rw [<- hcl.1,Ur]
    rw [ht] at hs ⊢
    exact (hcl.mono hs).append (hc.mono hs)
   ·subst e1
    exact he _ rfl
theorem Bl.push {E:fg α} {ty ty2 bytes id id2 k:Nat} {H0 H:Heap} {v:AV} {l:List α} {cs:List AV} {a:α} (h:Bl E ty H0 H v l) (hty:ty ∉ E.tys) (hk:Kp H0 H) (hr:E.R H cs a) (hid:H.next<=id) (hidk:id<H.next+k) (hid2:H.next<=id2) (hid2k:id2<H.next+k) (hne:id≠id2)
  (hb:(l.length+1)*bytes<=70368744177664) (hl:l.length+1<4611686018427387904) :
  ∃ n H',cM ((H.up k).put id2 (.cells cs ty2 true)) id E.sz bytes ty v (.own id2 0 1 1 E.sz true)=some (.own id 0 n n E.sz false,H')/\Bl E ty H0 H' (.own id 0 n n E.sz false) (l++[a])/\Kp H0 H'/\H'.next=H.next+k/\(∀ b e,H.get b=some e->(∀ n,v ≠ .own b 0 n n E.sz false)->H'.get b=some e):=by
 have hle:=hk.le
 have hf:∀ {c},H.next<=c->H.get c=none:=fun hc=>hk.wf.fresh hc
 have hsub:Sub H ((H.up k).put id2 (.cells cs ty2 true)):=(ZB H k).put (hf hid2) _
 have hk':Kp H0 ((H.up k).put id2 (.cells cs ty2 true)):=(hk.up k).put (by omega) hid2k
 have hy:SlV E ty2 ((H.up k).put id2 (.cells cs ty2 true)) (.own id2 0 1 1 E.sz true) [a]:=by
  have:Own E ty2 H0 ((H.up k).put id2 (.cells cs ty2 true)) id2 true (.own id2 0 1 1 E.sz true) [a]:=⟨cs,rfl,aq _ _ _,Za (E.mono (hsub.t _) hr),by omega⟩
  exact this.sl
 obtain ⟨v',H',e1,e2,e3,e4,e5,e6⟩:=(h.mono hsub).app (id:=id) (bytes:=bytes) hty hk' hy (by omega) hidk (by rw [aA hne]; exact hf hid) (fun b n hv off m c z x hw=>by
  cases hw
  rcases h with ⟨h,-⟩ | ⟨b',cells,h,hb',-⟩
  ·rw [h] at hv; cases hv
  ·rw [h] at hv; cases hv
   have:=hk.wf _ _ hb'
   omega) hb hl
 obtain ⟨n,rfl⟩:=e6 (by simp)
 exact ⟨n,H',e1,e2,e3,e4,fun b e hbe he=>e5 b e (hsub.get _ _ hbe) he⟩
theorem Bl.ne {E:fg α} {ty:Nat} {H0 H:Heap} {v:AV} {l:List α} (h:Bl E ty H0 H v l) {b:Nat} {e:Ent} (hb:H.get b=some e) (he:∀ cs,e ≠ .cells cs ty true) (n:Nat):v ≠ .own b 0 n n E.sz false:=by
 intro hv
 rcases h with ⟨h,-⟩ | ⟨b',cells,h,hb',-⟩
 ·rw [h] at hv; cases hv
 ·rw [h] at hv; cases hv
  rw [hb] at hb'; cases hb'
  exact he _ rfl
theorem SlV.app {E:fg α} {ty ty2 bytes id b off:Nat} {H0 H:Heap} {w:AV} {l l2:List α} (h:SlV E ty H (.own b off l.length l.length E.sz true) l) (hk:Kp H0 H) (hy:SlV E ty2 H w l2) (hid:H0.next<=id) (hid2:id<H.next) (hfree:H.get id=none)
  (hb:(l.length+l2.length)*bytes<=70368744177664) (hl:l.length+l2.length<4611686018427387904) :
  ∃ v' H',cM H id E.sz bytes ty (.own b off l.length l.length E.sz true) w=some (v',H')/\SlV E ty H' v' (l++l2)/\Kp H0 H'/\H'.next=H.next/\Sub H H'/\(0<l2.length->Own E ty H0 H' id false v' (l++l2)):=by
 obtain ⟨cells,hr0,ht,hcl⟩:=h
 obtain ⟨cs,rw0,hg⟩:=ht _ _ _ _ _ _ rfl
 obtain ⟨-,-,n0,hn0,hf0⟩:=hr0
 simp only [g8,Ux] at hn0
 subst hn0
 simp only [aM,hg] at hf0
 obtain ⟨news,hr,hty2,hc⟩:=hy
 obtain ⟨m,hm,hlen⟩:=hr.length
 obtain ⟨-,-,m',hm',hf⟩:=hr
 rw [hm] at hm'; cases hm'
 have hml:m=l2.length:=Vv E.pos (by rw [<- hlen,hc.1])
 obtain ⟨fr,hfr0⟩:∃ fr,(match w with | .own b _ _ _ _ _=>some b | _=>none)=fr:=⟨_,rfl⟩
 subst hml
 have hnf:∀ {b e},H.get b=some e->b≠id:=fun hb e1=>by rw [e1,hfree] at hb; cases hb
 split at hf0
 ·rename_i hcond
  cases hf0
  have hap:∀ fr,cH H id E.sz bytes ty (.own b off l.length l.length E.sz true) l2.length news fr=if l2.length=0 then some (.own b off l.length l.length E.sz true,H) else some (.own id 0 (l.length+l2.length) (l.length+l2.length) E.sz false,H.put id (.cells ((cs.drop off).take (l.length*E.sz)++news) ty true)):=fun fr=>by
   simp only [cH,hg]
   rw [if_pos ⟨trivial,hb,hl,trivial,hcond.2.2⟩]
   by_cases h0:l2.length=0
   ·rw [if_pos (by omega),if_pos h0,if_pos h0]
   ·rw [if_neg (by omega),if_neg h0]
    simp
  have e:∀ x,cM H id E.sz bytes ty x w=cH H id E.sz bytes ty x l2.length news fr:=fun x=>by
   unfold cM
   rw [hm]
   simp only
   rw [hf]
   simp only
   rw [hfr0]
  by_cases h0:l2.length=0
  ·refine ⟨_,H,by rw [e,hap,if_pos h0],?_,hk,rfl,Sub.refl H,fun h=>by omega⟩
   have:l2=[]:=Us h0
   subst this
   rw [Vi]
   refine ⟨_,⟨TO _,(fun s h=>by cases h),l.length,rfl,?_⟩,ht,hcl⟩
   simp only [aM,hg]
   rw [if_pos hcond]
  ·have hs:Sub H (H.put id (.cells ((cs.drop off).take (l.length*E.sz)++news) ty true)):=⟨TO _,fun c e hc=>by rw [aA (hnf hc)]; exact hc⟩
   refine ⟨_,_,by rw [e,hap,if_neg h0],?_,hk.put hid hid2,rfl,hs,fun _=>⟨_,by rw [T9],aq _ _ _,(hcl.mono (hs.t _)).append (hc.mono (hs.t _)),hid⟩⟩
   refine ⟨(cs.drop off).take (l.length*E.sz)++news,Zr (aq _ _ _) ?_ (TO _),fun _ _ _ _ _ _ e=>by cases e; exact ⟨_,_,aq _ _ _⟩,(hcl.mono (hs.t _)).append (hc.mono (hs.t _))⟩
   rw [T9,hcl.1,hc.1,UO]
 ·cases hf0
theorem SlV.nilcase {E:fg α} {ty:Nat} {H:Heap} {v:AV} {l:List α} (h:SlV E ty H v l):(v=.nilSl/\l=[])\/bX .eql .sl v .nilSl=some (.bool false):=by
 obtain ⟨cells,⟨-,h1,n,hn,hf⟩,-,hc⟩:=h
 cases v with
 | nilSl =>
  simp only [aM] at hf
  split at hf
  ·cases hf
   refine .inl ⟨rfl,Us ?_⟩
   have:=hc.1
   have hp:=E.pos
   simp only [V5] at this
   rcases Nat.mul_eq_zero.1 this.symm with h | h
   ·exact h
   ·omega
  ·cases hf
 | own b off n c z x=>exact .inr rfl
 | sl cs n=>exact .inr rfl
 | str s=>exact absurd rfl (h1 _)
 | _=>simp [g8] at hn
def aL (l:List Nat):List AV:=l.map fun a=>.int .u64 ((a:Nat):Int)
theorem oW (l:List Nat):(aL l).length=l.length:=by simp [aL]
theorem Ku (l:List Nat) (j a:Nat):(aL l).set j (.int .u64 (a:Int))=aL (l.set j a):=by simp [aL,Xd]
theorem CU {l:List Nat} {j:Nat} (h:j<l.length):bH (aL l) j none=some (.int .u64 ((l.getD j 0:Nat):Int)):=by
 simp [bH,aL,TI,h]
theorem tV (H:Heap) (l:List Nat):Cells (bU cm) H (aL l) l:=by
 refine ⟨by simp [aL,bU],fun i a hi=>⟨.int .u64 (a:Int),?_,rfl⟩⟩
 have hlt:=(TZ.1 hi).1
 apply Vp
 intro k
 have e:(aL l)[i]? = some (.int .u64 (a:Int)):=by simp [aL,hi]
 simp only [bU,Uh,Ui,Vg]
 cases k with
 | zero=>simpa using e
 | succ k=>simp
theorem mU (n:Nat):(List.replicate n [AV.int .u64 0]).flatten=aL (List.replicate n 0):=by
 induction n with
 | zero=>rfl
 | succ n ih=>rw [Vf,WT,ih]; rfl
theorem uP {H0 H:Heap} {b ty:Nat} {l:List Nat} {n:Nat} {ex:Bool} (hb:H.get b=some (.cells (aL l) ty true)) (h0:H0.next<=b) (hn:l.length=n):Own (bU cm) ty H0 H b ex (.own b 0 n n 1 ex) l:=⟨_,by rw [hn]; rfl,hb,tV H l,h0⟩
theorem nE {b off n c sz j:Nat} {x:Bool} {k:IntKind} (h:j<n):cw sz (.own b off n c sz x) (.int k (j:Int))=some (.ptr b (off+j*sz)):=by
 show aN _ (.indexAddr sz (.t 0) (.t 1))=_
 simp [aN,fH,h]
theorem IL (b off n c sz:Nat) (x:Bool):lenV (.own b off n c sz x)=some (.int .i64 (n:Int)):=rfl
theorem Rq {α:Type} {a b:Nat} {x y:α} (h:a<b):(if a<b then x else y)=x:=if_pos h
def uu (o:AOp):Bool:=o.looks || o.isPure
section
variable (tab:Nat->Option aw)
def L4 (base:Nat) (T:Tm) (i:Nat) (d:jO) (s:DS) (K:DS->Prop):Prop:=match d.cls,d.looks with
 | 0,(k,adds) :: _=>uu d.op=true/\mA tab (Src.ev T) (dB base s.Es (s.Cs.getD k default) adds) 0 d.op fun v _=>K ⟨s.Vs++[v],s.Cs,s.Es++[none]⟩
 | 1,_=>d.op.makes=true/\mA tab (Src.ev T) (Heap.nil 0) (base+i) d.op fun v H'=>K ⟨s.Vs++[v],s.Cs,s.Es++[H'.get (base+i)]⟩
 | 2,[(k,adds)]=>mA tab (Src.ev T) (dB base s.Es (s.Cs.getD k default) adds) (base+i) d.op fun v H'=>K ⟨s.Vs++[v],s.Cs++[H'],s.Es++[none]⟩
 | _,_=>False
def Gk (base:Nat) (d:jO) (s:DS) (K:DS->Prop):Prop:=match d.cls,d.looks with
 | 2,[(k,adds)]=>K ⟨s.Vs++[.tup []],s.Cs++[dB base s.Es (s.Cs.getD k default) adds],s.Es++[none]⟩
 | 2,_=>False
 | _,_=>K ⟨s.Vs++[.tup []],s.Cs,s.Es++[none]⟩
def wd (base:Nat) (T0:Tm):Nat->List jO->DS->(DS->Prop)->Prop
 | _,[],s,Q=>Q s
 | i,d :: ds,s,Q=>match b7 (cq T0 s.Vs d.uses) d.guard with
  | none=>False
  | some true=>L4 tab base (cq T0 s.Vs d.uses) i d s fun s'=>wd base T0 (i+1) ds s' Q
  | some false=>Gk base d s fun s'=>wd base T0 (i+1) ds s' Q
end
section
variable {tab:Nat->Option aw}
theorem Ee {base i:Nat} {T0:Tm} {d:jO} {s:DS} {K:DS->Prop} (hw:b7 (cq T0 s.Vs d.uses) d.guard=some true) (h:L4 tab base (cq T0 s.Vs d.uses) i d s K) :
  ∃ s',K s'/\∃ N,∀ m n,N<=m->N<=n->kM (l7 tab eU m n) base T0 i d s=some s':=by
 obtain ⟨dst,op,guard,uses,cls,looks⟩:=d
 simp only at hw
 unfold L4 at h
 simp only at h
 split at h
 ·rename_i k adds r
  obtain ⟨hz,h⟩:=h
  have h:=h.run
  obtain ⟨v,H',hk,N,g⟩:=mB h
  refine ⟨_,hk,N,fun m n hm hn=>?_⟩
  have g:=g m n hm hn
  unfold kM
  simp only [hw]
  cases hp:aN (Src.ev (cq T0 s.Vs uses)) op with
  | some w =>
   have:zP (l7 tab eU m n) (Src.ev (cq T0 s.Vs uses)) (dB base s.Es (s.Cs.getD k default) adds) 0 op=some (w,dB base s.Es (s.Cs.getD k default) adds):=by
    cases op <;> first | (simp only [zP,hp]; done) | (simp [aN] at hp; done)
   rw [this] at g
   cases g; rfl
  | none =>
   have hh:bh (Src.ev (cq T0 s.Vs uses)) (dB base s.Es (s.Cs.getD k default) adds) 0 op=some (v,H'):=by
    cases op <;> first | (simp only [zP,hp] at g; exact g) | (simp [uu,AOp.looks,AOp.isPure] at hz; done)
   have hl:op.looks=true:=by
    cases op <;> first | rfl | (simp [bh] at hh; done) | (simp [uu,AOp.looks,AOp.isPure] at hz; done)
   simp only [hh,hl,if_true]
 ·obtain ⟨hz,h⟩:=h
  have h:=h.run
  obtain ⟨v,H',hk,N,g⟩:=mB h
  refine ⟨_,hk,N,fun m n hm hn=>?_⟩
  have g:=g m n hm hn
  unfold kM
  simp only [hw,hz,if_true]
  have hp:aN (Src.ev (cq T0 s.Vs uses)) op=none:=by cases op <;> first | rfl | (simp [AOp.makes] at hz; done)
  have hh:bh (Src.ev (cq T0 s.Vs uses)) (Heap.nil 0) (base+i) op=some (v,H'):=by
   cases op <;> first | (simp only [zP,hp] at g; exact g) | (simp [AOp.makes] at hz; done)
  simp only [hh]
 ·have h:=h.run
  obtain ⟨v,H',hk,N,g⟩:=mB h
  refine ⟨_,hk,N,fun m n hm hn=>?_⟩
  have g:=g m n hm hn
  unfold kM
  simp only [hw,g]
 ·exact h.elim
theorem CN {cal:oE} {base i:Nat} {T0:Tm} {d:jO} {s:DS} {K:DS->Prop} (hw:b7 (cq T0 s.Vs d.uses) d.guard=some false) (h:Gk base d s K):∃ s',K s'/\∀ cal,kM cal base T0 i d s=some s':=by
 obtain ⟨dst,op,guard,uses,cls,looks⟩:=d
 simp only at hw
 unfold Gk at h
 simp only at h
 split at h
 ·refine ⟨_,h,fun cal=>?_⟩
  unfold kM; simp only [hw]
 ·exact h.elim
 ·rename_i h1 h2
  refine ⟨_,h,fun cal=>?_⟩
  unfold kM
  simp only [hw]
theorem yY {base:Nat} {T0:Tm}:∀ (ds:List jO) (i:Nat) (s:DS) (Q:DS->Prop),wd tab base T0 i ds s Q->∃ s',Q s'/\∃ N,∀ m n,N<=m->N<=n->tZ (l7 tab eU m n) base T0 i ds s=some s'
 | [],i,s,Q,h=>⟨s,h,0,fun _ _ _ _=>rfl⟩
 | d :: ds,i,s,Q,h=>by
  unfold wd at h
  split at h
  ·exact h.elim
  ·rename_i hw
   obtain ⟨s1,h1,N1,g1⟩:=Ee hw h
   obtain ⟨s2,hq,N2,g2⟩:=yY ds _ _ _ h1
   refine ⟨s2,hq,N1+N2,fun m n hm hn=>?_⟩
   unfold tZ
   rw [g1 m n (by omega) (by omega)]
   exact g2 m n (by omega) (by omega)
  ·rename_i hw
   obtain ⟨s1,h1,g1⟩:=CN (cal:=R8) (i:=i) hw h
   obtain ⟨s2,hq,N2,g2⟩:=yY ds _ _ _ h1
   refine ⟨s2,hq,N2,fun m n hm hn=>?_⟩
   unfold tZ
   rw [g1]
   exact g2 m n hm hn
structure WD (tab:Nat->Option aw) (base:Nat) (T0:Tm) (i:Nat) (ds:List jO) (s:DS) (Q:DS->Prop):Prop where
 run:wd tab base T0 i ds s Q
theorem CE:WD=wd:=by funext tab b T0 i ds s Q; exact propext ⟨fun h=>h.run,fun h=>⟨h⟩⟩
theorem AV.beq_refl':∀ v:AV,AV.beq v v=true:=by
 intro v
 induction v using AV.rec (motive_2:=fun l=>AV.beqs l l=true) with
 | undef=>rfl
 | bool b=>simp [AV.beq]
 | int k n=>simp [AV.beq]
 | str s=>simp [AV.beq]
 | nilPtr=>rfl
 | nilSl=>rfl
 | nilFn=>rfl
 | nilIf=>rfl
 | nilMap=>rfl
 | agg cs ih=>simpa [AV.beq] using ih
 | tup cs ih=>simpa [AV.beq] using ih
 | sl cs n ih=>simpa [AV.beq] using ih
 | dp cs n ih=>simpa [AV.beq] using ih
 | own b off n c sz ex=>simp [AV.beq]
 | ptr b off=>simp [AV.beq]
 | fn f a b iha ihb=>simp [AV.beq,iha,ihb]
 | ifc t v ih=>simp [AV.beq,ih]
 | map b=>simp [AV.beq]
 | loopv b=>simp [AV.beq]
 | nil=>rfl
 | cons a l iha ihl=>simp [AV.beqs,iha,ihl]
def l9 (tab:Nat->Option aw) (base:Nat) (T:Tm) (Cs:List Heap) (Es:List (Option Ent)) (op:AOp) (w:AV):List (Nat × List Nat)->Prop
 | []=>True
 | (k,adds) :: r=>mA tab (Src.ev T) (dB base Es (Cs.getD k default) adds) 0 op (fun v _=>v=w)/\l9 tab base T Cs Es op w r
def Hi (tab:Nat->Option aw) (base:Nat) (T0:Tm) (Vs:List AV) (Cs:List Heap) (Es:List (Option Ent)) (i:Nat) (d:jO):Prop:=match d.cls with
 | 0=>match d.guard with
  | none=>uu d.op=true/\l9 tab base (cq T0 Vs d.uses) Cs Es d.op (Vs.getD i .undef) d.looks
  | some p=>mV (aa (cq T0 Vs d.uses) p.1) p.2 (uu d.op=true/\l9 tab base (cq T0 Vs d.uses) Cs Es d.op (Vs.getD i .undef) d.looks) True () ()
 | _+1=>True
def kF (tab:Nat->Option aw) (base:Nat) (T0:Tm) (Vs:List AV) (Cs:List Heap) (Es:List (Option Ent)):Nat->List jO->Prop
 | _,[]=>True
 | i,d :: ds=>Hi tab base T0 Vs Cs Es i d/\kF tab base T0 Vs Cs Es (i+1) ds
theorem Gl (T:Tm) (t:Nat) (w:Bool):b7 T (some (t,w))=match aa T t with | .bool b=>some (b == w) | .tup []=>some false | _=>none:=by
 unfold aa
 rw [TI]
 cases h:T[t]? with
 | none=>simp only [b7,h]; rfl
 | some v =>
  simp only [b7,h,Vm]
  cases v with
  | tup vs=>cases vs <;> rfl
  | _=>rfl
theorem rg {base:Nat} {T:Tm} {Cs:List Heap} {Es:List (Option Ent)} {op:AOp} {w:AV} (hz:uu op=true) (hp:aN (Src.ev T) op=none):∀ {looks:List (Nat × List Nat)},l9 tab base T Cs Es op w looks->(looks.all fun p=>match bh (Src.ev T) (dB base Es (Cs.getD p.1 default) p.2) 0 op with | some (v,_)=>AV.beq v w | none=>false)=true
 | [],_=>rfl
 | (k,adds) :: r,h=>by
  obtain ⟨h1,h2⟩:=h
  obtain ⟨v,H',rfl,N,g⟩:=mB h1.run
  have g:=g N N (TO _) (TO _)
  have hh:bh (Src.ev T) (dB base Es (Cs.getD k default) adds) 0 op=some (v,H'):=by
   cases op <;> first | (simp only [zP,hp] at g; exact g) | (simp [uu,AOp.looks,AOp.isPure] at hz; done)
  rw [List.all_cons,rg hz hp h2]
  simp only [hh,AV.beq_refl',YN]
theorem Dn {base:Nat} {T0:Tm} {s:DS} {i:Nat} {d:jO} (h:Hi tab base T0 s.Vs s.Cs s.Es i d):kV base T0 s i d=true:=by
 obtain ⟨dst,op,g,us,c,looks⟩:=d
 cases c with
 | succ c=>rfl
 | zero =>
  cases g with
  | none =>
   obtain ⟨hz,h1⟩:=h
   unfold kV
   simp only [show b7 (cq T0 s.Vs us) none=some true from rfl]
   cases hp:aN (Src.ev (cq T0 s.Vs us)) op with
   | some v=>rfl
   | none=>exact rg hz hp h1
  | some p =>
   obtain ⟨t,w⟩:=p
   unfold Hi mV at h
   simp only at h
   unfold kV
   simp only [Gl]
   cases hg:aa (cq T0 s.Vs us) t with
   | bool b =>
    rw [hg] at h
    simp only at h
    by_cases hb:b=w
    ·rw [if_pos hb] at h
     subst hb
     simp only [beq_self_eq_true]
     cases hp:aN (Src.ev (cq T0 s.Vs us)) op with
     | some v=>rfl
     | none=>exact rg h.1 hp h.2
    ·have:(b == w)=false:=by simpa using hb
     simp only [this]
   | tup vs=>cases vs <;> rfl
   | _=>rw [hg] at h; exact h.elim
theorem uO {base:Nat} {T0:Tm} {s:DS}:∀ (ds:List jO) (i:Nat),kF tab base T0 s.Vs s.Cs s.Es i ds->ml base T0 s i ds=true
 | [],i,_=>rfl
 | d :: ds,i,h=>by
  unfold ml
  rw [uO ds _ h.2,Dn h.1]; rfl
def Su (tab:Nat->Option aw) (base:Nat) (T0:Tm) (ds:List jO) (late:List Nat) (Q:Tm->Heap->Prop) (s:DS):Prop:=kF tab base T0 s.Vs s.Cs s.Es 0 ds/\Q (gu T0 ds s.Vs) (dB base s.Es (s.Cs.getLastD default) late)
theorem aI {rd:Bool} {ds:List jO} {late:List Nat} {T:Tm} {H:Heap} {Q:Ex->Tm->Heap->Prop} (h:WD tab H.next T 0 ds ⟨[],[H.up ds.length],[]⟩ (Su tab H.next T ds late (Q .nrm))):WC tab rd (.draw ds late) T H Q:=by
 obtain ⟨s,⟨hs,hq⟩,N,g⟩:=yY _ _ _ _ h.run
 have hs:=uO _ _ hs
 refine ⟨.nrm,_,_,⟨N,fun m n hm hn=>?_⟩,hq⟩
 simp only [aJ,Fv]
 rw [show ({ H with next:=H.next+ds.length }:Heap)=H.up ds.length from rfl,g m n hm hn]
 simp only [hs,if_true]
variable {base i k:Nat} {T0:Tm} {dst:Option Nat} {op:AOp} {us:List (Nat × Option Nat)} {adds:List Nat} {r:List (Nat × List Nat)} {ds:List jO} {Vs:List AV} {Cs:List Heap} {Es:List (Option Ent)} {Q:DS->Prop}
theorem QG:WD tab base T0 i [] ⟨Vs,Cs,Es⟩ Q=Q ⟨Vs,Cs,Es⟩:=by rw [CE]; rfl
theorem OJ:WD tab base T0 i (⟨dst,op,none,us,0,(k,adds) :: r⟩ :: ds) ⟨Vs,Cs,Es⟩ Q=(uu op=true/\mA tab (Src.ev (cq T0 Vs us)) (dB base Es (Cs.getD k default) adds) 0 op fun v _=>WD tab base T0 (i+1) ds ⟨Vs++[v],Cs,Es++[none]⟩ Q):=by rw [CE]; rfl
theorem OI:WD tab base T0 i (⟨dst,op,none,us,1,r⟩ :: ds) ⟨Vs,Cs,Es⟩ Q=(op.makes=true/\mA tab (Src.ev (cq T0 Vs us)) (Heap.nil 0) (base+i) op fun v H'=>WD tab base T0 (i+1) ds ⟨Vs++[v],Cs,Es++[H'.get (base+i)]⟩ Q):=by
 rw [CE]
 conv=>lhs; unfold wd
 cases r <;> rfl
theorem QH:WD tab base T0 i (⟨dst,op,none,us,2,[(k,adds)]⟩ :: ds) ⟨Vs,Cs,Es⟩ Q=mA tab (Src.ev (cq T0 Vs us)) (dB base Es (Cs.getD k default) adds) (base+i) op fun v H'=>WD tab base T0 (i+1) ds ⟨Vs++[v],Cs++[H'],Es++[none]⟩ Q:=by rw [CE]; rfl
theorem L3 {t:Nat} {w:Bool}:WD tab base T0 i (⟨dst,op,some (t,w),us,0,(k,adds) :: r⟩ :: ds) ⟨Vs,Cs,Es⟩ Q =
  mV (aa (cq T0 Vs us) t) w (uu op=true/\mA tab (Src.ev (cq T0 Vs us)) (dB base Es (Cs.getD k default) adds) 0 op fun v _=>WD tab base T0 (i+1) ds ⟨Vs++[v],Cs,Es++[none]⟩ Q) (WD tab base T0 (i+1) ds ⟨Vs++[.tup []],Cs,Es++[none]⟩ Q) () ():=by
 rw [CE]
 have hw:b7 (cq T0 Vs us) (some (t,w))=match aa (cq T0 Vs us) t with | .bool b=>some (b == w) | .tup []=>some false | _=>none:=by
  generalize cq T0 Vs us=T
  unfold aa
  rw [TI]
  cases h:T[t]? with
  | none=>simp only [b7,h]; rfl
  | some v =>
   simp only [b7,h,Vm]
   cases v with
   | tup vs=>cases vs <;> rfl
   | _=>rfl
 conv=>lhs; unfold wd
 simp only [hw,mV]
 cases aa (cq T0 Vs us) t with
 | bool b=>cases b <;> cases w <;> rfl
 | tup vs=>cases vs <;> rfl
 | _=>rfl
theorem Mb (T0:Tm) (Vs:List AV):cq T0 Vs []=List.replicate T0.length .undef:=rfl
theorem Ma (T0:Tm) (Vs:List AV) (u:Nat × Option Nat):cq T0 Vs [u]=(List.replicate T0.length .undef).set u.1 (nj T0 Vs u):=rfl
theorem L9 (T0:Tm) (Vs:List AV) (u v:Nat × Option Nat):cq T0 Vs [u,v]=((List.replicate T0.length .undef).set u.1 (nj T0 Vs u)).set v.1 (nj T0 Vs v):=rfl
theorem Gp (T0:Tm) (Vs:List AV) (u v w:Nat × Option Nat):cq T0 Vs [u,v,w]=(((List.replicate T0.length .undef).set u.1 (nj T0 Vs u)).set v.1 (nj T0 Vs v)).set w.1 (nj T0 Vs w):=rfl
theorem L7 (T0:Tm) (Vs:List AV) (n:Nat):nj T0 Vs (n,none)=aa T0 n:=rfl
theorem L8 (T0:Tm) (Vs:List AV) (n j:Nat):nj T0 Vs (n,some j)=Vs.getD j .undef:=rfl
theorem sE (base:Nat) (Es:List (Option Ent)) (C:Heap):dB base Es C []=C:=rfl
theorem pW (base:Nat) (Es:List (Option Ent)) (C:Heap) (a:Nat) (l:List Nat):dB base Es C (a :: l)=dB base Es (match Es.getD a none with | some e=>C.put (base+a) e | none=>C) l:=rfl
theorem iR (T:Tm) (d:jO) (ds:List jO) (v:AV) (vs:List AV):gu T (d :: ds) (v :: vs)=gu (putT T d.dst v) ds vs:=rfl
theorem kz (T:Tm) (vs:List AV):gu T [] vs=T:=by cases vs <;> rfl
theorem PD {base:Nat} {T0:Tm} {ds:List jO} {late:List Nat} {Q:Tm->Heap->Prop}:Su tab base T0 ds late Q ⟨Vs,Cs,Es⟩=(kF tab base T0 Vs Cs Es 0 ds/\Q (gu T0 ds Vs) (dB base Es (Cs.getLastD default) late)):=rfl
theorem Ri {Vs:List AV} {Cs:List Heap} {Es:List (Option Ent)} {i:Nat}:kF tab base T0 Vs Cs Es i []=True:=rfl
theorem Pn {g:Option (Nat × Bool)} {r:List (Nat × List Nat)}:kF tab base T0 Vs Cs Es i (⟨dst,op,g,us,1,r⟩ :: ds)=kF tab base T0 Vs Cs Es (i+1) ds:=by
 show (True/\_)=_
 simp
theorem Pm {g:Option (Nat × Bool)} {r:List (Nat × List Nat)}:kF tab base T0 Vs Cs Es i (⟨dst,op,g,us,2,r⟩ :: ds)=kF tab base T0 Vs Cs Es (i+1) ds:=by
 show (True/\_)=_
 simp
theorem Pl {r:List (Nat × List Nat)}:kF tab base T0 Vs Cs Es i (⟨dst,op,none,us,0,r⟩ :: ds)=((uu op=true/\l9 tab base (cq T0 Vs us) Cs Es op (Vs.getD i .undef) r)/\kF tab base T0 Vs Cs Es (i+1) ds):=rfl
theorem M6 {t:Nat} {w:Bool} {r:List (Nat × List Nat)}:kF tab base T0 Vs Cs Es i (⟨dst,op,some (t,w),us,0,r⟩ :: ds)=(mV (aa (cq T0 Vs us) t) w (uu op=true/\l9 tab base (cq T0 Vs us) Cs Es op (Vs.getD i .undef) r) True () ()/\kF tab base T0 Vs Cs Es (i+1) ds):=rfl
theorem Rl {T:Tm} {w:AV}:l9 tab base T Cs Es op w []=True:=rfl
theorem Pq {T:Tm} {w:AV} {r:List (Nat × List Nat)}:l9 tab base T Cs Es op w ((k,adds) :: r)=(mA tab (Src.ev T) (dB base Es (Cs.getD k default) adds) 0 op (fun v _=>v=w)/\l9 tab base T Cs Es op w r):=rfl
theorem Qh {x:Src}:uu (.mv x)=true:=rfl
theorem Lz {a b c:Src}:uu (.pick a b c)=true:=rfl
theorem Jp {z:List AV} {ps:List ((Nat × Nat) × Src)}:uu (.build z ps)=true:=rfl
theorem Jn {x:Src}:uu (.nilCheck x)=true:=rfl
theorem Oj {o:BinOp} {k:BK} {x y:Src}:uu (.bin o k x y)=true:=rfl
theorem Qg {o:UnOp} {x:Src}:uu (.un o x)=true:=rfl
theorem LC {k:IntKind} {x:Src}:uu (.conv k x)=true:=rfl
theorem LA {f:Fn} {a b:List Src}:uu (.mkfn f a b)=true:=rfl
theorem Jm {n:Nat} {x:Src} {a b c:Option Src}:uu (.slice n x a b c)=true:=rfl
theorem Qi {n:Nat} {x:Src}:uu (.fieldAddr n x)=true:=rfl
theorem Jo {k:Option Nat} {n:Nat} {x:Src}:uu (.field k n x)=true:=rfl
theorem Oh {n:Nat} {x y:Src}:uu (.indexAddr n x y)=true:=rfl
theorem Oi {n:Nat} {x:Src}:uu (.extract n x)=true:=rfl
theorem Og {x:Src}:uu (.len x)=true:=rfl
theorem LB {k:Option Nat} {x:Src}:uu (.load k x)=true:=rfl
theorem Oe {xs:List Src}:uu (.min xs)=true:=rfl
theorem Of {xs:List Src}:uu (.max xs)=true:=rfl
theorem Kj {n:Nat} {z:List AV}:AOp.makes (.alloc n z)=true:=rfl
theorem Pk {n:Nat} {x:Src}:AOp.makes (.box n x)=true:=rfl
theorem Rg {n m k:Nat} {z:List AV} {ps:List ((Nat × Nat) × Src)}:AOp.makes (.buildSlice n m z k ps)=true:=rfl
theorem M3 {n m k:Nat} {z:List AV} {a b:Src}:AOp.makes (.mksl n m k z a b)=true:=rfl
end
theorem aC {A1 B1:Prop} (a:A1) (b:B1):A1/\B1:=⟨a,b⟩
theorem aD {A1 B1 C1:Prop} (a:A1) (b:B1) (c:C1):A1/\B1/\C1:=⟨a,b,c⟩
theorem aX {A1 B1 C1 D1:Prop} (a:A1) (b:B1) (c:C1) (d:D1):A1/\B1/\C1/\D1:=⟨a,b,c,d⟩
theorem bS {A1 B1 C1 D1 E1:Prop} (a:A1) (b:B1) (c:C1) (d:D1) (e:E1):A1/\B1/\C1/\D1/\E1:=⟨a,b,c,d,e⟩
theorem dV {A1 B1 C1 D1 E1 F1:Prop} (a:A1) (b:B1) (c:C1) (d:D1) (e:E1) (f:F1):A1/\B1/\C1/\D1/\E1/\F1:=⟨a,b,c,d,e,f⟩
theorem gh {A1 B1 C1 D1 E1 F1 G1:Prop} (a:A1) (b:B1) (c:C1) (d:D1) (e:E1) (f:F1) (g:G1):A1/\B1/\C1/\D1/\E1/\F1/\G1:=⟨a,b,c,d,e,f,g⟩
theorem lA {A1 B1 C1 D1 E1 F1 G1 H1:Prop} (a:A1) (b:B1) (c:C1) (d:D1) (e:E1) (f:F1) (g:G1) (h:H1):A1/\B1/\C1/\D1/\E1/\F1/\G1/\H1:=⟨a,b,c,d,e,f,g,h⟩
theorem ko {A1 B1 C1 D1 E1 F1 G1 H1 I1:Prop} (a:A1) (b:B1) (c:C1) (d:D1) (e:E1) (f:F1) (g:G1) (h:H1) (i:I1):A1/\B1/\C1/\D1/\E1/\F1/\G1/\H1/\I1:=⟨a,b,c,d,e,f,g,h,i⟩
theorem qi {A1 B1 C1 D1 E1 F1 G1 H1 I1 J1:Prop} (a:A1) (b:B1) (c:C1) (d:D1) (e:E1) (f:F1) (g:G1) (h:H1) (i:I1) (j:J1):A1/\B1/\C1/\D1/\E1/\F1/\G1/\H1/\I1/\J1:=⟨a,b,c,d,e,f,g,h,i,j⟩
theorem oF {A1 B1 C1 D1 E1 F1 G1 H1 I1 J1 K1:Prop} (a:A1) (b:B1) (c:C1) (d:D1) (e:E1) (f:F1) (g:G1) (h:H1) (i:I1) (j:J1) (k:K1):A1/\B1/\C1/\D1/\E1/\F1/\G1/\H1/\I1/\J1/\K1:=⟨a,b,c,d,e,f,g,h,i,j,k⟩
theorem yU {A1 B1 C1 D1 E1 F1 G1 H1 I1 J1 K1 L1:Prop} (a:A1) (b:B1) (c:C1) (d:D1) (e:E1) (f:F1) (g:G1) (h:H1) (i:I1) (j:J1) (k:K1) (l:L1):A1/\B1/\C1/\D1/\E1/\F1/\G1/\H1/\I1/\J1/\K1/\L1:=⟨a,b,c,d,e,f,g,h,i,j,k,l⟩
theorem Bm {A1 B1 C1 D1 E1 F1 G1 H1 I1 J1 K1 L1 M1:Prop} (a:A1) (b:B1) (c:C1) (d:D1) (e:E1) (f:F1) (g:G1) (h:H1) (i:I1) (j:J1) (k:K1) (l:L1) (m:M1):A1/\B1/\C1/\D1/\E1/\F1/\G1/\H1/\I1/\J1/\K1/\L1/\M1:=⟨a,b,c,d,e,f,g,h,i,j,k,l,m⟩
theorem Ge {A1 B1 C1 D1 E1 F1 G1 H1 I1 J1 K1 L1 M1 N1:Prop} (a:A1) (b:B1) (c:C1) (d:D1) (e:E1) (f:F1) (g:G1) (h:H1) (i:I1) (j:J1) (k:K1) (l:L1) (m:M1) (n:N1):A1/\B1/\C1/\D1/\E1/\F1/\G1/\H1/\I1/\J1/\K1/\L1/\M1/\N1:=⟨a,b,c,d,e,f,g,h,i,j,k,l,m,n⟩
theorem Ok {A1 B1 C1 D1 E1 F1 G1 H1 I1 J1 K1 L1 M1 N1 O1:Prop} (a:A1) (b:B1) (c:C1) (d:D1) (e:E1) (f:F1) (g:G1) (h:H1) (i:I1) (j:J1) (k:K1) (l:L1) (m:M1) (n:N1) (o:O1):A1/\B1/\C1/\D1/\E1/\F1/\G1/\H1/\I1/\J1/\K1/\L1/\M1/\N1/\O1:=⟨a,b,c,d,e,f,g,h,i,j,k,l,m,n,o⟩
theorem Ql {A1 B1 C1 D1 E1 F1 G1 H1 I1 J1 K1 L1 M1 N1 O1 P1:Prop} (a:A1) (b:B1) (c:C1) (d:D1) (e:E1) (f:F1) (g:G1) (h:H1) (i:I1) (j:J1) (k:K1) (l:L1) (m:M1) (n:N1) (o:O1) (p:P1):A1/\B1/\C1/\D1/\E1/\F1/\G1/\H1/\I1/\J1/\K1/\L1/\M1/\N1/\O1/\P1:=⟨a,b,c,d,e,f,g,h,i,j,k,l,m,n,o,p⟩
theorem D7 {A1 B1 C1 D1 E1 F1 G1 H1 I1 J1 K1 L1 M1 N1 O1 P1 Q1:Prop} (a:A1) (b:B1) (c:C1) (d:D1) (e:E1) (f:F1) (g:G1) (h:H1) (i:I1) (j:J1) (k:K1) (l:L1) (m:M1) (n:N1) (o:O1) (p:P1) (q:Q1):A1/\B1/\C1/\D1/\E1/\F1/\G1/\H1/\I1/\J1/\K1/\L1/\M1/\N1/\O1/\P1/\Q1:=⟨a,b,c,d,e,f,g,h,i,j,k,l,m,n,o,p,q⟩
theorem Gd {A1 B1 C1 D1 E1 F1 G1 H1 I1 J1 K1 L1 M1 N1 O1 P1 Q1 R1:Prop} (a:A1) (b:B1) (c:C1) (d:D1) (e:E1) (f:F1) (g:G1) (h:H1) (i:I1) (j:J1) (k:K1) (l:L1) (m:M1) (n:N1) (o:O1) (p:P1) (q:Q1) (r:R1):A1/\B1/\C1/\D1/\E1/\F1/\G1/\H1/\I1/\J1/\K1/\L1/\M1/\N1/\O1/\P1/\Q1/\R1:=⟨a,b,c,d,e,f,g,h,i,j,k,l,m,n,o,p,q,r⟩
theorem Qk {A1 B1 C1 D1 E1 F1 G1 H1 I1 J1 K1 L1 M1 N1 O1 P1 Q1 R1 S1:Prop} (a:A1) (b:B1) (c:C1) (d:D1) (e:E1) (f:F1) (g:G1) (h:H1) (i:I1) (j:J1) (k:K1) (l:L1) (m:M1) (n:N1) (o:O1) (p:P1) (q:Q1) (r:R1) (s:S1):A1/\B1/\C1/\D1/\E1/\F1/\G1/\H1/\I1/\J1/\K1/\L1/\M1/\N1/\O1/\P1/\Q1/\R1/\S1:=⟨a,b,c,d,e,f,g,h,i,j,k,l,m,n,o,p,q,r,s⟩
theorem RP {A1 B1 C1 D1 E1 F1 G1 H1 I1 J1 K1 L1 M1 N1 O1 P1 Q1 R1 S1 T1:Prop} (a:A1) (b:B1) (c:C1) (d:D1) (e:E1) (f:F1) (g:G1) (h:H1) (i:I1) (j:J1) (k:K1) (l:L1) (m:M1) (n:N1) (o:O1) (p:P1) (q:Q1) (r:R1) (s:S1) (t:T1):A1/\B1/\C1/\D1/\E1/\F1/\G1/\H1/\I1/\J1/\K1/\L1/\M1/\N1/\O1/\P1/\Q1/\R1/\S1/\T1:=⟨a,b,c,d,e,f,g,h,i,j,k,l,m,n,o,p,q,r,s,t⟩
theorem RO {A1 B1 C1 D1 E1 F1 G1 H1 I1 J1 K1 L1 M1 N1 O1 P1 Q1 R1 S1 T1 U1:Prop} (a:A1) (b:B1) (c:C1) (d:D1) (e:E1) (f:F1) (g:G1) (h:H1) (i:I1) (j:J1) (k:K1) (l:L1) (m:M1) (n:N1) (o:O1) (p:P1) (q:Q1) (r:R1) (s:S1) (t:T1) (u:U1):A1/\B1/\C1/\D1/\E1/\F1/\G1/\H1/\I1/\J1/\K1/\L1/\M1/\N1/\O1/\P1/\Q1/\R1/\S1/\T1/\U1:=⟨a,b,c,d,e,f,g,h,i,j,k,l,m,n,o,p,q,r,s,t,u⟩
theorem Qj {A1 B1 C1 D1 E1 F1 G1 H1 I1 J1 K1 L1 M1 N1 O1 P1 Q1 R1 S1 T1 U1 V1:Prop} (a:A1) (b:B1) (c:C1) (d:D1) (e:E1) (f:F1) (g:G1) (h:H1) (i:I1) (j:J1) (k:K1) (l:L1) (m:M1) (n:N1) (o:O1) (p:P1) (q:Q1) (r:R1) (s:S1) (t:T1) (u:U1) (v:V1):A1/\B1/\C1/\D1/\E1/\F1/\G1/\H1/\I1/\J1/\K1/\L1/\M1/\N1/\O1/\P1/\Q1/\R1/\S1/\T1/\U1/\V1:=⟨a,b,c,d,e,f,g,h,i,j,k,l,m,n,o,p,q,r,s,t,u,v⟩
def ut:=TJ (TJ (TJ (TJ (TJ (TJ (@Mv) (@Mt)) (TJ (@JS) (@JR))) (TJ (TJ (@NR) (@NQ)) (TJ (@K7) (@K8)))) (TJ (TJ (TJ (@Mx) (@Mw)) (TJ (@JU) (@EY))) (TJ (TJ (@M8) (@Kq)) (TJ (@Ko) (TJ (@Ol) (@Qm)))))) (TJ (TJ (TJ (TJ (@Ox) (@Ea)) (TJ (@Ov) (@Ou))) (TJ (TJ (@Qo) (@LG)) (TJ (@Oq) (@LH)))) (TJ (TJ (TJ (@yV) (@CG)) (TJ (@PZ) (@Oo))) (TJ (TJ (@LO) (@Oy)) (TJ (@B5) (TJ (@As) (@FL))))))) (TJ (TJ (TJ (TJ (TJ (@AQ) (@Om)) (TJ (@Gg) (@RQ))) (TJ (TJ (@Ow) (@Qr)) (TJ (@Qs) (@RS)))) (TJ (TJ (TJ (@LK) (@Qt)) (TJ (@LN) (@LI))) (TJ (TJ (@LF) (@Ot)) (TJ (@LE) (TJ (@Qv) (@RR)))))) (TJ (TJ (TJ (TJ (@Bn) (@Qu)) (TJ (@Qq) (@Qp))) (TJ (TJ (@Gf) (@Jr)) (TJ (@MF) (TJ (@ME) (@Np))))) (TJ (TJ (TJ (@No) (@KJ)) (TJ (@KK) (@OG))) (TJ (TJ (@OF) (@LY)) (TJ (@LZ) (TJ (@LL) (@D9)))))))
def ur:=TJ (TJ (TJ (TJ (TJ (TJ (TJ (@wC) (@B5)) (TJ (@As) (@FL))) (TJ (TJ (@AQ) (@HN)) (TJ (@C6) (TJ (@Il) (@KB))))) (TJ (TJ (TJ (@Rx) (@Ss)) (TJ (@iQ) (TJ (@mm) (@US)))) (TJ (TJ (@PO) (@PK)) (TJ (@Ji) (TJ (@PL) (@PM)))))) (TJ (TJ (TJ (TJ (@PN) (@NE)) (TJ (@Kd) (TJ (@QN) (@PQ)))) (TJ (TJ (@PP) (@Dj)) (TJ (@yL) (TJ (@RG) (@PJ))))) (TJ (TJ (TJ (@List.length_set.{0}) (TJ (@if_true.{1}) (@if_true.{0}))) (TJ (TJ (@if_false.{1}) (@if_false.{0})) (TJ (@List.length_cons.{0}) (@List.length_nil.{0})))) (TJ (TJ (@List.map_cons.{0,0}) (@List.map_nil.{0,0})) (TJ (@List.append_nil.{0}) (TJ (@List.nil_append.{0}) (@List.cons_append.{0}))))))) (TJ (TJ (TJ (TJ (TJ (@Option.map_some.{0,0}) (@Option.map_none.{0,0})) (TJ (@W4) (TJ (@XO) (@Xu)))) (TJ (TJ (@decide_eq_true_eq) (@UT)) (TJ (@decide_eq_false_iff_not) (TJ (@UN) (@true_or))))) (TJ (TJ (TJ (@or_true) (@true_and)) (TJ (@and_true) (TJ (@false_or) (@or_false)))) (TJ (TJ (@ne_eq.{1}) (@not_false_eq_true)) (TJ (@not_true_eq_false) (TJ (@eq_self.{1}) (@Ut)))))) (TJ (TJ (TJ (TJ (@Vo) (@Fd)) (TJ (@Ht) (TJ (@HM) (@FF)))) (TJ (TJ (@RZ) (@Q8)) (TJ (@Pt) (TJ (@da) (@next_put))))) (TJ (TJ (TJ (@next_kill) (@Q3)) (TJ (@Q2) (TJ (@Q0) (@MB)))) (TJ (TJ (@JZ) (@MG)) (TJ (@JH) (TJ (@JG) (@Rk)))))))) (TJ (TJ (TJ (TJ (TJ (TJ (@Kw) (@Rr)) (TJ (@aq) (TJ (@aA) (@cZ)))) (TJ (TJ (@QV) (@M9)) (TJ (@Tl) (TJ (@Tk) (@Tj))))) (TJ (TJ (TJ (@SK) (@SJ)) (TJ (@Sr) (TJ (@Sq) (@RE)))) (TJ (TJ (@NO) (@SA)) (TJ (@aR) (TJ (@bj) (@br)))))) (TJ (TJ (TJ (TJ (@cz) (@bD)) (TJ (@Nat.add_eq) (TJ (@List.take_zero.{0}) (@List.drop_zero.{0})))) (TJ (TJ (@List.take_succ_cons.{0}) (@List.drop_succ_cons.{0})) (TJ (@List.append_eq.{0}) (TJ (@decide_true) (@decide_false))))) (TJ (TJ (TJ (@YN) (@Yy)) (TJ (@Ye) (TJ (@XV) (@Int.lt_irrefl)))) (TJ (TJ (@SM) (@SL)) (TJ (@Kl) (TJ (@List.set_cons_zero.{0}) (@List.set_cons_succ.{0}))))))) (TJ (TJ (TJ (TJ (TJ (@Int.ofNat_lt) (@Int.ofNat_le)) (TJ (@Int.natCast_inj) (TJ (@Int.natCast_pos) (@GK)))) (TJ (TJ (@J5) (@List.zip_cons_cons.{0,0})) (TJ (@List.zip_nil_left.{0,0}) (TJ (@List.zip_nil_right.{0,0}) (@S0))))) (TJ (TJ (TJ (@SZ) (@SY)) (TJ (@Rv) (TJ (@KM) (@Ph)))) (TJ (TJ (@Re) (@Rs)) (TJ (@Rt) (TJ (@RF) (@Ry)))))) (TJ (TJ (TJ (TJ (@QO) (@Lf)) (TJ (@K9) (TJ (@Lc) (@Le)))) (TJ (TJ (@xo) (@xn)) (TJ (@HV) (TJ (@La) (@oW))))) (TJ (TJ (TJ (@Ku) (@CU)) (TJ (@mU) (TJ (@nE) (@IL)))) (TJ (TJ (@Rq) (@Vg)) (TJ (@SU) (TJ (@ST) (@Sp))))))))
def RX:=TJ (TJ (TJ (@QG) (TJ (@OJ) (@L3))) (TJ (@OI) (TJ (@QH) (@PD)))) (TJ (TJ (@Ri) (TJ (@Pn) (@Pm))) (TJ (TJ (@Pl) (@M6)) (TJ (@Rl) (@Pq))))
def RW:=TJ (TJ (TJ (TJ (TJ (@Mb) (@Ma)) (TJ (@L9) (@Gp))) (TJ (TJ (@L7) (@L8)) (TJ (@sE) (TJ (@pW) (@iR))))) (TJ (TJ (TJ (@kz) (@List.length_replicate.{0})) (TJ (@List.getD_cons_zero.{0}) (@List.getD_cons_succ.{0}))) (TJ (TJ (@List.getLastD_cons.{0}) (@List.getLastD_nil.{0})) (TJ (@Qh) (TJ (@Lz) (@Jp)))))) (TJ (TJ (TJ (TJ (@Jn) (@Oj)) (TJ (@Qg) (@LC))) (TJ (TJ (@LA) (@Jm)) (TJ (@Qi) (TJ (@Jo) (@Oh))))) (TJ (TJ (TJ (@Oi) (@Og)) (TJ (@LB) (@Oe))) (TJ (TJ (@Of) (@Kj)) (TJ (@Pk) (TJ (@Rg) (@M3))))))
def Tn:=TJ (TJ (@Ro) (@Pr)) (TJ (@Sh) (TJ (@Rm) (@Ps)))
def Ti:=TJ (@QF) (TJ (@RV) (@OH))
theorem zW {F P Q:Prop} (f:F) (q:Q) (h:F->Q->P:=by intro h q; simp -dsimp (maxSteps:=1000000) (disch:=(first | omega | assumption | exact aR _ | exact bj _ _ | exact br | exact cz _ _ _ | exact bD _ _ | exact bp _ _ _ _ _ _ | exact cI _ _ | exact bE _)) only [↓ut,ur,Nat.reduceLT,Nat.reduceEqDiff,Nat.reduceAdd,reduceIte,reduceCtorEq,Nat.reduceBEq,Int.reduceEq,Int.reduceLT,Int.reduceLE,Int.reduceAdd,Int.reduceSub,h]; exact q):P:=h f q
theorem vV {P Q:Prop} (q:Q) (h:Q->P:=by intro q; simp -dsimp (maxSteps:=1000000) (disch:=(first | omega | assumption | exact aR _ | exact bj _ _ | exact br | exact cz _ _ _ | exact bD _ _ | exact bp _ _ _ _ _ _ | exact cI _ _ | exact bE _)) only [↓ut,ur,Nat.reduceLT,Nat.reduceEqDiff,Nat.reduceAdd,reduceIte,reduceCtorEq,Nat.reduceBEq,Int.reduceEq,Int.reduceLT,Int.reduceLE,Int.reduceAdd,Int.reduceSub]; exact q):P:=h q
theorem zV {F P:Prop} (f:F) (h:F->P:=by intro h; simp -dsimp (maxSteps:=1000000) (disch:=(first | omega | assumption | exact aR _ | exact bj _ _ | exact br | exact cz _ _ _ | exact bD _ _ | exact bp _ _ _ _ _ _ | exact cI _ _ | exact bE _)) only [↓ut,ur,Nat.reduceLT,Nat.reduceEqDiff,Nat.reduceAdd,reduceIte,reduceCtorEq,Nat.reduceBEq,Int.reduceEq,Int.reduceLT,Int.reduceLE,Int.reduceAdd,Int.reduceSub,h]):P:=h f
theorem cP {P:Prop} (h:P:=by simp -dsimp (maxSteps:=1000000) (disch:=(first | omega | assumption | exact aR _ | exact bj _ _ | exact br | exact cz _ _ _ | exact bD _ _ | exact bp _ _ _ _ _ _ | exact cI _ _ | exact bE _)) only [↓ut,ur,Nat.reduceLT,Nat.reduceEqDiff,Nat.reduceAdd,reduceIte,reduceCtorEq,Nat.reduceBEq,Int.reduceEq,Int.reduceLT,Int.reduceLE,Int.reduceAdd,Int.reduceSub]):P:=h
theorem zD {F P Q:Prop} (f:F) (q:Q) (h:F->Q->P:=by intro h q; simp -dsimp (maxSteps:=1000000) (disch:=(first | omega | assumption | exact aR _ | exact bj _ _ | exact br | exact cz _ _ _ | exact bD _ _ | exact bp _ _ _ _ _ _ | exact cI _ _ | exact bE _)) only [↓ut,ur,↓RX,RW,Nat.reduceLT,Nat.reduceEqDiff,Nat.reduceAdd,reduceIte,reduceCtorEq,Nat.reduceBEq,Int.reduceEq,Int.reduceLT,Int.reduceLE,Int.reduceAdd,Int.reduceSub,h]; exact q):P:=h f q
theorem zE {F P:Prop} (f:F) (h:F->P:=by intro h; simp -dsimp (maxSteps:=1000000) (disch:=(first | omega | assumption | exact aR _ | exact bj _ _ | exact br | exact cz _ _ _ | exact bD _ _ | exact bp _ _ _ _ _ _ | exact cI _ _ | exact bE _)) only [↓ut,ur,↓RX,RW,Nat.reduceLT,Nat.reduceEqDiff,Nat.reduceAdd,reduceIte,reduceCtorEq,Nat.reduceBEq,Int.reduceEq,Int.reduceLT,Int.reduceLE,Int.reduceAdd,Int.reduceSub,h]):P:=h f
theorem zK {P:Prop} (h:P:=by first | assumption | simp (disch:=(first | omega | assumption | (simp only [da,next_put,next_kill]; omega))) only [Tn] <;> assumption):P:=h
theorem zF {P:Prop} (h:P:=by first | assumption | simp (disch:=(first | omega | assumption | (simp only [da,next_put,next_kill]; omega))) only [Ti] <;> assumption):P:=h
theorem zO {P:Prop} (h:P:=by omega):P:=h
theorem zU {P:Prop} (h:P:=by decide):P:=h
theorem zG (A:Heap) {G:Heap} (h:Kp A G:=by first | assumption | simp (disch:=(first | omega | assumption | (simp only [da,next_put,next_kill]; omega))) only [Tn] <;> assumption):Sub A G:=h.sub
theorem zT (A:Heap) {G C:Heap} (h:Kp A G) (h2:Kp G C):Kp A C/\A.next<=C.next/\Wf C:=⟨h.trans h2,(h.trans h2).le,h2.wf⟩
set_option maxRecDepth 100000
abbrev dr:Nat:=3
abbrev gB:Nat:=4
abbrev fw:Nat:=5
abbrev fW:Nat:=6
abbrev qQ:Nat:=7
abbrev qP:Nat:=8
abbrev fP:Nat:=9
abbrev wH:Nat:=10
abbrev dF:Nat:=11
abbrev dE:Nat:=12
abbrev qO:Nat:=13
abbrev fp:Nat:=14
abbrev jl:Nat:=15
abbrev Aa:Nat:=16
abbrev eO:Nat:=17
abbrev gA:Nat:=18
abbrev pC:Nat:=19
abbrev im:Nat:=20
abbrev oU:Nat:=21
abbrev fu:Nat:=22
abbrev mO:Nat:=23
abbrev cE:Nat:=24
abbrev cD:Nat:=26
abbrev qZ:Nat:=25
abbrev fQ:Nat:=27
abbrev pB:Nat:=28
abbrev gZ:Nat:=29
abbrev ft:Nat:=30
abbrev pD:Nat:=31
abbrev cK:Nat:=32
abbrev fq:Nat:=33
abbrev iw:Nat:=35
abbrev iT:Nat:=34
abbrev xK:Nat:=36
abbrev zZ:Nat:=37
abbrev tH:Nat:=38
abbrev fz:Nat:=39
abbrev eQ:Nat:=40
abbrev lc:Nat:=41
abbrev oB:Nat:=43
abbrev qX:Nat:=42
abbrev bQ:Nat:=44
abbrev bP:Nat:=49
abbrev fy:Nat:=45
abbrev eP:Nat:=46
abbrev mP:Nat:=47
abbrev qY:Nat:=48
abbrev dZ:Nat:=50
abbrev dY:Nat:=51
abbrev qN:Nat:=52
abbrev rc:Nat:=53
abbrev jm:Nat:=55
abbrev kY:Nat:=54
abbrev Ac:Nat:=57
abbrev pu:Nat:=56
abbrev eA:Nat:=59
abbrev bN:Nat:=58
abbrev eh:Nat:=61
abbrev qV:Nat:=62
abbrev rf:Nat:=63
abbrev bL:Nat:=64
abbrev kE:Nat:=65
abbrev pH:Nat:=66
abbrev ee:Nat:=68
abbrev bM:Nat:=67
abbrev d9:Nat:=69
abbrev tK:Nat:=70
abbrev fT:Nat:=71
abbrev r8:Nat:=72
abbrev pw:Nat:=73
abbrev gD:Nat:=74
abbrev gC:Nat:=75
abbrev aV:Nat:=76
abbrev aU:Nat:=77
abbrev jq:Nat:=81
abbrev k9:Nat:=78
abbrev h9:Nat:=79
abbrev jS:Nat:=80
abbrev pE:Nat:=82
abbrev ny:Nat:=60
abbrev cd:Nat:=83
abbrev mQ:Nat:=87
abbrev re:Nat:=88
abbrev tU:Nat:=89
abbrev cT:Nat:=90
abbrev mN:Nat:=91
abbrev oj:Nat:=92
abbrev dt:Nat:=93
abbrev js:Nat:=94
abbrev b9:Nat:=96
abbrev ca:Nat:=97
abbrev bi:Nat:=98
abbrev jf:Nat:=99
abbrev fU:Nat:=100
abbrev nW:Nat:=101
abbrev nV:Nat:=103
abbrev wD:Nat:=102
abbrev kQ:Nat:=86
abbrev pt:Nat:=104
abbrev iU:Nat:=111
abbrev jp:Nat:=112
abbrev jr:Nat:=105
abbrev kZ:Nat:=106
abbrev lU:Nat:=107
abbrev jR:Nat:=108
abbrev lV:Nat:=109
abbrev jT:Nat:=110
abbrev cy:Nat:=113
abbrev cg:Nat:=84
abbrev mL:Nat:=85
abbrev l8:Nat:=116
abbrev fY:Nat:=117
abbrev iN:Nat:=120
abbrev io:Nat:=121
abbrev oh:Nat:=122
abbrev iM:Nat:=124
abbrev tJ:Nat:=123
abbrev wF:Nat:=95
abbrev cY:Nat:=130
abbrev fV:Nat:=131
abbrev qI:Nat:=133
abbrev qK:Nat:=132
abbrev nz:Nat:=115
abbrev cB:Nat:=114
abbrev pK:Nat:=119
abbrev lh:Nat:=118
abbrev eZ:Nat:=134
abbrev nA:Nat:=135
abbrev pI:Nat:=137
abbrev pJ:Nat:=136
abbrev nw:Nat:=138
abbrev cJ:Nat:=140
abbrev cC:Nat:=139
abbrev gf:Nat:=141
abbrev qL:Nat:=145
abbrev pA:Nat:=147
abbrev mM:Nat:=146
abbrev px:Nat:=142
abbrev nX:Nat:=143
abbrev aY:Nat:=127
abbrev pz:Nat:=128
abbrev lH:Nat:=159
abbrev wL:Nat:=161
abbrev qF:Nat:=160
abbrev qM:Nat:=162
abbrev tT:Nat:=163
abbrev qH:Nat:=165
abbrev wE:Nat:=164
abbrev mI:Nat:=166
abbrev oi:Nat:=167
abbrev cA:Nat:=168
abbrev nY:Nat:=169
abbrev mJ:Nat:=170
abbrev nZ:Nat:=172
abbrev cu:Nat:=144
abbrev qJ:Nat:=129
abbrev il:Nat:=181
abbrev oo:Nat:=180
abbrev wJ:Nat:=178
abbrev wI:Nat:=179
abbrev py:Nat:=182
abbrev wM:Nat:=185
abbrev nU:Nat:=171
abbrev fc:Nat:=187
abbrev qG:Nat:=158
abbrev pG:Nat:=193
abbrev qT:Nat:=194
abbrev wK:Nat:=196
abbrev tO:Nat:=195
abbrev Ad:Nat:=197
abbrev ol:Nat:=189
abbrev pF:Nat:=190
abbrev jk:Nat:=191
abbrev jg:Nat:=192
abbrev oA:Nat:=199
abbrev wN:Nat:=200
abbrev kD:Nat:=186
abbrev jh:Nat:=202
abbrev tN:Nat:=203
abbrev qR:Nat:=201
abbrev oC:Nat:=205
abbrev tQ:Nat:=206
abbrev dC:Nat:=207
abbrev Ab:Nat:=208
abbrev fX:Nat:=209
abbrev gE:Nat:=210
abbrev gF:Nat:=211
abbrev tP:Nat:=213
abbrev tM:Nat:=212
abbrev gy:Nat:=214
abbrev cN:Nat:=215
abbrev jj:Nat:=216
abbrev ji:Nat:=157
abbrev qS:Nat:=217
abbrev aZ:Nat:=218
abbrev fZ:Nat:=3
abbrev ag:Nat:=26
abbrev af:Nat:=37
abbrev t_api_Con:Nat:=39
abbrev ak:Nat:=41
abbrev eE:Nat:=63
abbrev aG:Nat:=64
abbrev ad:Nat:=66
abbrev fo:Nat:=74
abbrev sJ:Nat:=75
abbrev fm:Nat:=81
abbrev sI:Nat:=82
abbrev ae:Nat:=92
abbrev CV:Nat:=95
abbrev aQ:Nat:=124
abbrev eD:Nat:=150
abbrev mC:Nat:=171
abbrev aF:Nat:=222
abbrev fL:Nat:=245
theorem SP (n:Nat):Int.ofNat n=(OfNat.ofNat n:Int):=rfl
theorem Se:Int.negSucc 0 = -1:=rfl
theorem Sd:Int.negSucc 1 = -2:=rfl
theorem Sn (id id1 i n c k:Nat) (body:ACode):ACode.block id (.loop (.seq (.region [⟨some c,.bin .lss .int (.t i) (.t n),none⟩]) (.seq (.cond (.t c) .skip (.exit id)) (.seq (.block id1 body) (.region [⟨some k,.bin .add .int (.t i) (.c (.int .i64 1)),none⟩,⟨some i,.mv (.t k),none⟩])))))=Pz id id1 i n c k body:=rfl
theorem So (id:Nat) (c:ACode):ACode.block id (.loop c)=NP id c:=rfl
set_option maxHeartbeats 8000000
def aj (f:Func) (a:aw) (_:RC Tryz.prog f=some a:=by conv=>lhs; reduce; dsimp only [↓SP,↓Se,↓Sd]; (try dsimp only [Sn]); (try dsimp only [So])):aw:=a
def c_facetroomlaw22_PolyLattice:aw:=aj Tryz.f3 _
def gO:aw:=aj Tryz.f4 _
def jI:aw:=aj Tryz.f5 _
def ke:aw:=aj Tryz.f6 _
def yl:aw:=aj Tryz.f7 _
def yj:aw:=aj Tryz.f8 _
def jV:aw:=aj Tryz.f9 _
def Co:aw:=aj Tryz.f10 _
def gN:aw:=aj Tryz.f11 _
def gM:aw:=aj Tryz.f12 _
def yi:aw:=aj Tryz.f13 _
def jA:aw:=aj Tryz.f14 _
def jy:aw:=aj Tryz.f15 _
def AW:aw:=aj Tryz.f16 _
def iC:aw:=aj Tryz.f17 _
def lx:aw:=aj Tryz.f18 _
def vI:aw:=aj Tryz.f19 _
def lZ:aw:=aj Tryz.f20 _
def Cv:aw:=aj Tryz.f21 _
def jH:aw:=aj Tryz.f22 _
def rC:aw:=aj Tryz.f23 _
def dO:aw:=aj Tryz.f24 _
def dM:aw:=aj Tryz.f26 _
def yv:aw:=aj Tryz.f25 _
def jW:aw:=aj Tryz.f27 _
def vH:aw:=aj Tryz.f28 _
def vG:aw:=aj Tryz.f29 _
def jC:aw:=aj Tryz.f30 _
def vJ:aw:=aj Tryz.f31 _
def dU:aw:=aj Tryz.f32 _
def jB:aw:=aj Tryz.f33 _
def iB:aw:=aj Tryz.f35 _
def iX:aw:=aj Tryz.f34 _
def yx:aw:=aj Tryz.f36 _
def FM:aw:=aj Tryz.f37 _
def AR:aw:=aj Tryz.f38 _
def jK:aw:=aj Tryz.f39 _
def tq:aw:=aj Tryz.f40 _
def yr:aw:=aj Tryz.f41 _
def c_dual_points:aw:=aj Tryz.f43 _
def yu:aw:=aj Tryz.f42 _
def eI:aw:=aj Tryz.f44 _
def eH:aw:=aj Tryz.f49 _
def jJ:aw:=aj Tryz.f45 _
def tp:aw:=aj Tryz.f46 _
def A2:aw:=aj Tryz.f47 _
def c_dual_cons:aw:=aj Tryz.f48 _
def ib:aw:=aj Tryz.f50 _
def ia:aw:=aj Tryz.f51 _
def yh:aw:=aj Tryz.f52 _
def yw:aw:=aj Tryz.f53 _
def jD:aw:=aj Tryz.f55 _
def lq:aw:=aj Tryz.f54 _
def FO:aw:=aj Tryz.f57 _
def vz:aw:=aj Tryz.f56 _
def ij:aw:=aj Tryz.f59 _
def cS:aw:=aj Tryz.f58 _
def ii:aw:=aj Tryz.f61 _
def yq:aw:=aj Tryz.f62 _
def c_cone_Gens:aw:=aj Tryz.f63 _
def cQ:aw:=aj Tryz.f64 _
def pd:aw:=aj Tryz.f65 _
def vM:aw:=aj Tryz.f66 _
def ig:aw:=aj Tryz.f68 _
def cR:aw:=aj Tryz.f67 _
def ie:aw:=aj Tryz.f69 _
def AU:aw:=aj Tryz.f70 _
def jX:aw:=aj Tryz.f71 _
def Cm:aw:=aj Tryz.f72 _
def vA:aw:=aj Tryz.f73 _
def rF:aw:=aj Tryz.f74 _
def rE:aw:=aj Tryz.f75 _
def bB:aw:=aj Tryz.f76 _
def bA:aw:=aj Tryz.f77 _
def jF:aw:=aj Tryz.f81 _
def lv:aw:=aj Tryz.f78 _
def ic:aw:=aj Tryz.f79 _
def j9:aw:=aj Tryz.f80 _
def AX:aw:=aj Tryz.f82 _
def yg:aw:=aj Tryz.f60 _
def dg:aw:=aj Tryz.f83 _
def c_cone_checked:aw:=aj Tryz.f87 _
def yA:aw:=aj Tryz.f88 _
def A9:aw:=aj Tryz.f89 _
def c_P_cone_under_add:aw:=aj Tryz.f90 _
def rB:aw:=aj Tryz.f91 _
def tj:aw:=aj Tryz.f92 _
def du:aw:=⟨2,2,[],.skip,(some (.sortF af [js]))⟩
def rH:aw:=aj Tryz.f94 _
def db:aw:=aj Tryz.f96 _
def de:aw:=aj Tryz.f97 _
def bW:aw:=aj Tryz.f98 _
def vB:aw:=aj Tryz.f99 _
def jY:aw:=aj Tryz.f100 _
def sX:aw:=aj Tryz.f101 _
def sW:aw:=aj Tryz.f103 _
def Ck:aw:=aj Tryz.f102 _
def sV:aw:=aj Tryz.f86 _
def vw:aw:=aj Tryz.f104 _
def iY:aw:=aj Tryz.f111 _
def jE:aw:=aj Tryz.f112 _
def jG:aw:=aj Tryz.f105 _
def lu:aw:=aj Tryz.f106 _
def lX:aw:=aj Tryz.f107 _
def jZ:aw:=aj Tryz.f108 _
def lY:aw:=aj Tryz.f109 _
def ka:aw:=aj Tryz.f110 _
def fJ:aw:=aj Tryz.f113 _
def dj:aw:=aj Tryz.f84 _
def rz:aw:=aj Tryz.f85 _
def vF:aw:=aj Tryz.f116 _
def kj:aw:=aj Tryz.f117 _
def c_P_cone_under_cut:aw:=aj Tryz.f120 _
def c_P_cone_under_fold:aw:=aj Tryz.f121 _
def tf:aw:=aj Tryz.f122 _
def nh:aw:=aj Tryz.f124 _
def AT:aw:=aj Tryz.f123 _
def Cn:aw:=aj Tryz.f95 _
def fj:aw:=aj Tryz.f130 _
def j8:aw:=aj Tryz.f131 _
def yb:aw:=aj Tryz.f133 _
def yd:aw:=aj Tryz.f132 _
def yo:aw:=aj Tryz.f115 _
def dK:aw:=aj Tryz.f114 _
def A8:aw:=aj Tryz.f119 _
def yy:aw:=aj Tryz.f118 _
def l4:aw:=aj Tryz.f134 _
def yz:aw:=aj Tryz.f135 _
def A5:aw:=aj Tryz.f137 _
def A6:aw:=aj Tryz.f136 _
def ye:aw:=aj Tryz.f138 _
def dS:aw:=aj Tryz.f140 _
def dL:aw:=aj Tryz.f139 _
def c_P_rows_form_put:aw:=aj Tryz.f141 _
def yf:aw:=aj Tryz.f145 _
def vE:aw:=aj Tryz.f147 _
def rA:aw:=aj Tryz.f146 _
def AS:aw:=aj Tryz.f142 _
def sY:aw:=aj Tryz.f143 _
def bR:aw:=aj Tryz.f127 _
def vD:aw:=aj Tryz.f128 _
def qf:aw:=aj Tryz.f159 _
def Ct:aw:=aj Tryz.f161 _
def xZ:aw:=aj Tryz.f160 _
def c_sat_Signs:aw:=aj Tryz.f162 _
def A7:aw:=aj Tryz.f163 _
def ya:aw:=aj Tryz.f165 _
def Cl:aw:=aj Tryz.f164 _
def rx:aw:=aj Tryz.f166 _
def tg:aw:=aj Tryz.f167 _
def dJ:aw:=⟨3,3,[],
 .skip,
 (some (.insert 1 24 af))⟩
def sZ:aw:=aj Tryz.f169 _
def ry:aw:=aj Tryz.f170 _
def td:aw:=aj Tryz.f172 _
def fk:aw:=aj Tryz.f144 _
def yc:aw:=aj Tryz.f129 _
def lW:aw:=aj Tryz.f181 _
def tl:aw:=aj Tryz.f180 _
def Cq:aw:=aj Tryz.f178 _
def Cp:aw:=aj Tryz.f179 _
def vC:aw:=aj Tryz.f182 _
def Cu:aw:=aj Tryz.f185 _
def sU:aw:=aj Tryz.f171 _
def pb:aw:=aj Tryz.f187 _
def x9:aw:=aj Tryz.f158 _
def vL:aw:=aj Tryz.f193 _
def yp:aw:=aj Tryz.f194 _
def Cr:aw:=aj Tryz.f196 _
def A0:aw:=aj Tryz.f195 _
def FP:aw:=aj Tryz.f197 _
def tk:aw:=aj Tryz.f189 _
def vK:aw:=aj Tryz.f190 _
def nN:aw:=⟨3,3,[],
 .skip,
 (some .add64)⟩
def nJ:aw:=⟨3,3,[],
 .skip,
 (some .sub64)⟩
def tn:aw:=aj Tryz.f199 _
def Cw:aw:=aj Tryz.f200 _
def pa:aw:=aj Tryz.f186 _
def nK:aw:=aj Tryz.f202 _
def AZ:aw:=aj Tryz.f203 _
def ym:aw:=aj Tryz.f201 _
def ts:aw:=aj Tryz.f205 _
def A4:aw:=aj Tryz.f206 _
def gL:aw:=aj Tryz.f207 _
def FN:aw:=aj Tryz.f208 _
def kg:aw:=aj Tryz.f209 _
def ly:aw:=aj Tryz.f210 _
def lz:aw:=aj Tryz.f211 _
def A3:aw:=aj Tryz.f213 _
def AY:aw:=aj Tryz.f212 _
def rD:aw:=aj Tryz.f214 _
def eJ:aw:=aj Tryz.f215 _
def nM:aw:=aj Tryz.f216 _
def nL:aw:=⟨1,25,[(2,none)],
 .seq (.region [
 ⟨(some 2),.mv (.c (.int .i64 0)),none⟩]) <|
 .seq (.seq (.region [
 ⟨(some 3),.mv (.t 0),none⟩,
 ⟨(some 4),.bin .geq .int (.t 3) (.c (.int .u64 4294967296)),none⟩]) <|
 .cond (.t 4)
 (.seq (.region [
  ⟨(some 5),.mv (.t 0),none⟩,
  ⟨(some 6),.bin .shr .int (.t 5) (.c (.int .u64 32)),none⟩,
  ⟨(some 0),.mv (.t 6),none⟩]) <|
 .region [
  ⟨(some 2),.mv (.c (.int .i64 32)),none⟩])
 (.skip)) <|
 .seq (.seq (.region [
 ⟨(some 7),.mv (.t 0),none⟩,
 ⟨(some 8),.bin .geq .int (.t 7) (.c (.int .u64 65536)),none⟩]) <|
 .cond (.t 8)
 (.seq (.region [
  ⟨(some 9),.mv (.t 0),none⟩,
  ⟨(some 10),.bin .shr .int (.t 9) (.c (.int .u64 16)),none⟩,
  ⟨(some 0),.mv (.t 10),none⟩]) <|
 .region [
  ⟨(some 11),.mv (.t 2),none⟩,
  ⟨(some 12),.bin .add .int (.t 11) (.c (.int .i64 16)),none⟩,
  ⟨(some 2),.mv (.t 12),none⟩])
 (.skip)) <|
 .seq (.seq (.region [
 ⟨(some 13),.mv (.t 0),none⟩,
 ⟨(some 14),.bin .geq .int (.t 13) (.c (.int .u64 256)),none⟩]) <|
 .cond (.t 14)
 (.seq (.region [
  ⟨(some 15),.mv (.t 0),none⟩,
  ⟨(some 16),.bin .shr .int (.t 15) (.c (.int .u64 8)),none⟩,
  ⟨(some 0),.mv (.t 16),none⟩]) <|
 .region [
  ⟨(some 17),.mv (.t 2),none⟩,
  ⟨(some 18),.bin .add .int (.t 17) (.c (.int .i64 8)),none⟩,
  ⟨(some 2),.mv (.t 18),none⟩])
 (.skip)) <|
 .seq (.region [
 ⟨(some 19),.mv (.t 2),none⟩,
 ⟨(some 20),.mv (.t 0),none⟩,
 ⟨(some 21),.conv .u8 (.t 20),none⟩,
 ⟨(some 22),.indexStr (.c (.str ⟨#[0,1,2,2,3,3,3,3,4,4,4,4,4,4,4,4,5,5,5,5,5,5,5,5,5,5,5,5,5,5,5,5,6,6,6,6,6,6,6,6,6,6,6,6,6,6,6,6,6,6,6,6,6,6,6,6,6,6,6,6,6,6,6,6,7,7,7,7,7,7,7,7,7,7,7,7,7,7,7,7,7,7,7,7,7,7,7,7,7,7,7,7,7,7,7,7,7,7,7,7,7,7,7,7,7,7,7,7,7,7,7,7,7,7,7,7,7,7,7,7,7,7,7,7,7,7,7,7,8,8,8,8,8,8,8,8,8,8,8,8,8,8,8,8,8,8,8,8,8,8,8,8,8,8,8,8,8,8,8,8,8,8,8,8,8,8,8,8,8,8,8,8,8,8,8,8,8,8,8,8,8,8,8,8,8,8,8,8,8,8,8,8,8,8,8,8,8,8,8,8,8,8,8,8,8,8,8,8,8,8,8,8,8,8,8,8,8,8,8,8,8,8,8,8,8,8,8,8,8,8,8,8,8,8,8,8,8,8,8,8,8,8,8,8,8,8,8,8,8,8,8,8,8,8,8,8]⟩)) (.t 21),none⟩,
 ⟨(some 23),.conv .i64 (.t 22),none⟩,
 ⟨(some 24),.bin .add .int (.t 19) (.t 23),none⟩,
 ⟨(some 2),.mv (.t 24),none⟩]) <|
 .ret,
 none⟩
def yn:aw:=aj Tryz.f217 _
def dy:aw:=aj Tryz.f218 _
structure Code (tab:Nat->Option aw):Prop where
 q0:tab dr=some c_facetroomlaw22_PolyLattice
 q1:tab gB=some gO
 q2:tab fw=some jI
 q3:tab fW=some ke
 q4:tab qQ=some yl
 q5:tab qP=some yj
 q6:tab fP=some jV
 q7:tab wH=some Co
 q8:tab dF=some gN
 q9:tab dE=some gM
 q10:tab qO=some yi
 q11:tab fp=some jA
 q12:tab jl=some jy
 q13:tab Aa=some AW
 q14:tab eO=some iC
 q15:tab gA=some lx
 q16:tab pC=some vI
 q17:tab im=some lZ
 q18:tab oU=some Cv
 q19:tab fu=some jH
 q20:tab mO=some rC
 q21:tab cE=some dO
 q22:tab cD=some dM
 q23:tab qZ=some yv
 q24:tab fQ=some jW
 q25:tab pB=some vH
 q26:tab gZ=some vG
 q27:tab ft=some jC
 q28:tab pD=some vJ
 q29:tab cK=some dU
 q30:tab fq=some jB
 q31:tab iw=some iB
 q32:tab iT=some iX
 q33:tab xK=some yx
 q34:tab zZ=some FM
 q35:tab tH=some AR
 q36:tab fz=some jK
 q37:tab eQ=some tq
 q38:tab lc=some yr
 q39:tab oB=some c_dual_points
 q40:tab qX=some yu
 q41:tab bQ=some eI
 q42:tab bP=some eH
 q43:tab fy=some jJ
 q44:tab eP=some tp
 q45:tab mP=some A2
 q46:tab qY=some c_dual_cons
 q47:tab dZ=some ib
 q48:tab dY=some ia
 q49:tab qN=some yh
 q50:tab rc=some yw
 q51:tab jm=some jD
 q52:tab kY=some lq
 q53:tab Ac=some FO
 q54:tab pu=some vz
 q55:tab eA=some ij
 q56:tab bN=some cS
 q57:tab eh=some ii
 q58:tab qV=some yq
 q59:tab rf=some c_cone_Gens
 q60:tab bL=some cQ
 q61:tab kE=some pd
 q62:tab pH=some vM
 q63:tab ee=some ig
 q64:tab bM=some cR
 q65:tab d9=some ie
 q66:tab tK=some AU
 q67:tab fT=some jX
 q68:tab r8=some Cm
 q69:tab pw=some vA
 q70:tab gD=some rF
 q71:tab gC=some rE
 q72:tab aV=some bB
 q73:tab aU=some bA
 q74:tab jq=some jF
 q75:tab k9=some lv
 q76:tab h9=some ic
 q77:tab jS=some j9
 q78:tab pE=some AX
 q79:tab ny=some yg
 q80:tab cd=some dg
 q81:tab mQ=some c_cone_checked
 q82:tab re=some yA
 q83:tab tU=some A9
 q84:tab cT=some c_P_cone_under_add
 q85:tab mN=some rB
 q86:tab oj=some tj
 q87:tab dt=some du
 q88:tab js=some rH
 q89:tab b9=some db
 q90:tab ca=some de
 q91:tab bi=some bW
 q92:tab jf=some vB
 q93:tab fU=some jY
 q94:tab nW=some sX
 q95:tab nV=some sW
 q96:tab wD=some Ck
 q97:tab kQ=some sV
 q98:tab pt=some vw
 q99:tab iU=some iY
 q100:tab jp=some jE
 q101:tab jr=some jG
 q102:tab kZ=some lu
 q103:tab lU=some lX
 q104:tab jR=some jZ
 q105:tab lV=some lY
 q106:tab jT=some ka
 q107:tab cy=some fJ
 q108:tab cg=some dj
 q109:tab mL=some rz
 q110:tab l8=some vF
 q111:tab fY=some kj
 q112:tab iN=some c_P_cone_under_cut
 q113:tab io=some c_P_cone_under_fold
 q114:tab oh=some tf
 q115:tab iM=some nh
 q116:tab tJ=some AT
 q117:tab wF=some Cn
 q118:tab cY=some fj
 q119:tab fV=some j8
 q120:tab qI=some yb
 q121:tab qK=some yd
 q122:tab nz=some yo
 q123:tab cB=some dK
 q124:tab pK=some A8
 q125:tab lh=some yy
 q126:tab eZ=some l4
 q127:tab nA=some yz
 q128:tab pI=some A5
 q129:tab pJ=some A6
 q130:tab nw=some ye
 q131:tab cJ=some dS
 q132:tab cC=some dL
 q133:tab gf=some c_P_rows_form_put
 q134:tab qL=some yf
 q135:tab pA=some vE
 q136:tab mM=some rA
 q137:tab px=some AS
 q138:tab nX=some sY
 q139:tab aY=some bR
 q140:tab pz=some vD
 q141:tab lH=some qf
 q142:tab wL=some Ct
 q143:tab qF=some xZ
 q144:tab qM=some c_sat_Signs
 q145:tab tT=some A7
 q146:tab qH=some ya
 q147:tab wE=some Cl
 q148:tab mI=some rx
 q149:tab oi=some tg
 q150:tab cA=some dJ
 q151:tab nY=some sZ
 q152:tab mJ=some ry
 q153:tab nZ=some td
 q154:tab cu=some fk
 q155:tab qJ=some yc
 q156:tab il=some lW
 q157:tab oo=some tl
 q158:tab wJ=some Cq
 q159:tab wI=some Cp
 q160:tab py=some vC
 q161:tab wM=some Cu
 q162:tab nU=some sU
 q163:tab fc=some pb
 q164:tab qG=some x9
 q165:tab pG=some vL
 q166:tab qT=some yp
 q167:tab wK=some Cr
 q168:tab tO=some A0
 q169:tab Ad=some FP
 q170:tab ol=some tk
 q171:tab pF=some vK
 q172:tab jk=some nN
 q173:tab jg=some nJ
 q174:tab oA=some tn
 q175:tab wN=some Cw
 q176:tab kD=some pa
 q177:tab jh=some nK
 q178:tab tN=some AZ
 q179:tab qR=some ym
 q180:tab oC=some ts
 q181:tab tQ=some A4
 q182:tab dC=some gL
 q183:tab Ab=some FN
 q184:tab fX=some kg
 q185:tab gE=some ly
 q186:tab gF=some lz
 q187:tab tP=some A3
 q188:tab tM=some AY
 q189:tab gy=some rD
 q190:tab cN=some eJ
 q191:tab jj=some nM
 q192:tab ji=some nL
 q193:tab qS=some yn
 q194:tab aZ=some dy
end Go.Proofs.YtofhopjbbpihaaaGreat.Ev
namespace Go.Proofs.YtofhopjbbpihaaaGreat.Nn
set_option linter.all false
abbrev B:Nat:=18446744073709551616
def val:List Nat->Nat
 | []=>0
 | a :: l=>a+B*val l
def Lim (l:List Nat):Prop:=∀ a∈l,a<B
def Ly (l:List Nat):Prop:=l.getLast? ≠ some 0
theorem Lim.nil:Lim []:=fun a h=>by cases h
theorem Lim.cons {a:Nat} {l:List Nat} (h:a<B) (hl:Lim l):Lim (a :: l):=fun b hb=>by
 rcases Ul.1 hb with rfl | hb
 ·exact h
 ·exact hl b hb
theorem Lim.head {a:Nat} {l:List Nat} (h:Lim (a :: l)):a<B:=h a (TW ..)
theorem Lim.tail {a:Nat} {l:List Nat} (h:Lim (a :: l)):Lim l:=fun b hb=>h b (TQ _ hb)
theorem Lim.append {l m:List Nat} (h:Lim l) (h':Lim m):Lim (l++m):=fun b hb=>by
 rcases Uc.1 hb with hb | hb
 ·exact h b hb
 ·exact h' b hb
theorem Lim.take {l:List Nat} (h:Lim l) (n:Nat):Lim (l.take n):=fun b hb=>h b (VT hb)
theorem Lim.drop {l:List Nat} (h:Lim l) (n:Nat):Lim (l.drop n):=fun b hb=>h b (Ww hb)
theorem Lim.replicate (n:Nat):Lim (List.replicate n 0):=fun b hb=>by
 rw [W6 hb]; decide
def Zn:=@Lim.replicate
theorem Lim.at {l:List Nat} (h:Lim l) (i:Nat):l.getD i 0<B:=by
 rw [TI]
 cases hi:l[i]? with
 | none=>show 0<B; decide
 | some a=>exact h a (Ua hi)
theorem pm:∀ (l m:List Nat),val (l++m)=val l+B^l.length*val m
 | [],m=>by simp [val]
 | a :: l,m=>by
  simp only [VQ,val,pm l m,UH,Uy]
  rw [UQ,<- UD,Uf (B^l.length) B]
  omega
theorem wh:∀ {l:List Nat},Lim l->val l<B^l.length
 | [],_=>by simp [val]
 | a :: l,h=>by
  have ih:=wh h.tail
  have ha:=h.head
  simp only [val,UH,Uy]
  have:B*(val l+1)<=B*B^l.length:=V2 B ih
  rw [Uf (B^l.length) B]
  rw [UQ] at this
  omega
theorem fK (n:Nat):val (List.replicate n 0)=0:=by
 induction n with
 | zero=>rfl
 | succ n ih=>simp [Vf,val,ih]
theorem kv (l:List Nat) (a:Nat):val (l++[a])=val l+B^l.length*a:=by
 rw [pm]; simp [val]
theorem Ik:∀ {l m:List Nat},Lim l->Lim m->l.length=m.length->val l=val m->l=m
 | [],[],_,_,_,_=>rfl
 | [],_ :: _,_,_,h,_=>by simp at h
 | _ :: _,[],_,_,h,_=>by simp at h
 | a :: l,b :: m,h1,h2,h,e=>by
  have ha:=h1.head
  have hb:=h2.head
  simp only [val] at e
  have e1:a=b:=by
   have:(a+B*val l) % B=(b+B*val m) % B:=by rw [e]
   rw [Wo,Wo,UE ha,UE hb] at this
   exact this
  subst e1
  have e2:val l=val m:=X4 (by decide) (Nat.add_left_cancel e)
  rw [Ik h1.tail h2.tail (by simpa using h) e2]
theorem yK {l:List Nat} (hn:Ly l) (hne:l≠[]):B^(l.length-1)<=val l:=by
 rcases VM l with rfl | ⟨l',a,rfl⟩
 ·exact absurd rfl hne
 ·rw [VN] at *
  rw [kv]
  have ha:a≠0:=fun e=>hn (by rw [e]; simp)
  have:B^l'.length*1<=B^l'.length*a:=V2 _ (by omega)
  simp only [T9,List.length_singleton,VP]
  omega
theorem Pf {l m:List Nat} (h1:Lim l) (h2:Lim m) (n1:Ly l) (n2:Ly m) (e:val l=val m):l=m:=by
 have key:∀ {l m:List Nat},Lim l->Ly m->val l=val m->m.length<=l.length:=by
  intro l m h1 n2 e
  by_cases hm:m=[]
  ·subst hm; simp
  ·have g1:=wh h1
   have g2:=yK n2 hm
   apply Wa
   intro hlt
   have:B^l.length<=B^(m.length-1):=Up (by decide) (by omega)
   omega
 exact Ik h1 h2 (V7 (key h2 n1 e.symm) (key h1 n2 e)) e
def ai (n:Nat):List Nat:=if h:n=0 then [] else n % B :: ai (n / B)
 termination_by n
 decreasing_by exact XF (by omega) (by decide)
theorem cO:ai 0=[]:=by unfold ai; rfl
theorem kI {n:Nat} (h:n≠0):ai n=n % B :: ai (n / B):=by rw [ai,dif_neg h]
theorem bF (n:Nat):val (ai n)=n:=by
 induction n using Nat.strongRecOn with
 | _ n ih =>
  by_cases h:n=0
  ·subst h; rw [cO]; rfl
  ·rw [kI h]
   simp only [val]
   rw [ih _ (XF (by omega) (by decide))]
   have:=XG n B
   omega
theorem bC (n:Nat):Lim (ai n):=by
 induction n using Nat.strongRecOn with
 | _ n ih =>
  by_cases h:n=0
  ·subst h; rw [cO]; exact Lim.nil
  ·rw [kI h]
   exact Lim.cons (UL _ (by decide)) (ih _ (XF (by omega) (by decide)))
theorem dz (n:Nat):Ly (ai n):=by
 induction n using Nat.strongRecOn with
 | _ n ih =>
  by_cases h:n=0
  ·subst h; rw [cO]; simp [Ly]
  ·rw [kI h]
   have ih:=ih _ (XF (by omega) (by decide:1<B))
   unfold Ly at ih ⊢
   by_cases h2:n / B=0
   ·rw [h2,cO]
    have:n % B=n:=UE (by
     rcases XJ n B with h | h
     ·exact h
     ·have:=Nat.div_pos h (by decide:0<B); omega)
    rw [this]
    simp [h]
   ·rw [kI h2] at ih ⊢
    rw [List.getLast?_cons_cons]; exact ih
theorem wT {l:List Nat} (h:Lim l) (n:Ly l):ai (val l)=l:=Pf (bC _) h (dz _) n (bF _)
theorem bk {n k:Nat} (h:n<B^k):(ai n).length<=k:=by
 by_cases h0:ai n=[]
 ·rw [h0]; simp
 ·have g:=yK (dz n) h0
  rw [bF] at g
  apply Wa
  intro hlt
  have:B^k<=B^((ai n).length-1):=Up (by decide) (by omega)
  omega
theorem iy (n:Nat):n<B^(ai n).length:=by
 have:=wh (bC n)
 rw [bF] at this; exact this
theorem limbs_nil {n:Nat}:ai n=[] ↔ n=0:=by
 constructor
 ·intro h
  have:=bF n
  rw [h] at this
  simpa [val] using this.symm
 ·rintro rfl; exact cO
def eR (l:List Nat):List Nat:=(l.reverse.dropWhile (· == 0)).reverse
theorem eC (l:List Nat):eR (l++[0])=eR l:=by simp [eR]
theorem jc {l:List Nat} {a:Nat} (h:a≠0):eR (l++[a])=l++[a]:=by simp [eR,h]
theorem wm:eR []=[]:=rfl
theorem ze:∀ (n:Nat) (l:List Nat),l.length=n->Lim l->eR l=ai (val l)
 | 0,l,hl,_=>by
  have:l=[]:=Us hl
  subst this
  rw [wm]; show []=ai 0; rw [cO]
 | n+1,l,hl,h=>by
  rcases VM l with rfl | ⟨l',a,rfl⟩
  ·simp at hl
  ·rw [VN] at *
   have hl':l'.length=n:=by simpa using hl
   have hlim:Lim l':=fun x hx=>h x (U0 _ hx)
   by_cases ha:a=0
   ·subst ha
    rw [eC,ze n l' hl' hlim,kv]; simp
   ·rw [jc ha,wT h]
    unfold Ly
    simp [ha]
theorem eN {l:List Nat} (h:Lim l):eR l=ai (val l):=ze _ l rfl h
end Go.Proofs.YtofhopjbbpihaaaGreat.Nn
namespace Go.Proofs.YtofhopjbbpihaaaGreat.Ev
open Go Nn
set_option linter.all false
abbrev Lb (H:Heap) (v:AV) (l:List Nat):Prop:=yT cm ae H v l
abbrev cr (H:Heap) (v:AV) (n:Nat):Prop:=Lb H v (ai n)
def Sm (n:Nat):Prop:=(ai n).length<1099511627776
section
variable {tab:Nat->Option aw} {H:Heap} {s:AV} {l:List Nat}
theorem fD (hs:Lb H s l) {i:Nat} (hi:i<l.length):bg H none (az s i)=some (.int .u64 (l.getD i 0:Nat)):=by
 obtain ⟨c,hc,h⟩:=Zt hs (i:=i) (a:=l.getD i 0) (by simp [hi,TI])
 rw [h,hc]
theorem oS (C:Code tab) (hw:Wf H) (hs:Lb H s l) (hbig:l.length<4611686018427387904) :
  Ans tab (.fn nz [s]) H fun v H'=>v=.int .i64 (if l.getLast? = some 0 then 8 else 0)/\Kp H H':=by
 refine cU C.q122 zU fun T hl g0=>?_
 rcases VM l with rfl | ⟨l',a,rfl⟩
 ·have hle:lenV s=some (.int .i64 0):=hs.lenV
  refine zW (aD hl g0 hle) ?_
  exact ⟨rfl,zK⟩
 ·rw [VN] at *
  have hle:lenV s=some (.int .i64 ((l'.length:Int)+1)):=by have:=hs.lenV; simpa using this
  have hwr:IntKind.i64.wrap ((l'.length:Int)+1-1)=(l'.length:Int):=by rw [wrap_i64] <;> simp at hbig <;> omega
  have hpos:(0:Int)<(l'.length:Int)+1:=by omega
  have hi:=Zv hs .i64 l'.length (by simp)
  have hld:bg H none (az s l'.length)=some (.int .u64 (a:Nat)):=by rw [fD hs (by simp)]; simp
  refine zW (gh hl g0 hle hwr hpos hi hld) ?_
  refine iteH.split (fun h=>?_) fun h=>?_
  ·refine zW (aC hl g0) ?_
   exact ⟨by rw [if_pos]; simp; omega,zK⟩
  ·refine zW (aC hl g0) ?_
   exact ⟨by rw [if_neg]; simp; omega,zK⟩
theorem qE (C:Code tab) (hw:Wf H) {ls:List (List Nat)} {ty:Nat} (hs:yT (sO (bU cm) ae) ty H s ls) (hbig:ls.length<4611686018427387904) (hc:∀ c∈ls,c.length<4611686018427387904/\c.getLast? ≠ some 0) :
  Ans tab (.fn ol [s]) H fun v H'=>v=.int .i64 0/\Kp H H':=by
 refine cU C.q170 zU fun T hl g0=>?_
 refine zW (aD hl g0 hs.lenV) ?_
 refine am H [] (fun _ _ _=>True) (a:=0) (N:=ls.length) rfl (by refine zW (aC hl g0) ?_; rfl) (zV (aC hl g0)) (TY _) zO (by simp only [TH,hl]; rfl) rfl (fun _ _ _ _ h=>h) zK trivial ?_ ?_
 ·intro j T1 H1 _ hj hl1 hi1 hs1 hk1 _
  have w1:=hk1.wf
  have le_hk1:=hk1.le
  have t6:aa T1 6=s:=(hs1.at_ 6 zU).trans (zV (aC hl g0))
  obtain ⟨c,hcr,hld⟩:=Zt (hs.mono hk1.sub) (TL hj)
  have hix:=Zv hs .i64 j hj
  have hcc:=hc _ (TM hj)
  simp only [TH,hl] at hl1
  refine zW (bS hl1 t6 hi1 hix hld) ?_
  refine Y4 (oS C zF hcr hcc.1) fun H2 h2=>?_
  rw [if_neg hcc.2]
  refine zW hl1 ?_
  have k2:Kp H H2:=Zi zK h2
  have le_k2:=k2.le
  exact zK
 ·intro T1 H1 hl1 hs1 hk1 _
  simp only [TH,hl] at hl1
  refine zW hl1 ?_
  exact zK
theorem p8 (C:Code tab) (hw:Wf H) (hs:Lb H s l):Ans tab (.fn cy [s]) H fun v H'=>Lb H' v l/\Kp H H':=by
 refine cU C.q107 zU fun T hl g0=>?_
 obtain ⟨v',e,hr⟩:=hs.clip .i64 .i64
 have e':bI 1 s none (some (.int .i64 (l.length:Int))) (some (.int .i64 (l.length:Int)))=some v':=e
 refine zW (aX hl g0 hs.lenV e') ?_
 exact ⟨hr.mono (ZB H _),zK⟩
theorem uL (C:Code tab) (hw:Wf H) (hs:Lb H s l) (hbig:l.length<4611686018427387904) :
  Ans tab (.fn pE [s]) H fun v H'=>Lb H' v (eR l)/\Kp H H':=by
 refine cU C.q78 zU fun T hl g0=>?_
 refine zW (aC hl g0) ?_
 refine cp H [0] (fun k vs H'=>∃ v,vs=[v]/\Lb H' v (l.take k)/\eR (l.take k)=eR l/\k<=l.length) l.length (by simp only [TH]; exact hl) rfl zK ⟨s,by exact zV (aC hl g0),by rw [Ur]; exact hs,by rw [Ur],TO _⟩ ?_
 rintro k T1 H1 hl1 hs1 hk1 ⟨v,hv,hr,ht,hk⟩
 have w1:=hk1.wf
 have le_hk1:=hk1.le
 simp only [TP,TV,TR,and_true] at hv
 rcases VM (l.take k) with h0 | ⟨l',a,h0⟩
 ·rw [h0] at hr ht
  have hle:lenV v=some (.int .i64 0):=hr.lenV
  refine zW (aD hl1 hv hle) ?_
  refine Y5 (p8 C zF (hr.mono (ZB H1 _))) ?_
  rintro v2 H2 ⟨h1,h2⟩
  have k2:Kp H H2:=Zi zK h2
  have le_k2:=k2.le
  rw [<- ht]
  refine zW hl1 ?_
  exact ⟨h1,zK⟩
 ·rw [VN] at h0
  have hk1':k=l'.length+1:=by have:=congrArg List.length h0; simp at this; omega
  have hl':l.take l'.length=l':=by
   have:=congrArg (List.take l'.length) h0
   rw [VY,UZ zO] at this
   simpa using this
  rw [h0] at hr ht
  have hle:lenV v=some (.int .i64 ((l'.length:Int)+1)):=by have:=hr.lenV; simpa using this
  have hpos:(0:Int)<(l'.length:Int)+1:=by omega
  have hix:=Zv hr .i64 l'.length (by simp)
  have hld:bg H1 none (az v l'.length)=some (.int .u64 (a:Nat)):=by rw [fD hr (by simp)]; simp
  have hwr:IntKind.i64.wrap ((l'.length:Int)+1-1)=(l'.length:Int):=by rw [wrap_i64] <;> omega
  refine zW (gh hl1 hv hle hpos hix hld hwr) ?_
  refine iteH.split (fun ha=>?_) fun ha=>?_
  ·obtain ⟨v',e,hr'⟩:=hr.hi .i64 l'.length (by simp)
   have e':bI 1 v none (some (.int .i64 (l'.length:Int))) none=some v':=e
   have ha0:a=0:=by omega
   subst ha0
   refine zW (bS hl1 hv hle hwr e') ?_
   refine ⟨zK,l'.length,by omega,v',rfl,?_,?_,by omega⟩
   ·rw [hl']
    have h3:Lb H1 v' l':=by simpa using hr'
    exact h3.mono (ZB H1 _)
   ·rw [hl',<- ht,eC]
  ·have ha':a≠0:=by omega
   refine zW (aC hl1 hv) ?_
   refine Y5 (p8 C zF (hr.mono (ZB H1 _))) ?_
   rintro v2 H2 ⟨h1,h2⟩
   have k2:Kp H H2:=Zi zK h2
   have le_k2:=k2.le
   rw [jc ha'] at ht
   rw [<- ht]
   refine zW hl1 ?_
   exact ⟨h1,zK⟩
theorem GX (C:Code tab) (hw:Wf H) {n:Nat} (hn:n<B):Ans tab (.fn Ac [.int .u64 (n:Int)]) H fun v H'=>cr H' v n/\Sm n/\Kp H H':=by
 refine cU C.q53 zU fun T hl g0=>?_
 refine zW (aC hl g0) ?_
 have k1:Kp H ((H.up 5).put (H.next+2) (.cells [.int .u64 (n:Int)] ae true)):=zK
 have le_k1:=k1.le
 have hs:Lb ((H.up 5).put (H.next+2) (.cells [.int .u64 (n:Int)] ae true)) (.own (H.next+2) 0 1 1 1 true) [n] :=
  (show Own (bU cm) ae H _ _ true _ [n] from ⟨_,rfl,aq _ _ _,Za ⟨_,rfl,rfl⟩,by omega⟩).sl
 refine Y5 (uL C k1.wf hs (by simp)) ?_
 rintro v H2 ⟨h1,h2⟩
 have e:eR [n]=ai n:=by rw [eN (Lim.cons hn Lim.nil)]; simp [val]
 rw [e] at h1
 refine zW (aC hl g0) ?_
 refine ⟨h1,?_,k1.trans h2⟩
 have:=bk (n:=n) (k:=1) (by simpa using hn)
 unfold Sm; omega
theorem fl (C:Code tab) (hw:Wf H) (hs:Lb H s l) (b:Bool) :
  Ans tab (.fn pu [.bool b,s]) H fun v H'=>v=.agg [.bool (b && decide (0<l.length)),s]/\Kp H H':=by
 refine bz C.q54 zU fun T hl g0 g1=>?_
 have o1:=hs.one
 cases b
 ·refine zW (aX hl g0 g1 hs.lenV) ?_
  exact zK
 ·refine zW (aX hl g0 g1 hs.lenV) ?_
  exact zK
end
def dx (f:Nat->Nat->Nat->Nat × Nat) (a b:List Nat):Nat->List Nat × Nat
 | 0=>([],0)
 | k+1=>((dx f a b k).1++[(f (a.getD k 0) (b.getD k 0) (dx f a b k).2).1],(f (a.getD k 0) (b.getD k 0) (dx f a b k).2).2)
theorem hZ (f:Nat->Nat->Nat->Nat × Nat) (a b:List Nat):∀ k,(dx f a b k).1.length=k
 | 0=>rfl
 | k+1=>by simp [dx,hZ f a b k]
section
variable {tab:Nat->Option aw} {H:Heap}
theorem Ki (C:Code tab) (hw:Wf H) {sa sb:AV} (ha:One sa) (hb:One sb) :
  Ans tab (.fn qR [sa,sb]) H fun v H'=>v=.fn (.func gy) [] [.ptr H.next 0,.ptr (H.next+1) 0]/\H'.get H.next=some (.cells [sa] aG true)/\H'.get (H.next+1)=some (.cells [sb] aG true)/\H.next+2<=H'.next/\Kp H H':=by
 refine bz C.q179 zU fun T hl g0 g1=>?_
 refine zW (aD hl g0 g1) ?_
 exact ⟨by omega,zK⟩
theorem Bs (C:Code tab) {H0:Heap} {lb ba bb:Nat} {a b:List Nat} {sa sb:AV} (J:Nat->Heap->Prop) (hla:a.length<4611686018427387904) (hlb:b.length<4611686018427387904) {M:Nat} (hM:M=max a.length b.length)
  (hk:Kp H0 H) (h0:J 0 H) (hup:∀ k H m,J k H->J k (H.up m)) (hA:∀ k H,J k H->H.get ba=some (.cells [sa] aG true)/\Lb H sa a/\H.get bb=some (.cells [sb] aG true)/\Lb H sb b)
  (hr:∀ k H,k<M->Kp H0 H->J k H->Ans tab (.round lb [.int .u64 (a.getD k 0:Nat),.int .u64 (b.getD k 0:Nat)]) H fun v H'=>v=.bool true/\Kp H0 H'/\J (k+1) H') :
  Ans tab (.ent gy [.loopv lb,.ptr ba 0,.ptr bb 0]) H fun _ H'=>Kp H0 H'/\J M H':=by
 refine S2 C.q189 zU fun T hl g0 g1 g2=>?_
 obtain ⟨q1,q2,q3,q4⟩:=hA _ _ h0
 have hmax:Kk (.int .i64 (a.length:Int)) (.int .i64 (b.length:Int))=some (.int .i64 (M:Int)):=by rw [Dj]; congr 2; split <;> omega
 refine zW (ko hl g0 g1 g2 q1 q3 q2.lenV q4.lenV hmax) ?_
 refine am H0 [] (fun j _ H'=>J j H') (a:=0) (N:=M) rfl (by refine zW (aX hl g0 g1 g2) ?_; rfl) (zV (aX hl g0 g1 g2)) (TY _) zO (by simp only [TH,hl]; rfl) rfl (fun j _ H' m h=>hup _ _ _ h) zK (hup _ _ _ h0) ?_ ?_
 ·intro j T1 H1 _ hj hl1 hi1 hs1 hk1 hJ
  simp only [TH,hl] at hl1
  have t0:aa T1 0=.loopv lb:=(hs1.at_ 0 zU).trans (zV (aC hl g0))
  have t1:aa T1 1=.ptr ba 0:=(hs1.at_ 1 zU).trans (zV (bS hl g0 g1 g2 g1))
  have t2:aa T1 2=.ptr bb 0:=(hs1.at_ 2 zU).trans (zV (bS hl g0 g1 g2 g2))
  obtain ⟨q1,q2,q3,q4⟩:=hA _ _ hJ
  have gz:∀ (l:List Nat),¬ j<l.length->l.getD j 0=0:=fun l h=>by rw [TI,Uw zO]; rfl
  have hround:∀ m,Ans tab (.round lb [.int .u64 (a.getD j 0:Nat),.int .u64 (b.getD j 0:Nat)]) (H1.up m) fun v H'=>v=.bool true/\Kp H0 H'/\J (j+1) H':=fun m=>hr j _ hj (hk1.up m) (hup _ _ _ hJ)
  refine zW (ko hl1 t0 t1 t2 hi1 q1 q3 q2.lenV q4.lenV) ?_
  refine iteH.split (fun h1=>?_) fun h1=>?_
  ·have x1:=Zv q2 .i64 j h1
   have d1:=fD q2 h1
   refine zW (oF hl1 t0 t1 t2 hi1 q1 q3 q2.lenV q4.lenV x1 d1) ?_
   refine iteH.split (fun h2=>?_) fun h2=>?_
   ·have x2:=Zv q4 .i64 j h2
    have d2:=fD q4 h2
    refine zW (oF hl1 t0 t1 t2 hi1 q1 q3 q2.lenV q4.lenV x2 d2) ?_
    refine Y4 (hround _) fun H2 ⟨k2,j2⟩=>?_
    refine zW hl1 ?_
    exact ⟨zK,j2⟩
   ·rw [gz b h2] at hround
    refine zW (gh hl1 t0 t1 t2 hi1 q1 q3) ?_
    refine Y4 (hround _) fun H2 ⟨k2,j2⟩=>?_
    refine zW hl1 ?_
    exact ⟨zK,j2⟩
  ·rw [gz a h1] at hround
   refine zW (ko hl1 t0 t1 t2 hi1 q1 q3 q2.lenV q4.lenV) ?_
   refine iteH.split (fun h2=>?_) fun h2=>?_
   ·have x2:=Zv q4 .i64 j h2
    have d2:=fD q4 h2
    refine zW (oF hl1 t0 t1 t2 hi1 q1 q3 q2.lenV q4.lenV x2 d2) ?_
    refine Y4 (hround _) fun H2 ⟨k2,j2⟩=>?_
    refine zW hl1 ?_
    exact ⟨zK,j2⟩
   ·rw [gz b h2] at hround
    refine zW (gh hl1 t0 t1 t2 hi1 q1 q3) ?_
    refine Y4 (hround _) fun H2 ⟨k2,j2⟩=>?_
    refine zW hl1 ?_
    exact ⟨zK,j2⟩
 ·intro T1 H1 hl1 hs1 hk1 hJ
  refine zW hl1 ?_
  exact ⟨hk1,hJ⟩
theorem tF {f:Src} {ps:List Nat} {asg body:ACode} {T:Tm} {Q:Ex->Tm->Heap->Prop} {fi:Nat} {args:List AV} (hf:iI (f.ev T) [.loopv H.next]=some (.fn fi args))
  (h:Ans tab (.ent fi args) ((H.up 1).put H.next (.loop T ps asg body .ready none)) fun _ H2 =>
   (H2.get H.next=some (.loop T ps asg body .ready none)/\Q .nrm T (H2.kill H.next))\/(H2.get H.next=some (.loop T ps asg body .done (some .ret))/\Q .ret T (H2.kill H.next)) \/
   (∃ id,H2.get H.next=some (.loop T ps asg body .done (some (.exit id)))/\Q (.exit id) T (H2.kill H.next))):rangeH tab f ps asg body () () T H Q ():=rangeH.use hf h
theorem zY (C:Code tab) (hw:Wf H) {sa sb:AV} {a b:List Nat} (ha:Lb H sa a) (hb:Lb H sb b) (hla:a.length<4398046511104) (hlb:b.length<4398046511104) (la:Lim a) (lmb:Lim b) {fi:Nat} {f:Nat->Nat->Nat->Nat × Nat}
  (hg:∀ H x y c,x<B->y<B->c<=1->Ans tab (.fn fi [.int .u64 (x:Nat),.int .u64 (y:Nat),.int .u64 (c:Nat)]) H fun v H'=>v=.tup [.int .u64 ((f x y c).1:Nat),.int .u64 ((f x y c).2:Nat)]/\H'=H) (hc1:∀ x y c,x<B->y<B->c<=1->(f x y c).2<=1) :
  Ans tab (.fn pF [sa,sb,.fn (.func fi) [] []]) H fun v H'=>∃ o,v=.tup [o,.int .u64 ((dx f a b (max a.length b.length)).2:Nat)]/\Bl (bU cm) ae H H' o (dx f a b (max a.length b.length)).1/\Kp H H':=by
 refine nd C.q171 zU fun T hl g0 g1 g2=>?_
 refine zW (aX hl g0 g1 g2) ?_
 have k1:Kp H ((((H.up 6).put H.next (.cells [.fn (.func fi) [] []] aF true)).put (H.next+1) (.cells [.nilSl] aG true)).put (H.next+1+1) (.cells [.int .u64 0] ae true)):=zK
 have le_k1:=k1.le
 refine Y5 (Ki C k1.wf ha.one hb.one) ?_
 rintro v H2 ⟨rfl,b1,b2,hn2,hk2⟩
 have k2:=k1.trans hk2
 have p5:H2.get H.next=some (.cells [.fn (.func fi) [] []] aF true):=hk2.get (cP)
 have p6:H2.get (H.next+1)=some (.cells [.nilSl] aG true):=hk2.get (cP)
 have p7:H2.get (H.next+1+1)=some (.cells [.int .u64 0] ae true):=hk2.get (cP)
 have hn1:((((H.up 6).put H.next (.cells [.fn (.func fi) [] []] aF true)).put (H.next+1) (.cells [.nilSl] aG true)).put (H.next+1+1) (.cells [.int .u64 0] ae true)).next=H.next+6:=rfl
 rw [hn1] at b1 b2 hn2 ⊢
 refine zW (aX hl g0 g1 g2) ?_
 refine tF (fi:=gy) (args:=[.loopv H2.next,.ptr (H.next+6) 0,.ptr (H.next+6+1) 0]) (by refine zW (aX hl g0 g1 g2) ?_; rfl) ?_
 generalize he:Ent.loop _ _ _ _ _ _=e0
 have k3:Kp H ((H2.up 1).put H2.next e0):=zK
 have le_k3:=k3.le
 refine (Bs C (H0:=H) (a:=a) (b:=b) (sa:=sa) (sb:=sb) (M:=max a.length b.length) (fun k H'=>H'.get H2.next=some e0/\H'.get H.next=some (.cells [.fn (.func fi) [] []] aF true) /\
   (∃ o,H'.get (H.next+1)=some (.cells [o] aG true)/\Bl (bU cm) ae H H' o (dx f a b k).1/\∀ n,o ≠ .own (H.next+1+1) 0 n n 1 false)/\H'.get (H.next+1+1)=some (.cells [.int .u64 ((dx f a b k).2:Nat)] ae true)/\(dx f a b k).2<=1 /\
   H'.get (H.next+6)=some (.cells [sa] aG true)/\H'.get (H.next+6+1)=some (.cells [sb] aG true)/\Lb H' sa a/\Lb H' sb b) zO zO rfl k3
  ⟨by exact cP,by exact zV p5,⟨.nilSl,by exact zV p6,Bl.nil,fun n h=>by cases h⟩,by refine zW p7 ?_; rfl,TY _,by exact zV b1,by exact zV b2,ha.mono k3.sub,hb.mono k3.sub⟩ (fun _ _ _ h=>h) (fun k H' h=>⟨h.2.2.2.2.2.1,h.2.2.2.2.2.2.2.1,h.2.2.2.2.2.2.1,h.2.2.2.2.2.2.2.2⟩) ?_).mono ?_
 ·rintro k H1 hk hk1 ⟨j0,j5,⟨o,j6,jo,jn⟩,j7,j7',ja,jb,-,-⟩
  rw [<- he] at j0
  refine uk j0 rfl ?_
  refine zW (lA hl g0 g1 g2 j0 j5 j6 j7) ?_
  refine Y4 (hg _ _ _ _ (la.at k) (lmb.at k) j7') fun H3 e3=>?_
  subst e3
  have hlt:=hk1.wf _ _ j0
  have hle:=hk1.le
  have hz:=hc1 _ _ _ (la.at k) (lmb.at k) j7'
  refine zW (lA hl g0 g1 g2 j0 j5 j6 j7) ?_
  generalize he2:Ent.loop _ _ _ _ LoopState.busy none=e2
  generalize hzz:f (a.getD k 0) (b.getD k 0) (dx f a b k).2=z
  have k4:Kp H (((H1.up 13).put H2.next e2).put (H.next+2) (.cells [.int .u64 (z.2:Nat)] ae true)):=zK
  have le_k4:=k4.le
  have q1:Bl (bU cm) ae H (((H1.up 13).put H2.next e2).put (H.next+2) (.cells [.int .u64 (z.2:Nat)] ae true)) o (dx f a b k).1 :=
   (Bl.put (show Bl _ _ _ (H1.up 13) _ _ from jo) (jo.ne j0 fun cs h=>by cases h) (SubT.nil _ _)).put jn (SubT.nil _ _)
  have hlen:=hZ f a b k
  obtain ⟨n,H4,e1,q2,k5,hn4,hp⟩:=q1.push (ty2:=ae) (bytes:=8) (id:=H1.next+16) (id2:=H1.next+15) (k:=5) (cs:=[.int .u64 (z.1:Nat)]) (a:=z.1) (fun h=>by cases h) k4 ⟨_,rfl,rfl⟩
   (by show H1.next+13<=_; omega) (by show _<H1.next+13+5; omega) (by show H1.next+13<=_; omega) (by show _<H1.next+13+5; omega) zO zO zO
  have e1':cM ((((H1.up 18).put H2.next e2).put (H.next+2) (.cells [.int .u64 (z.2:Nat)] ae true)).put (H1.next+15) (.cells [.int .u64 (z.1:Nat)] ae true)) (H1.next+16) 1 8 ae o (.own (H1.next+15) 0 1 1 1 true)=some (.own (H1.next+16) 0 n n 1 false,H4):=e1
  have r6:H4.get (H.next+1)=some (.cells [o] aG true):=hp (H.next+1) (.cells [o] aG true) (zV j6) (q1.ne (e:=.cells [o] aG true) (zV j6) fun cs h=>by injection h with _ h2; exact absurd h2 zU)
  refine zW (dV hl g0 g1 g2 e1' r6) ?_
  have ty1:∀ {o':AV} {cs:List AV},Ent.cells [o'] aG true ≠ .cells cs ae true:=fun h=>by injection h with _ h2; exact absurd h2 zU
  have r0:H4.get H2.next=some e2:=hp H2.next e2 (cP) (q1.ne (e:=e2) (cP) fun cs h=>by rw [<- he2] at h; cases h)
  have r5:H4.get H.next=some (.cells [.fn (.func fi) [] []] aF true):=hp H.next _ (zV j5) (q1.ne (e:=.cells [.fn (.func fi) [] []] aF true) (zV j5) fun cs h=>by injection h with _ h2; exact absurd h2 zU)
  have r7:H4.get (H.next+2)=some (.cells [.int .u64 (z.2:Nat)] ae true):=hp (H.next+2) _ (cP) jn
  have ra:H4.get (H.next+6)=some (.cells [sa] aG true):=hp (H.next+6) (.cells [sa] aG true) (zV ja) (q1.ne (e:=.cells [sa] aG true) (zV ja) fun cs=>ty1)
  have rb:H4.get (H.next+7)=some (.cells [sb] aG true):=hp (H.next+7) (.cells [sb] aG true) (zV jb) (q1.ne (e:=.cells [sb] aG true) (zV jb) fun cs=>ty1)
  have hn4':H4.next=H1.next+18:=hn4
  have k6:Kp H ((H4.put (H.next+1) (.cells [.own (H1.next+16) 0 n n 1 false] aG true)).put H2.next e0):=zK
  have le_k6:=k6.le
  rw [TD]
  refine zW (gh he2 he r0 r5 r7 ra rb) ?_
  refine ⟨k6,⟨_,rfl,?_,fun n' h=>by injection h; omega⟩,?_,?_,ha.mono k6.sub,hb.mono k6.sub⟩
  ·have:(dx f a b (k+1)).1=(dx f a b k).1++[z.1]:=by rw [<- hzz]; rfl
   rw [this]
   exact (q2.put (fun n' h=>by injection h; omega) (SubT.nil _ _)).put (fun n' h=>by injection h; omega) (SubT.nil _ _)
  ·rw [<- hzz]; rfl
  ·have:(dx f a b (k+1)).2=z.2:=by rw [<- hzz]; rfl
   rw [this,<- hzz]; exact hz
 ·rintro _ H' ⟨hk',j0,j5,⟨o,j6,jo,jn⟩,j7,j7',-⟩
  have hlt:=hk'.wf _ _ j0
  refine .inl ⟨j0,?_⟩
  refine zW (dV hl g0 g1 g2 j6 j7) ?_
  exact ⟨o,rfl,jo.kill (jo.ne j0 fun cs h=>by rw [<- he] at h; cases h) (SubT.nil _ _),zK⟩
end
theorem cW (l:List Nat) (k:Nat):val (l.take (k+1))=val (l.take k)+B^k*l.getD k 0:=by
 by_cases h:k<l.length
 ·rw [TX h,kv,Un,UZ (VG h)]
  simp [TI,h]
 ·rw [Ug zO,Ug zO,TI,Uw zO]
  simp
def fe (x y c:Nat):Nat × Nat:=((x+y+c) % B,(x+y+c) / B)
def jw (x y c:Nat):Nat × Nat:=((x+B-y-c) % B,if x<y+c then 1 else 0)
theorem yO (x y c:Nat) (hx:x<B) (hy:y<B) (hc:c<=1):(fe x y c).2<=1:=by
 simp only [fe,B] at *; omega
theorem uW (x y c:Nat):(jw x y c).2<=1:=by
 unfold jw; simp only; split <;> omega
theorem yM {f:Nat->Nat->Nat->Nat × Nat} {a b:List Nat} (la:Lim a) (lb:Lim b) (h:∀ x y c,x<B->y<B->c<=1->(f x y c).2<=1):∀ k,(dx f a b k).2<=1
 | 0=>TY _
 | k+1=>h _ _ _ (la.at k) (lb.at k) (yM la lb h k)
theorem Ap {f:Nat->Nat->Nat->Nat × Nat} {a b:List Nat} (h:∀ x y c,(f x y c).1<B):∀ k,Lim (dx f a b k).1
 | 0=>Lim.nil
 | k+1=>(Ap h k).append (Lim.cons (h _ _ _) Lim.nil)
theorem Jk {a b:List Nat}:∀ k,val (dx fe a b k).1+B^k*(dx fe a b k).2=val (a.take k)+val (b.take k)
 | 0=>by simp [dx,val]
 | k+1=>by
  have ih:=Jk (a:=a) (b:=b) k
  rw [cW,cW]
  simp only [dx,kv,hZ]
  generalize dx fe a b k=r at ih ⊢
  generalize a.getD k 0=x
  generalize b.getD k 0=y
  simp only [fe]
  have e:=U2 (x+y+r.2) B
  have:B^(k+1)*((x+y+r.2) / B)=B^k*(B*((x+y+r.2) / B)):=by rw [Uy,UD]
  rw [this]
  generalize B*((x+y+r.2) / B)=q at *
  generalize (x+y+r.2) % B=m at *
  have:B^k*(x+y+r.2)=B^k*q+B^k*m:=by rw [<- e,UQ]
  rw [UQ,UQ] at this
  omega
theorem Ip {a b:List Nat} (la:Lim a) (lb:Lim b):∀ k,val (dx jw a b k).1+val (b.take k)=val (a.take k)+B^k*(dx jw a b k).2
 | 0=>by simp [dx,val]
 | k+1=>by
  have ih:=Ip la lb k
  have hc:(dx jw a b k).2<=1:=yM la lb (fun x y c _ _ _=>uW x y c) k
  rw [cW,cW]
  simp only [dx,kv,hZ]
  have hx:=la.at k
  have hy:=lb.at k
  generalize dx jw a b k=r at ih hc ⊢
  generalize a.getD k 0=x at *
  generalize b.getD k 0=y at *
  have key:(jw x y r.2).1+y+r.2=x+B*(jw x y r.2).2:=by
   clear ih
   simp only [jw,B] at *
   split <;> omega
  have:B^(k+1)*(jw x y r.2).2=B^k*(B*(jw x y r.2).2):=by rw [Uy,UD]
  rw [this]
  have:=congrArg (B^k * ·) key
  simp only [UQ] at this
  generalize B^k*(B*(jw x y r.2).2)=q at *
  generalize B^k*(jw x y r.2).1=m at *
  omega
section
variable {tab:Nat->Option aw} {H:Heap}
theorem iZ (C:Code tab) (H:Heap) (x y c:Nat) (_:x<B) (_:y<B) (hc:c<=1):Ans tab (.fn jk [.int .u64 (x:Nat),.int .u64 (y:Nat),.int .u64 (c:Nat)]) H fun v H'=>v=.tup [.int .u64 ((fe x y c).1:Nat),.int .u64 ((fe x y c).2:Nat)]/\H'=H :=
 yQ C.q172 rfl rfl (v:=.tup [.int .u64 ((fe x y c).1:Nat),.int .u64 ((fe x y c).2:Nat)]) (H':=H) (by
  show (if c<=1 then _ else _)=_
  rw [if_pos hc]; rfl) ⟨rfl,rfl⟩
theorem xu (C:Code tab) (H:Heap) (x y c:Nat) (_:x<B) (_:y<B) (hc:c<=1):Ans tab (.fn jg [.int .u64 (x:Nat),.int .u64 (y:Nat),.int .u64 (c:Nat)]) H fun v H'=>v=.tup [.int .u64 ((jw x y c).1:Nat),.int .u64 ((jw x y c).2:Nat)]/\H'=H :=
 yQ C.q173 rfl rfl (v:=.tup [.int .u64 ((jw x y c).1:Nat),.int .u64 ((jw x y c).2:Nat)]) (H':=H) (by
  show (if c<=1 then _ else _)=_
  rw [if_pos hc]; rfl) ⟨rfl,rfl⟩
theorem Bu {H H1:Heap} {b ty t1:Nat} {α:Type} {E:fg α} {x y:AV} {l m:List α} (hx:SlV E t1 H x l) (hy:SlV E t1 H y m) (hs:Sub H H1) (hg:H1.get b=some (.cells [x,y] ty true)):yT (sO E t1) ty H1 (.own b 0 2 2 1 true) [l,m] :=
 ⟨[x,y],Zr hg rfl (TO _),fun _ _ _ _ _ _ e=>by cases e; exact ⟨_,_,hg⟩,rfl,fun i a hi=>by
  match i with
  | 0=>simp at hi; subst hi; exact ⟨x,rfl,hx.mono hs⟩
  | 1=>simp at hi; subst hi; exact ⟨y,rfl,hy.mono hs⟩
  | i+2=>simp at hi⟩
theorem Rj {H H1:Heap} {b ty t1:Nat} {α:Type} {E:fg α} {x:AV} {l:List α} (hx:SlV E t1 H x l) (hs:Sub H H1) (hg:H1.get b=some (.cells [x] ty true)):yT (sO E t1) ty H1 (.own b 0 1 1 1 true) [l] :=
 ⟨[x],Zr hg rfl (TO _),fun _ _ _ _ _ _ e=>by cases e; exact ⟨_,_,hg⟩,rfl,fun i a hi=>by
  match i with
  | 0=>simp at hi; subst hi; exact ⟨x,rfl,hx.mono hs⟩
  | i+1=>simp at hi⟩
theorem sN (a b:List Nat):a.take (max a.length b.length)=a:=Ug zO
theorem qp (a b:List Nat):b.take (max a.length b.length)=b:=Ug zO
theorem IC (C:Code tab) (hw:Wf H) {sa sb:AV} {x y:Nat} (ha:cr H sa x) (hb:cr H sb y) (hx:Sm x) (hy:Sm y) :
  Ans tab (.fn wJ [sa,sb]) H fun v H'=>∃ o,v=.tup [o,.int .i64 0]/\cr H' o (x+y)/\Kp H H':=by
 refine bz C.q158 zU fun T hl g0 g1=>?_
 have oa:=ha.one
 have ob:=hb.one
 unfold Sm at hx hy
 refine zW (aD hl g0 g1) ?_
 have k1:Kp H ((H.up 7).put (H.next+4) (.cells [sa,sb] aG true)):=zK
 have le_k1:=k1.le
 refine Y4 (qE C k1.wf (Bu ha hb k1.sub (aq _ _ _)) (by simp) fun c hc=>?_) fun H2 hk2=>?_
 ·simp at hc
  rcases hc with rfl | rfl
  ·exact ⟨by omega,dz x⟩
  ·exact ⟨by omega,dz y⟩
 have k2:=k1.trans hk2
 have w2:=k2.wf
 refine zW (aD hl g0 g1) ?_
 refine Y5 (zY C zF (ha.mono (k2.up _).sub) (hb.mono (k2.up _).sub) zO zO (bC x) (bC y) (f:=fe) (iZ C) yO) ?_
 rintro v H3 ⟨o,rfl,ho,hk3⟩
 obtain ⟨k3,_,w3⟩:=zT H zK hk3
 have hlen:=hZ fe (ai x) (ai y) (max (ai x).length (ai y).length)
 have hval:=Jk (a:=ai x) (b:=ai y) (max (ai x).length (ai y).length)
 rw [sN,qp,bF,bF] at hval
 have hlim:Lim (dx fe (ai x) (ai y) (max (ai x).length (ai y).length)).1:=Ap (fun x y c=>UL _ zU) _
 have hle:=yM (bC x) (bC y) yO (max (ai x).length (ai y).length)
 generalize dx fe (ai x) (ai y) (max (ai x).length (ai y).length)=r at *
 refine zW (aD hl g0 g1) ?_
 obtain ⟨n,H4,e1,q2,k5,hn4,-⟩:=ho.push (ty2:=ae) (bytes:=8) (id:=H3.next+3) (id2:=H3.next+2) (k:=7) (cs:=[.int .u64 (r.2:Nat)]) (a:=r.2) (fun h=>by cases h) hk3 ⟨_,rfl,rfl⟩ zO zO zO zO zO zO zO
 have e1':cM ((H3.up 7).put (H3.next+2) (.cells [.int .u64 (r.2:Nat)] ae true)) (H3.next+3) 1 8 ae o (.own (H3.next+2) 0 1 1 1 true)=some (.own (H3.next+3) 0 n n 1 false,H4):=e1
 refine zW (aX hl g0 g1 e1') ?_
 have w4:=k5.wf
 refine Y5 (uL C zF q2.sl (by simp; omega)) ?_
 rintro v H5 ⟨h5,hk5⟩
 have k7:Kp H H5:=((k2.up _).trans k5).trans hk5
 have le_k7:=k7.le
 have e:eR (r.1++[r.2])=ai (x+y):=by
  rw [eN (hlim.append (Lim.cons (by unfold B; omega) Lim.nil)),kv,hlen,hval]
 rw [e] at h5
 refine zW (aD hl g0 g1) ?_
 exact ⟨v,rfl,h5,k7⟩
theorem Df (C:Code tab) (hw:Wf H) {sa sb:AV} {x y:Nat} (ha:cr H sa x) (hb:cr H sb y) (hx:Sm x) (hy:Sm y) :
  Ans tab (.fn wI [sa,sb]) H fun v H'=>Kp H H'/\if y<=x then ∃ o,v=.tup [o,.int .i64 0]/\cr H' o (x-y) else v=.tup [.nilSl,.int .i64 10]:=by
 refine bz C.q159 zU fun T hl g0 g1=>?_
 have oa:=ha.one
 have ob:=hb.one
 unfold Sm at hx hy
 refine zW (aD hl g0 g1) ?_
 have k1:Kp H ((H.up 7).put (H.next+4) (.cells [sa,sb] aG true)):=zK
 have le_k1:=k1.le
 refine Y4 (qE C k1.wf (Bu ha hb k1.sub (aq _ _ _)) (by simp) fun c hc=>?_) fun H2 hk2=>?_
 ·simp at hc
  rcases hc with rfl | rfl
  ·exact ⟨by omega,dz x⟩
  ·exact ⟨by omega,dz y⟩
 have k2:=k1.trans hk2
 have w2:=k2.wf
 refine zW (aD hl g0 g1) ?_
 refine Y5 (zY C zF (ha.mono (k2.up _).sub) (hb.mono (k2.up _).sub) zO zO (bC x) (bC y) (f:=jw) (xu C) fun x y c _ _ _=>uW x y c) ?_
 rintro v H3 ⟨o,rfl,ho,hk3⟩
 obtain ⟨k3,_,w3⟩:=zT H zK hk3
 have hlen:=hZ jw (ai x) (ai y) (max (ai x).length (ai y).length)
 have hval:=Ip (bC x) (bC y) (max (ai x).length (ai y).length)
 rw [sN,qp,bF,bF] at hval
 have hlim:Lim (dx jw (ai x) (ai y) (max (ai x).length (ai y).length)).1:=Ap (fun x y c=>UL _ zU) _
 have hle:=yM (bC x) (bC y) (fun x y c _ _ _=>uW x y c) (max (ai x).length (ai y).length)
 have hlt:=wh hlim
 rw [hlen] at hlt
 generalize dx jw (ai x) (ai y) (max (ai x).length (ai y).length)=r at *
 refine zW (aD hl g0 g1) ?_
 refine iteH.split (fun h=>?_) fun h=>?_
 ·have h1:r.2=1:=by omega
  rw [h1] at hval
  have:¬ y<=x:=by omega
  refine zW (aX hl g0 g1 this) ?_
  exact zK
 ·have h1:r.2=0:=by omega
  rw [h1] at hval
  have hyx:y<=x:=by omega
  refine zW (aD hl g0 g1) ?_
  refine Y5 (uL C zF (ho.sl.mono (ZB H3 _)) zO) ?_
  rintro v H5 ⟨h5,hk5⟩
  obtain ⟨k7,_,_⟩:=zT H zK hk5
  have e:eR r.1=ai (x-y):=by
   rw [eN hlim]; congr 1; omega
  rw [e] at h5
  refine zW (aD hl g0 g1) ?_
  exact ⟨k7,by rw [if_pos hyx]; exact ⟨v,rfl,h5⟩⟩
end
section
variable {tab:Nat->Option aw} {H:Heap} {s:AV} {l:List Nat}
theorem kw (C:Code tab) (hw:Wf H) (hs:Lb H s l) (hbig:l.length<1099511627776):Ans tab (.fn cu [s]) H fun v H'=>Lb H' v l/\Kp H H':=by
 refine cU C.q154 zU fun T hl g0=>?_
 rcases hs.nilcase with ⟨rfl,rfl⟩ | hne
 ·have e:bX .eql .sl .nilSl .nilSl=some (.bool true):=rfl
  refine zW (aD hl g0 e) ?_
  exact ⟨Zx _ _ _,zK⟩
 ·have ef:cV ([]:List AV) []=some []:=rfl
  refine zW (aX hl g0 hne ef) ?_
  have k1:Kp H ((H.up 7).put (H.next+3) (.cells [] ae true)):=zK
  have le_k1:=k1.le
  have h0:SlV (bU cm) ae ((H.up 7).put (H.next+3) (.cells [] ae true)) (.own (H.next+3) 0 0 0 1 true) ([]:List Nat) :=
   (show Own (bU cm) ae H _ (H.next+3) true _ [] from ⟨_,rfl,aq _ _ _,Y9 _ _,by omega⟩).sl
  obtain ⟨v',H2,e1,h2,hk2,hn2,hs2,-⟩:=SlV.app (l:=[]) (id:=H.next+5) (bytes:=8) h0 k1 (hs.mono k1.sub) zO (by show _<H.next+7; omega) (by rw [aA zO]; exact hw.fresh (b:=H.next+5) zO) (by simp; omega) (by simp; omega)
  have e1':cM ((H.up 7).put (H.next+3) (.cells [] ae true)) (H.next+5) 1 8 ae (.own (H.next+3) 0 0 0 1 true) s=some (v',H2):=e1
  refine zW (aD hl g0 e1') ?_
  exact ⟨h2,hk2⟩
def intE:fg Int where
 sz:=2
 tys:=[ae]
 R H cs z:=∃ v,cs=[.bool (decide (z<0)),v]/\cr H v z.natAbs
 pos:=by omega
 len:=by rintro H cs z ⟨v,rfl,h⟩; exact ⟨rfl,by simp [h.one.2]; rfl⟩
 mono:=by rintro H H' cs z hs ⟨v,rfl,h⟩; exact ⟨v,rfl,h.monoT hs⟩
def IntV (H:Heap) (v:AV) (z:Int):Prop:=∃ w,v=.agg [.bool (decide (z<0)),w]/\cr H w z.natAbs
def eY (z:Int):Prop:=Sm z.natAbs
theorem IntV.mono {H H':Heap} (hs:Sub H H') {v:AV} {z:Int} (h:IntV H v z):IntV H' v z:=by
 obtain ⟨w,rfl,h⟩:=h; exact ⟨w,rfl,h.mono hs⟩
theorem bZ (n:Nat):(0<(ai n).length) ↔ n≠0:=by
 rw [List.length_pos_iff]
 exact not_congr limbs_nil
theorem e9 (C:Code tab) (hw:Wf H) {v:AV} {z:Int} (hv:IntV H v z) (hz:eY z):Ans tab (.fn kQ [v]) H fun v H'=>v=.int .i64 0/\Kp H H':=by
 obtain ⟨w,rfl,hn⟩:=hv
 unfold eY Sm at hz
 have ow:=hn.one
 refine cU C.q97 zU fun T hl g0=>?_
 refine zW (aC hl g0) ?_
 have k1:Kp H ((H.up 16).put H.next (.cells [.bool (decide (z<0)),w] ad true)):=zK
 have le_k1:=k1.le
 refine Y4 (oS C k1.wf (hn.mono k1.sub) zO) fun H2 hk2=>?_
 rw [if_neg (dz _)]
 have k2:=k1.trans hk2
 have b0:H2.get H.next=some (.cells [.bool (decide (z<0)),w] ad true):=hk2.get (aq _ _ _)
 refine zW (aD hl g0 @b0) ?_
 refine iteH.split (fun h=>?_) fun h=>?_
 ·have:¬ (ai z.natAbs).length=0:=by have:=(bZ z.natAbs).2 zO; omega
  have e:decide (((ai z.natAbs).length:Int)=0)=false:=by simp; intro h; rw [h] at this; exact this rfl
  refine zW (dV hl g0 @b0 hn.lenV h e) ?_
  exact zK
 ·refine zW (aX hl g0 @b0 h) ?_
  exact zK
theorem lJ {ty:Nat} {v:AV} {l:List Int} (hs:SlV intE ty H v l) {i:Nat} (hi:i<l.length):∃ w,cr H w (l[i]).natAbs/\bg H (some 2) (az v (i*2))=some (.agg [.bool (decide (l[i]<0)),w])/\bg H none (az v (i*2))=some (.bool (decide (l[i]<0)))/\bg H none (az v (i*2+1))=some w:=by
 obtain ⟨cs,⟨w,rfl,hn⟩,-,h1,h2⟩:=hs.at (TL hi)
 exact ⟨w,hn,h2,h1 0 _ rfl,h1 1 _ rfl⟩
theorem E0 {H1:Heap} {b ty:Nat} {x y:Int} {p q:AV} (hx:cr H p x.natAbs) (hy:cr H q y.natAbs) (hs:Sub H H1) (hg:H1.get b=some (.cells [.bool (decide (x<0)),p,.bool (decide (y<0)),q] ty true)):SlV intE ty H1 (.own b 0 2 2 2 true) [x,y] :=
 ⟨_,Zr hg rfl (TO _),fun _ _ _ _ _ _ e=>by cases e; exact ⟨_,_,hg⟩,rfl,fun i a hi=>by
  match i with
  | 0=>simp at hi; subst hi; exact ⟨p,rfl,hx.mono hs⟩
  | 1=>simp at hi; subst hi; exact ⟨q,rfl,hy.mono hs⟩
  | i+2=>simp at hi⟩
theorem gS (C:Code tab) (hw:Wf H) {v:AV} {ls:List Int} {ty:Nat} (hs:SlV intE ty H v ls) (hbig:ls.length<4611686018427387904) (hc:∀ z∈ls,eY z) :
  Ans tab (.fn lH [v]) H fun v H'=>v=.int .i64 0/\Kp H H':=by
 refine cU C.q141 zU fun T hl g0=>?_
 refine zW (aD hl g0 hs.lenV) ?_
 refine am H [] (fun _ _ _=>True) (a:=0) (N:=ls.length) rfl (by refine zW (aC hl g0) ?_; rfl) (zV (aC hl g0)) (TY _) zO (by simp only [TH,hl]; rfl) rfl (fun _ _ _ _ h=>h) zK trivial ?_ ?_
 ·intro j T1 H1 _ hj hl1 hi1 hs1 hk1 _
  have w1:=hk1.wf
  have le_hk1:=hk1.le
  have t6:aa T1 6=v:=(hs1.at_ 6 zU).trans (zV (aC hl g0))
  obtain ⟨w,hn,hld,-,-⟩:=lJ (hs.mono hk1.sub) hj
  have hix:cw 2 v (.int .i64 (j:Int))=some (az v (j*2)):=Zu hs .i64 j hj
  have hcc:=hc _ (TM hj)
  have ow:=hn.one
  simp only [TH,hl] at hl1
  refine zW (bS hl1 t6 hi1 hix hld) ?_
  have hle:=hk1.le
  refine Y4 (e9 C zF ⟨w,rfl,hn.mono (zG H1)⟩ hcc) fun H2 hk2=>?_
  obtain ⟨k2,_,_⟩:=zT H zK hk2
  refine zW hl1 ?_
  exact zK
 ·intro T1 H1 hl1 hs1 hk1 _
  simp only [TH,hl] at hl1
  refine zW hl1 ?_
  exact zK
theorem oV {w:AV} {n:Nat} (b:Bool) (h:cr H w n):IntV H (.agg [.bool (b && decide (0<(ai n).length)),w]) (if b then -(n:Int) else n):=by
 refine ⟨w,?_,?_⟩
 ·have:=bZ n
  congr 3
  cases b
  ·simp
  ·simp only [Ye,if_true]
   by_cases h0:n=0
   ·simp [h0,cO]
   ·have h1:=this.2 h0
    simp [h1]; omega
 ·cases b
  ·simpa using h
  ·simpa using h
theorem BJ (C:Code tab) (hw:Wf H) {v:AV} {z:Int} (hv:IntV H v z) (hz:eY z):Ans tab (.fn qH [v]) H fun v H'=>∃ r,v=.tup [r,.int .i64 0]/\IntV H' r (-z)/\Kp H H':=by
 obtain ⟨w,rfl,hn⟩:=hv
 have ow:=hn.one
 refine cU C.q146 zU fun T hl g0=>?_
 refine zW (aC hl g0) ?_
 refine Y4 (e9 C zF ⟨w,rfl,hn.mono (zG H)⟩ hz) fun H2 hk2=>?_
 obtain ⟨k2,_,_⟩:=zT H zK hk2
 have b0:H2.get H.next=some (.cells [.bool (decide (z<0)),w] ad true):=hk2.get (cP)
 have b1:H2.get (H.next+1)=some (.cells [.bool false,.nilSl] ad true):=hk2.get (cP)
 refine zW (aC hl g0) ?_
 refine aI ?_
 refine zD (aX hl g0 @b0 b1) ?_
 unfold eY Sm at hz
 have w2:=k2.wf
 refine Y5 (kw C zF (hn.mono (zG H)) zO) ?_
 rintro v3 H3 ⟨h3,hk3⟩
 obtain ⟨k3,_,w3⟩:=zT H zK hk3
 refine zD (aX hl g0 @b0 b1) ?_
 refine Y5 (fl C zF h3 _) ?_
 rintro v4 H4 ⟨rfl,hk4⟩
 obtain ⟨k4,_,_⟩:=zT H zK hk4
 have o3:=h3.one
 have c0:H3.get H.next=some (.cells [.bool (decide (z<0)),w] ad true):=hk3.get b0
 have d1:H4.get (H.next+1)=some (.cells [.bool false,.nilSl] ad true):=hk4.get (hk3.get b1)
 refine zD (dV hl g0 @b0 b1 c0 d1) ?_
 have lt1:=k4.wf _ _ d1
 refine ⟨_,rfl,?_,zK⟩
 have hm:=oV (!decide (z<0)) ((h3.mono (Zh (H:=H3) (Zi zK hk4))).monoT (ZC (e:=.cells [.bool (!decide (z<0) && decide (0<(ai z.natAbs).length)),v3] ad true) d1 zU))
 have e:(if (!decide (z<0))=true then -((z.natAbs:Nat):Int) else ((z.natAbs:Nat):Int)) = -z:=by
  by_cases h:z<0 <;> simp [h] <;> omega
 rw [e] at hm
 exact hm
end
section
variable {tab:Nat->Option aw} {H:Heap}
theorem NB (x y:Int):(decide (x<0) == decide (y<0))=decide ((x<0)=(y<0)):=by
 by_cases hx:x<0 <;> by_cases hy:y<0 <;> simp [hx,hy]
theorem BI (C:Code tab) (hw:Wf H) {a b:AV} {x y:Int} (ha:IntV H a x) (hb:IntV H b y) (hx:eY x) (hy:eY y):Ans tab (.fn qF [a,b]) H fun v H'=>IntV H' v (x+y)/\Kp H H':=by
 obtain ⟨p,rfl,hp⟩:=ha
 obtain ⟨q,rfl,hq⟩:=hb
 have op:=hp.one
 have oq:=hq.one
 refine bz C.q143 zU fun T hl g0 g1=>?_
 refine zW (aD hl g0 g1) ?_
 have fin:∀ (H3:Heap) (k3:Kp H H3) (bb:Bool) (o:AV) (n:Nat) (z:Int),H3.get (H.next+2)=some (.cells [.bool false,.nilSl] ad true)->Lb H3 o (ai n)->(if bb then -(n:Int) else n)=z ->
   IntV (H3.put (H.next+2) (.cells [.bool (bb && decide (0<(ai n).length)),o] ad true)) (.agg [.bool (bb && decide (0<(ai n).length)),o]) z/\Kp H (H3.put (H.next+2) (.cells [.bool (bb && decide (0<(ai n).length)),o] ad true)):=by
  intro H3 k3 bb o n z d1 ho hz
  have lt1:=k3.wf _ _ d1
  refine ⟨?_,zK⟩
  rw [<- hz]
  exact oV bb (ho.monoT (ZC d1 zU))
 refine iteH.split (fun h=>?_) fun h=>?_
 ·rw [NB] at h
  simp only [decide_eq_true_eq,eq_iff_iff] at h
  refine zW (aD hl g0 g1) ?_
  refine Y5 (IC C zF (hp.mono (zG H)) (hq.mono (zG H)) hx hy) ?_
  rintro v H2 ⟨o,rfl,ho,hk2⟩
  obtain ⟨k2,_,w2⟩:=zT H zK hk2
  have b0:H2.get H.next=some (.cells [.bool (decide (x<0)),p] ad true):=hk2.get (cP)
  have b2:H2.get (H.next+2)=some (.cells [.bool false,.nilSl] ad true):=hk2.get (cP)
  refine zW (aX hl g0 g1 @b0) ?_
  refine Y5 (fl C zF (ho.mono (zG H2)) _) ?_
  rintro v3 H3 ⟨rfl,hk3⟩
  obtain ⟨k3,_,_⟩:=zT H zK hk3
  have o3:=ho.one
  have d1:=hk3.get (b:=H.next+2) b2
  refine zW (aX hl g0 g1 d1) ?_
  refine fin H3 k3 _ _ _ _ d1 (ho.mono (Zh (H:=H2) (Zi zK hk3))) ?_
  by_cases h1:x<0 <;> simp [h1] <;> omega
 ·rw [NB] at h
  simp only [decide_eq_true_eq,eq_iff_iff] at h
  refine zW (aD hl g0 g1) ?_
  refine Y5 (Df C zF (hp.mono (zG H)) (hq.mono (zG H)) hx hy) ?_
  rintro v H2 ⟨hk2,hr⟩
  obtain ⟨k2,_,w2⟩:=zT H zK hk2
  have b0:H2.get H.next=some (.cells [.bool (decide (x<0)),p] ad true):=hk2.get (cP)
  have b1:H2.get (H.next+1)=some (.cells [.bool (decide (y<0)),q] ad true):=hk2.get (cP)
  have b2:H2.get (H.next+2)=some (.cells [.bool false,.nilSl] ad true):=hk2.get (cP)
  by_cases hle:y.natAbs<=x.natAbs
  ·rw [if_pos hle] at hr
   obtain ⟨o,rfl,ho⟩:=hr
   refine zW (aX hl g0 g1 @b0) ?_
   refine Y5 (fl C zF (ho.mono (zG H2)) _) ?_
   rintro v3 H3 ⟨rfl,hk3⟩
   obtain ⟨k3,_,_⟩:=zT H zK hk3
   have o3:=ho.one
   have d1:=hk3.get (b:=H.next+2) b2
   refine zW (aX hl g0 g1 d1) ?_
   refine fin H3 k3 _ _ _ _ d1 (ho.mono (Zh (H:=H2) (Zi zK hk3))) ?_
   by_cases h1:x<0 <;> simp [h1] <;> omega
  ·rw [if_neg hle] at hr
   subst hr
   refine zW (bS hl g0 g1 @b0 b1) ?_
   refine Y5 (Df C zF (hq.mono (zG H)) (hp.mono (zG H)) hy hx) ?_
   rintro v H3 ⟨hk3,hr⟩
   rw [if_pos zO] at hr
   obtain ⟨o,rfl,ho⟩:=hr
   obtain ⟨k3,_,w3⟩:=zT H zK hk3
   have c1:=hk3.get (b:=H.next+1) b1
   have c2:=hk3.get (b:=H.next+2) b2
   refine zW (aX hl g0 g1 @c1) ?_
   refine Y5 (fl C zF (ho.mono (zG H3)) _) ?_
   rintro v4 H4 ⟨rfl,hk4⟩
   obtain ⟨k4,_,_⟩:=zT H zK hk4
   have o3:=ho.one
   have d1:=hk4.get (b:=H.next+2) c2
   refine zW (aX hl g0 g1 d1) ?_
   refine fin H4 k4 _ _ _ _ d1 (ho.mono (Zh (H:=H3) (Zi zK hk4))) ?_
   by_cases h1:y<0 <;> simp [h1] <;> omega
end
section
variable {tab:Nat->Option aw} {H:Heap}
def iK (x:Int):Int:=if x<0 then -1 else if x=0 then 0 else 1
theorem yW (C:Code tab) (hw:Wf H) {a:AV} {x:Int} (ha:IntV H a x):Ans tab (.fn pt [a]) H fun v H'=>v=.int .i64 (iK x)/\Kp H H':=by
 obtain ⟨p,rfl,hp⟩:=ha
 have op:=hp.one
 refine cU C.q98 zU fun T hl g0=>?_
 have hlen:decide (((ai x.natAbs).length:Int)=0)=decide (x=0):=by
  have:=bZ x.natAbs
  by_cases h:x=0
  ·subst h; simp [cO]
  ·have h1:=this.2 zO; simp [h]; intro h2; rw [h2] at h1; simp at h1
 refine zW (aX hl g0 hp.lenV hlen) ?_
 refine iteH.split (fun h=>?_) fun h=>?_
 ·have hx:x=0:=by
   by_cases h1:x=0
   ·exact h1
   ·simp [h1] at h
  subst hx
  refine zW (aC hl g0) ?_
  exact ⟨rfl,zK⟩
 ·have hx:x≠0:=fun h1=>by subst h1; simp at h
  refine zW (aC hl g0) ?_
  refine iteH.split (fun h=>?_) fun h=>?_
  ·refine zW (aC hl g0) ?_
   exact ⟨by simp [iK,h],zK⟩
  ·refine zW (aC hl g0) ?_
   exact ⟨by simp [iK,h,hx],zK⟩
theorem pk (C:Code tab) (hw:Wf H) {a:AV} {x:Int} (ha:IntV H a x) (hx:eY x):Ans tab (.fn pw [a]) H fun v H'=>v=.tup [.int .i64 (iK x),.int .i64 0]/\Kp H H':=by
 obtain ⟨p,rfl,hp⟩:=ha
 have op:=hp.one
 refine cU C.q69 zU fun T hl g0=>?_
 refine zW (aC hl g0) ?_
 refine Y4 (e9 C zF ⟨p,rfl,hp.mono (zG H)⟩ hx) fun H2 hk2=>?_
 obtain ⟨k2,_,w2⟩:=zT H zK hk2
 have b0:=hk2.get (b:=H.next) (e:=.cells [.bool (decide (x<0)),p] ad true) (cP)
 refine zW (aD hl g0 @b0) ?_
 refine Y4 (yW C zF ⟨p,rfl,hp.mono (zG H)⟩) fun H3 hk3=>?_
 obtain ⟨k3,_,_⟩:=zT H zK hk3
 refine zW (aC hl g0) ?_
 exact zK
theorem JC (C:Code tab) (hw:Wf H) {a b:AV} {x y:Int} (ha:IntV H a x) (hb:IntV H b y) (hx:eY x) (hy:eY y):Ans tab (.fn qK [a,b]) H fun v H'=>∃ r,v=.tup [r,.int .i64 0]/\IntV H' r (x+y)/\Kp H H':=by
 obtain ⟨p,rfl,hp⟩:=ha
 obtain ⟨q,rfl,hq⟩:=hb
 have op:=hp.one
 have oq:=hq.one
 refine bz C.q121 zU fun T hl g0 g1=>?_
 refine zW (aD hl g0 g1) ?_
 refine Y4 (gS C zF (E0 (x:=x) (y:=y) (H:=H) hp hq (zG H) (by refine vV ?_; rfl)) (by simp) fun z hz=>?_) fun H2 hk2=>?_
 ·simp at hz; rcases hz with rfl | rfl <;> assumption
 obtain ⟨k2,_,w2⟩:=zT H zK hk2
 have b0:=hk2.get (b:=H.next) (e:=.cells [.bool (decide (x<0)),p] ad true) (cP)
 have b1:=hk2.get (b:=H.next+1) (e:=.cells [.bool (decide (y<0)),q] ad true) (cP)
 have b2:=hk2.get (b:=H.next+2) (e:=.cells [.bool false,.nilSl] ad true) (cP)
 refine zW (bS hl g0 g1 @b0 b1) ?_
 refine Y5 (BI C zF ⟨p,rfl,hp.mono (zG H)⟩ ⟨q,rfl,hq.mono (zG H)⟩ hx hy) ?_
 rintro v H3 ⟨⟨r,rfl,hr⟩,hk3⟩
 obtain ⟨k3,_,_⟩:=zT H zK hk3
 have o3:=hr.one
 have d2:=hk3.get (b:=H.next+2) b2
 have lt2:=k3.wf _ _ d2
 refine zW (aX hl g0 g1 d2) ?_
 exact ⟨_,rfl,⟨r,rfl,hr.monoT (ZC d2 zU)⟩,zK⟩
theorem Jz (C:Code tab) (hw:Wf H) {a b:AV} {x y:Int} (ha:IntV H a x) (hb:IntV H b y) (hx:eY x) (hy:eY y):Ans tab (.fn qG [a,b]) H fun v H'=>∃ r,v=.tup [r,.int .i64 0]/\IntV H' r (x-y)/\Kp H H':=by
 obtain ⟨p,rfl,hp⟩:=ha
 obtain ⟨q,rfl,hq⟩:=hb
 have op:=hp.one
 have oq:=hq.one
 refine bz C.q164 zU fun T hl g0 g1=>?_
 refine zW (aD hl g0 g1) ?_
 refine Y4 (gS C zF (E0 (x:=x) (y:=y) (H:=H) hp hq (zG H) (by refine vV ?_; rfl)) (by simp) fun z hz=>?_) fun H2 hk2=>?_
 ·simp at hz; rcases hz with rfl | rfl <;> assumption
 obtain ⟨k2,_,w2⟩:=zT H zK hk2
 have b0:=hk2.get (b:=H.next) (e:=.cells [.bool (decide (x<0)),p] ad true) (cP)
 have b1:=hk2.get (b:=H.next+1) (e:=.cells [.bool (decide (y<0)),q] ad true) (cP)
 have b2:=hk2.get (b:=H.next+2) (e:=.cells [.bool false,.nilSl] ad true) (cP)
 refine zW (aD hl g0 g1) ?_
 refine aI ?_
 refine zD (bS hl g0 g1 @b0 b1) ?_
 refine Y5 (fl C zF (hq.mono (zG H)) _) ?_
 rintro v3 H3 ⟨rfl,hk3⟩
 obtain ⟨k3,_,w3⟩:=zT H zK hk3
 have hm:=oV (!decide (y<0)) (hq.mono k3.sub)
 have e:(if (!decide (y<0))=true then -((y.natAbs:Nat):Int) else ((y.natAbs:Nat):Int)) = -y:=by
  by_cases h:y<0 <;> simp [h] <;> omega
 rw [e] at hm
 have hny:eY (-y):=by unfold eY at *; rwa [WX]
 refine zD (bS hl g0 g1 @b0 b1) ?_
 refine Y5 (BI C zF ⟨p,rfl,hp.mono (zG H)⟩ hm hx hny) ?_
 rintro v H4 ⟨⟨r,rfl,hr⟩,hk4⟩
 obtain ⟨k4,_,_⟩:=zT H zK hk4
 have o3:=hr.one
 have c0:=hk3.get (b:=H.next) b0
 have d2:=hk4.get (b:=H.next+2) (hk3.get (b:=H.next+2) b2)
 have lt2:=k4.wf _ _ d2
 refine zD (gh hl g0 g1 @b0 b1 c0 d2) ?_
 refine ⟨_,rfl,⟨r,?_,hr.monoT (ZC d2 zU)⟩,zK⟩
 rw [Int.sub_eq_add_neg]
end
section
variable {tab:Nat->Option aw} {H:Heap}
theorem M2 (x y:Nat) (hx:x<B) (hy:y<B) :
  ((x / 4294967296*(y / 4294967296) % B+((x / 4294967296*(y % 4294967296) % B+(x % 4294967296*(y % 4294967296) % B) / 4294967296) % B) / 4294967296) % B+((((x / 4294967296*(y % 4294967296) % B+(x % 4294967296*(y % 4294967296) % B) / 4294967296) % B) % 4294967296+x % 4294967296*(y / 4294967296) % B) % B) / 4294967296) % B=x*y / B:=by
 have e:x*y=(x / 4294967296*4294967296+x % 4294967296)*(y / 4294967296*4294967296+y % 4294967296):=by
  rw [W3,W3]
 have h1:x / 4294967296<4294967296:=by unfold B at hx; omega
 have h2:y / 4294967296<4294967296:=by unfold B at hy; omega
 have h3:x % 4294967296<4294967296:=by omega
 have h4:y % 4294967296<4294967296:=by omega
 generalize x / 4294967296=x1 at *
 generalize y / 4294967296=y1 at *
 generalize x % 4294967296=x0 at *
 generalize y % 4294967296=y0 at *
 have b1:x1*y1<=4294967295*4294967295:=Vj zO zO
 have b2:x1*y0<=4294967295*4294967295:=Vj zO zO
 have b3:x0*y1<=4294967295*4294967295:=Vj zO zO
 have b4:x0*y0<=4294967295*4294967295:=Vj zO zO
 have e2:x*y=x1*y1*18446744073709551616+(x1*y0)*4294967296+(x0*y1)*4294967296+x0*y0:=by rw [e]; grind
 rw [e2]
 clear e e2 hx hy h1 h2 h3 h4
 generalize x1*y1=p at *
 generalize x1*y0=q at *
 generalize x0*y1=r at *
 generalize x0*y0=t at *
 simp only [B]
 omega
theorem pT (C:Code tab) (hw:Wf H) {x y:Nat} (hx:x<B) (hy:y<B):Ans tab (.fn jh [.int .u64 (x:Nat),.int .u64 (y:Nat)]) H fun v H'=>v=.tup [.int .u64 ((x*y / B:Nat):Int),.int .u64 ((x*y % B:Nat):Int)]/\Kp H H':=by
 refine bz C.q177 zU fun T hl g0 g1=>?_
 have e:=M2 x y hx hy
 simp only [B] at e
 refine zW (aX hl g0 g1 e) ?_
 exact zK
end
end Go.Proofs.YtofhopjbbpihaaaGreat.Ev
