/- A part. -/
import Derived.Test.YthjdfjlhjnihfaaGreatA0
import Derived.Test.YthjdfjlhjnihfaaGreatEvDraw5
import Derived.Test.YthjdfjlhjnihfaaGreatProg
set_option linter.all false
namespace Go.Proofs.YthjdfjlhjnihfaaGreat.Ev
open Go
def Heap.up (H:Heap) (k:Nat):Heap:={ H with next:=H.next+k }
def QU (H:Heap) (a b:Nat):(H.up a).up b=H.up (a+b):=by simp [Heap.up,V2]
theorem P4 (H:Heap) (b k:Nat) (e:Ent):(H.put b e).up k=(H.up k).put b e:=rfl
theorem Ol (H:Heap) (b k:Nat):(H.kill b).up k=(H.up k).kill b:=rfl
theorem cZ (H:Heap) (k:Nat):(H.up k).next=H.next+k:=rfl
theorem next_put (H:Heap) (b:Nat) (e:Ent):(H.put b e).next=H.next:=rfl
theorem next_kill (H:Heap) (b:Nat):(H.kill b).next=H.next:=rfl
theorem Ql (H:Heap) (k b:Nat):(H.up k).get b=H.get b:=rfl
def au (H:Heap) (b:Nat) (e:Ent):(H.put b e).get b=some e:=by rw [D9,if_pos rfl]
def az {H:Heap} {b c:Nat} {e:Ent} (h:c≠b):(H.put b e).get c=H.get c:=by rw [D9,if_neg h]
def dg {H:Heap} {b c:Nat} (h:c≠b):(H.kill b).get c=H.get c:=by rw [Jx,if_neg h]
structure Kp (H H':Heap):Prop where
 wf0:Wf H
 wf:Wf H'
 le:H.next<=H'.next
 same:∀ b,b<H.next->H'.get b=H.get b
def Kp.sub {H H':Heap} (h:Kp H H'):Sub H H':=⟨h.le,fun b e hb=>(h.same b (h.wf0 b e hb)).trans hb⟩
def Kp.refl {H:Heap} (h:Wf H):Kp H H:=⟨h,h,wT _,fun _ _=>rfl⟩
def Kp.up {H H':Heap} (h:Kp H H') (k:Nat):Kp H (H'.up k):=⟨h.wf0,h.wf.bump k,Oc h.le (Vz _ _),h.same⟩
def Kp.trans {H H' H'':Heap} (h:Kp H H') (h':Kp H' H''):Kp H H'':=⟨h.wf0,h'.wf,Oc h.le h'.le,fun b hb=>(h'.same b (Vi hb h.le)).trans (h.same b hb)⟩
def Kp.get {H H':Heap} (h:Kp H H') {b:Nat} {e:Ent} (hb:H.get b=some e):H'.get b=some e:=h.sub.get b e hb
def Kp.put {H H':Heap} (h:Kp H H') {b:Nat} {e:Ent} (h1:H.next<=b) (h2:b<H'.next):Kp H (H'.put b e):=⟨h.wf0,h.wf.put h2 e,h.le,fun c hc=>by rw [az zO]; exact h.same c hc⟩
def Kp.kill {H H':Heap} (h:Kp H H') {b:Nat} (h1:H.next<=b):Kp H (H'.kill b):=⟨h.wf0,h.wf.kill b,h.le,fun c hc=>by rw [dg zO]; exact h.same c hc⟩
def Kp.old {H H':Heap} (h:Kp H H') {b:Nat} {e:Ent} (hb:H.get b=some e):b<H.next:=h.wf0 b e hb
def Kp.free {H H':Heap} (h:Kp H H') {b:Nat} (h1:b<H.next) (h2:H.get b=none):H'.get b=none:=(h.same b h1).trans h2
def HK (os:List CT):List Nat:=os.filterMap (·.dst)
def fI:ACode->List Nat
 | .region os=>HK os
 | .draw ds _=>ds.filterMap (·.dst)
 | .drawF ds _ l _=>(ds++[l]).filterMap (·.dst)
 | .seq a b=>fI a++fI b
 | .cond _ a b=>fI a++fI b
 | .block _ a=>fI a
 | .loop a=>fI a
 | .scope a=>fI a
 | _=>[]
def uE (res:List (Nat × Option (Option Nat))) (Q:AV->Heap->Prop) (x:Ex) (T:Tm) (H:Heap):Prop:=(x=.nrm\/x=.ret)/\∃ v,ck T H res=some v/\Q v H
def Lz {res:List (Nat × Option (Option Nat))} {Q:AV->Heap->Prop} {T:Tm} {H:Heap}:uE res Q .nrm T H=SC (ck T H res) (fun v=>Q v H) ():=by
 unfold uE SC SE;cases ck T H res <;> simp
def Ly {res:List (Nat × Option (Option Nat))} {Q:AV->Heap->Prop} {T:Tm} {H:Heap}:uE res Q .ret T H=SC (ck T H res) (fun v=>Q v H) ():=by
 unfold uE SC SE;cases ck T H res <;> simp
def sV (H:Heap) (v:AV):Option (Option Nat)->Option AV
 | none=>some v
 | some k=>match v with
  | .ptr b o=>aW H k (.ptr b o)
  | _=>none
theorem IU (H:Heap) (v:AV):sV H v none=some v:=rfl
theorem LA (H:Heap) (b o:Nat) (k:Option Nat):sV H (.ptr b o) (some k)=aW H k (.ptr b o):=rfl
def jR (T:Tm) (H:Heap) (r:Nat × Option (Option Nat)):nl T H r=sV H (ad T r.1) r.2:=by
 obtain ⟨n,k⟩:=r;cases k with
 | none=>rfl
 | some k=>simp only [nl,sV]; cases ad T n <;> rfl
def PO (a b:Option AV):Option AV:=a.bind fun a=>b.bind fun b=>some (.tup [a,b])
def PN (a b c:Option AV):Option AV:=a.bind fun a=>b.bind fun b=>c.bind fun c=>some (.tup [a,b,c])
theorem IB (a b:AV):PO (some a) (some b)=some (.tup [a,b]):=rfl
theorem IA (a b c:AV):PN (some a) (some b) (some c)=some (.tup [a,b,c]):=rfl
theorem PY (T:Tm) (H:Heap):ck T H []=some (.tup []):=rfl
def PX (T:Tm) (H:Heap) (r:Nat) (k:Option (Option Nat)):ck T H [(r,k)]=sV H (ad T r) k:=by
 show (List.mapM (nl T H) [(r,k)]).bind _=_;rw [<- jR T H (r,k)];simp only [Wx,Zl];cases nl T H (r,k) <;> rfl
def PW (T:Tm) (H:Heap) (r s:Nat) (k l:Option (Option Nat)):ck T H [(r,k),(s,l)]=PO (sV H (ad T r) k) (sV H (ad T s) l):=by
 show (List.mapM (nl T H) [(r,k),(s,l)]).bind _=_;rw [<- jR T H (r,k),<- jR T H (s,l)];simp only [Wx,Zl,PO];cases nl T H (r,k) <;> cases nl T H (s,l) <;> rfl
def Lv (T:Tm) (H:Heap) (r s t:Nat) (k l m:Option (Option Nat)):ck T H [(r,k),(s,l),(t,m)]=PN (sV H (ad T r) k) (sV H (ad T s) l) (sV H (ad T t) m):=by
 show (List.mapM (nl T H) [(r,k),(s,l),(t,m)]).bind _=_;rw [<- jR T H (r,k),<- jR T H (s,l),<- jR T H (t,m)];simp only [Wx,Zl,PN];cases nl T H (r,k) <;> cases nl T H (s,l) <;> cases nl T H (t,m) <;> rfl
section
variable {tab:Nat->Option aw} {f n:Nat} {res:List (Nat × Option (Option Nat))} {body:ACode} {H:Heap} {Q:AV->Heap->Prop}
def RP (hf:tab f=some ⟨0,n,res,body,none⟩) (h:∀ T:Tm,T.length=n->WC tab false body T H (uE res Q)):Ans tab (.fn f []) H Q :=
 nH hf rfl rfl (II _) fun T hl g=>h T hl
def cQ {a:AV} (hf:tab f=some ⟨1,n,res,body,none⟩) (hn:1<=n) (h:∀ T:Tm,T.length=n->ad T 0=a->WC tab false body T H (uE res Q)):Ans tab (.fn f [a]) H Q :=
 nH hf rfl rfl hn fun T hl g=>h T hl (g 0 (by simp))
def bz {a b:AV} (hf:tab f=some ⟨2,n,res,body,none⟩) (hn:2<=n) (h:∀ T:Tm,T.length=n->ad T 0=a->ad T 1=b->WC tab false body T H (uE res Q)):Ans tab (.fn f [a,b]) H Q :=
 nH hf rfl rfl hn fun T hl g=>h T hl (g 0 (by simp)) (g 1 (by simp))
def lU {a b c:AV} (hf:tab f=some ⟨3,n,res,body,none⟩) (hn:3<=n) (h:∀ T:Tm,T.length=n->ad T 0=a->ad T 1=b->ad T 2=c->WC tab false body T H (uE res Q)):Ans tab (.fn f [a,b,c]) H Q :=
 nH hf rfl rfl hn fun T hl g=>h T hl (g 0 (by simp)) (g 1 (by simp)) (g 2 (by simp))
def Or {a b c d:AV} (hf:tab f=some ⟨4,n,res,body,none⟩) (hn:4<=n) (h:∀ T:Tm,T.length=n->ad T 0=a->ad T 1=b->ad T 2=c->ad T 3=d->WC tab false body T H (uE res Q)):Ans tab (.fn f [a,b,c,d]) H Q :=
 nH hf rfl rfl hn fun T hl g=>h T hl (g 0 (by simp)) (g 1 (by simp)) (g 2 (by simp)) (g 3 (by simp))
def Rm {a b:AV} (hf:tab f=some ⟨2,n,res,body,none⟩) (hn:2<=n) (h:∀ T:Tm,T.length=n->ad T 0=a->ad T 1=b->WC tab false body T H (uE res Q)):Ans tab (.ent f [a,b]) H Q :=
 Af hf rfl rfl hn fun T hl g=>h T hl (g 0 (by simp)) (g 1 (by simp))
def RU {a b c:AV} (hf:tab f=some ⟨3,n,res,body,none⟩) (hn:3<=n) (h:∀ T:Tm,T.length=n->ad T 0=a->ad T 1=b->ad T 2=c->WC tab false body T H (uE res Q)):Ans tab (.ent f [a,b,c]) H Q :=
 Af hf rfl rfl hn fun T hl g=>h T hl (g 0 (by simp)) (g 1 (by simp)) (g 2 (by simp))
end
theorem RT (a:AV) (l:List AV):Eg 0 (.tup (a :: l))=some a:=rfl
theorem RS (a b:AV) (l:List AV):Eg 1 (.tup (a :: b :: l))=some b:=rfl
theorem RR (a b c:AV) (l:List AV):Eg 2 (.tup (a :: b :: c :: l))=some c:=rfl
theorem Qq (off b o:Nat):xv off (.ptr b o)=some (.ptr b (o+off)):=rfl
theorem JH (k:Option Nat) (off:Nat) (cs:List AV):CB k off (.agg cs)=cA cs off k:=rfl
theorem N8 (b o:Nat):yC (.ptr b o)=some (.ptr b o):=rfl
theorem P9 (f:Nat) (a c:List AV):yC (.fn (.func f) a c)=some (.fn (.func f) a c):=rfl
def Gq (neg:Bool) (n:Nat):AV->AV->Option AV
 | .agg a,.agg b=>(match n with | 0=>Ek a b | n+1=>pS (n+1) a b).map fun r=>.bool (if neg then !r else r)
 | _,_=>none
def KF {tab:Nat->Option aw} (ev:Src->AV) (H:Heap) (id:Nat) (Q:AV->Heap->Prop) (neg:Bool) (n:Nat) (x y:Src):kW tab ev H id (.eqAgg neg n x y) Q=SC (Gq neg n (ev x) (ev y)) (fun v=>Q v H) ():=by
 rw [bY,dU tab ev H id Q (o:=.eqAgg neg n x y) (v:=Gq neg n (ev x) (ev y)) (fun f a e=>by cases e) (by simp only [aM]; cases ev x <;> cases ev y <;> rfl) rfl]; rfl
def Rf (len size:Nat) (k:Option Nat) (v i:AV):Option AV:=aM (fun s=>match s with | .t 0=>v | _=>i) (.indexAgg len size k (.t 0) (.t 1))
def CU {tab:Nat->Option aw} (ev:Src->AV) (H:Heap) (id:Nat) (Q:AV->Heap->Prop) (len size:Nat) (k:Option Nat) (x i:Src):kW tab ev H id (.indexAgg len size k x i) Q=SC (Rf len size k (ev x) (ev i)) (fun v=>Q v H) ():=by
 rw [bY,dU tab ev H id Q (o:=.indexAgg len size k x i) (v:=Rf len size k (ev x) (ev i)) (fun f a e=>by cases e) (by simp only [aM,Rf]) rfl]; rfl
theorem RN (k:IntKind) (a b:AV):Rf 2 1 none (.agg [a,b]) (.int k 0)=some a:=rfl
theorem RM (k:IntKind) (a b:AV):Rf 2 1 none (.agg [a,b]) (.int k 1)=some b:=rfl
theorem Qs (a b c d:Bool):Gq false 0 (.agg [.bool a,.bool b]) (.agg [.bool c,.bool d])=some (.bool (a == c && b == d)):=rfl
theorem PK (k:IntKind) (n:Int):PL .neg (.int k n)=some (.int k (k.wrap (0-n))):=rfl
section
variable (a b:Nat)
def Kb (x y:Int):bX .add .int (.int .i64 x) (.int .i64 y)=some (.int .i64 (IntKind.i64.wrap (x+y))):=CM _ _ _
def J6 (x y:Int):bX .sub .int (.int .i64 x) (.int .i64 y)=some (.int .i64 (IntKind.i64.wrap (x-y))):=HY _ _ _
def J8 (x y:Int):bX .mul .int (.int .i64 x) (.int .i64 y)=some (.int .i64 (IntKind.i64.wrap (x*y))):=HZ _ _ _
def Ka:bX .add .int (.int .u64 (a:Int)) (.int .u64 (b:Int))=some (.int .u64 (((a+b) % 18446744073709551616:Nat):Int)):=by
 rw [CM,jV]; congr 2
def vI:bX .mul .int (.int .u64 (a:Int)) (.int .u64 (b:Int))=some (.int .u64 (((a*b) % 18446744073709551616:Nat):Int)):=by
 rw [HZ,jV]; congr 2
def vH (h:b<=18446744073709551616):bX .sub .int (.int .u64 (a:Int)) (.int .u64 (b:Int))=some (.int .u64 (((a+18446744073709551616-b) % 18446744073709551616:Nat):Int)):=by
 rw [HY,jV]; congr 2; omega
def GD:bX .and .int (.int .u64 (a:Int)) (.int .u64 4294967295)=some (.int .u64 ((a % 4294967296:Nat):Int)):=by
 have e:(BitVec.ofInt 64 (a:Int) &&& BitVec.ofInt 64 4294967295).toNat=a % 4294967296:=by
  rw [BitVec.toNat_and];have h1:(BitVec.ofInt 64 (a:Int)).toNat=a % 2^64:=by simp
  have h2:(BitVec.ofInt 64 4294967295).toNat=2^32-1:=by decide
  rw [h1,h2,Nat.and_two_pow_sub_one_eq_mod];omega
 show some (AV.int .u64 (IntKind.u64.wrap ((BitVec.ofInt 64 (a:Int) &&& BitVec.ofInt 64 4294967295).toNat:Nat)))=_;rw [e,SA zO zO]
def qU {k:IntKind} (hb:b<64):bX .shr .int (.int .u64 (a:Int)) (.int k (b:Int))=some (.int .u64 ((a / 2^b:Nat):Int)):=by
 show kn .shr .u64 (a:Int) (b:Int)=_;unfold kn;rw [if_neg zO];have h1:Nat.min (b:Int).toNat IntKind.u64.bits=b:=by
  have:IntKind.u64.bits=64:=rfl
  rw [this,W2]; exact V7 zO
 simp only [h1];congr 2;rw [Y2 _ (Wn (Int.pow_pos zO))]
 simp
def J7:bX .shr .int (.int .u64 (a:Int)) (.int .u64 32)=some (.int .u64 ((a / 4294967296:Nat):Int)):=qU a 32 zO
end
theorem FI (T:Tm) (t:Nat) (v:AV) (r:List (Nat × AV)):np T ((t,v) :: r)=np (T.set t v) r:=rfl
theorem IY (T:Tm):np T []=T:=rfl
def lO (v:AV) (w:Bool) (P Q:Prop) (_:Fb P) (_:Fb Q):Prop:=match v with
 | .bool b=>if b=w then P else Q
 | .tup []=>Q
 | _=>False
theorem D7 (b w:Bool) (P Q:Prop):lO (.bool b) w P Q () ()=iteH (b=w) P Q () ():=rfl
theorem Ge (w:Bool) (P Q:Prop):lO (.tup []) w P Q () ()=Q:=rfl
section
variable {tab:Nat->Option aw} {rd:Bool} {T:Tm} {H:Heap}
def Il {Q:Tm->Heap->Prop} {id:Nat} (d:Option Nat) (o:AOp) (t:Nat) (w:Bool) (os:List CT):CR tab id (⟨d,o,some (t,w)⟩ :: os) T H Q =
  lO (ad T t) w (kW tab (Src.ev T) H id o fun v H'=>CR tab (id+1) os (putT T d v) H' Q) (CR tab (id+1) os (putT T d (.tup [])) H Q) () ():=by
 rw [xI,bY];have hw:y6 T (some (t,w))=match ad T t with | .bool b=>some (b == w) | .tup []=>some false | _=>none:=by
  unfold ad;rw [dH];cases h:T[t]? with
  | none=>simp only [y6,h]; rfl
  | some v =>
   simp only [y6,h,Ww];cases v with
   | tup vs=>cases vs <;> rfl
   | _=>rfl
 conv=>lhs; unfold vT
 simp only [hw,lO];cases ad T t with
 | bool b=>cases b <;> cases w <;> rfl
 | tup vs=>cases vs <;> rfl
 | _=>rfl
def Ff {Q:Ex->Tm->Heap->Prop} (ops:List CT):WC tab rd (.region ops) T H Q=P2 H.next (H.up ops.length) (fun id H'=>CR tab id ops T H' (Q .nrm)) ():=Im ops
theorem Gx (P Q:Prop):HQ (.bool true) P Q () ()=P:=rfl
theorem EC (P Q:Prop):HQ (.bool false) P Q () ()=Q:=rfl
end
def Ot (id id1 i n c k:Nat) (body:ACode):ACode :=
 .block id (.loop (.seq (.region [⟨some c,.bin .lss .int (.t i) (.t n),none⟩]) (.seq (.cond (.t c) .skip (.exit id)) (.seq (.block id1 body)
  (.region [⟨some k,.bin .add .int (.t i) (.c (.int .i64 1)),none⟩,⟨some i,.mv (.t k),none⟩])))))
def MJ (id:Nat) (c:ACode):ACode:=.block id (.loop c)
def iw:ACode->Bool
 | .rangeM ..=>false
 | .scopeL ..=>false
 | .seq a b=>iw a && iw b
 | .cond _ a b=>iw a && iw b
 | .block _ a=>iw a
 | .loop a=>iw a
 | .scope a=>iw a
 | _=>true
structure Same (D:List Nat) (T T':Tm):Prop where
 len:T'.length=T.length
 at_:∀ s,s ∉ D->ad T' s=ad T s
def Same.refl (D:List Nat) (T:Tm):Same D T T:=⟨rfl,fun _ _=>rfl⟩
def Same.trans {D D':List Nat} {T T' T'':Tm} (h:Same D T T') (h':Same D' T' T''):Same (D++D') T T'' :=
 ⟨h'.len.trans h.len,fun s hs=>(h'.at_ s fun h1=>hs (Wl _ h1)).trans (h.at_ s fun h1=>hs (VU _ h1))⟩
def Same.wide {D D':List Nat} {T T':Tm} (h:Same D T T') (hd:∀ s,s∈D->s∈D'):Same D' T T':=⟨h.len,fun s hs=>h.at_ s fun h1=>hs (hd s h1)⟩
def kS (T:Tm) (i j:Nat) (v:AV) (h:i≠j):ad (T.set i v) j=ad T j:=by
 unfold ad;rw [dH,dH,Xf];rw [if_neg h]
def Jy (T:Tm) (i j:Nat) (v:AV):ad (T.set i v) j=if i=j then (if i<T.length then v else .undef) else ad T j:=by
 by_cases h:i<T.length
 ·rw [Tx T i j v h]; simp [h]
 ·unfold ad;rw [List.set_eq_of_length_le zO];by_cases hij:i=j
  ·subst hij; rw [dH,VC zO]; simp [h]
  ·simp [hij]
theorem ME:((0:Nat):Int)=0:=rfl
def Same.put (T:Tm) (d:Option Nat) (v:AV):Same d.toList T (putT T d v):=by
 cases d with
 | none=>exact Same.refl _ _
 | some d=>exact ⟨by simp [putT],fun s hs=>kS T d s v fun e=>hs (by simp [e])⟩
def AP {cal:m6}:∀ (os:List CT) (id:Nat) (T:Tm) (H:Heap) (T':Tm) (H':Heap),xu cal id os T H=some (T',H')->Same (HK os) T T'
 | [],id,T,H,T',H',h=>by cases h; exact Same.refl _ _
 | o :: os,id,T,H,T',H',h=>by
  have key:∀ v H1,xu cal (id+1) os (putT T o.dst v) H1=some (T',H')->Same (HK (o :: os)) T T':=fun v H1 h1=>by
   refine ((Same.put T o.dst v).trans (AP os _ _ _ _ _ h1)).wide fun s hs=>?_;unfold HK at hs ⊢;cases hd:o.dst with
   | none=>rw [Zm hd]; simpa [hd] using hs
   | some d=>rw [Zn hd]; simpa [hd] using hs
  unfold xu at h;split at h
  ·split at h
   ·exact key _ _ h
   ·cases h
  ·exact key _ _ h
  ·cases h
def wh:∀ (ds:List jm) (vs:List AV) (T:Tm),Same (ds.filterMap (·.dst)) T (gq T ds vs)
 | [],vs,T=>by cases vs <;> exact Same.refl _ _
 | d :: ds,[],T=>⟨rfl,fun _ _=>rfl⟩
 | d :: ds,v :: vs,T=>by
  refine ((Same.put T d.dst v).trans (wh ds vs _)).wide fun s hs=>?_;cases hd:d.dst with
  | none=>rw [Zm hd]; simpa [hd] using hs
  | some d'=>rw [Zn hd]; simpa [hd] using hs
def AZ {D:List Nat} {body:Tm->Heap->Option (Ex × Tm × Heap)} (hb:∀ T H x T' H',body T H=some (x,T',H')->Same D T T') :
  ∀ (n:Nat) (T:Tm) (H:Heap) (x:Ex) (T':Tm) (H':Heap),yW body n T H=some (x,T',H')->Same D T T'
 | 0,_,_,_,_,_,h=>by cases h
 | n+1,T,H,x,T',H',h=>by
  unfold yW at h;split at h
  ·rename_i T1 H1 h1;exact ((hb _ _ _ _ _ h1).trans (AZ hb n _ _ _ _ _ h)).wide fun s hs=>by simpa using hs
  ·exact hb _ _ _ _ _ h
def dJ {cal:m6} {m:Nat} {rd:Bool}:∀ (c:ACode) (T:Tm) (H:Heap) (x:Ex) (T':Tm) (H':Heap),iw c=true->aI cal m rd c T H=some (x,T',H')->Same (fI c) T T'
 | .skip,T,H,x,T',H',_,h=>by cases h; exact Same.refl _ _
 | .exit _,T,H,x,T',H',_,h=>by cases h; exact Same.refl _ _
 | .goto _,T,H,x,T',H',_,h=>by cases h; exact Same.refl _ _
 | .ret,T,H,x,T',H',_,h=>by cases h; exact Same.refl _ _
 | .region os,T,H,x,T',H',_,h=>by
  simp only [aI] at h;split at h
  ·rename_i h1; cases h; exact AP _ _ _ _ _ _ h1
  ·cases h
 | .draw ds late,T,H,x,T',H',_,h=>by
  simp only [aI] at h;split at h
  ·rename_i h1;cases h;unfold En at h1;split at h1
   ·cases h1
   ·split at h1
    ·cases h1; exact wh _ _ _
    ·cases h1
  ·cases h
 | .drawF ..,T,H,x,T',H',_,h=>by cases h
 | .seq a b,T,H,x,T',H',hp,h=>by
  simp only [iw,Vy] at hp;simp only [aI] at h;split at h
  ·rename_i T1 H1 h1;exact (dJ a _ _ _ _ _ hp.1 h1).trans (dJ b _ _ _ _ _ hp.2 h)
  ·exact (dJ a _ _ _ _ _ hp.1 h).wide fun s hs=>VU _ hs
 | .cond c a b,T,H,x,T',H',hp,h=>by
  simp only [iw,Vy] at hp;simp only [aI] at h;split at h
  ·exact (dJ a _ _ _ _ _ hp.1 h).wide fun s hs=>VU _ hs
  ·exact (dJ b _ _ _ _ _ hp.2 h).wide fun s hs=>Wl _ hs
  ·cases h
 | .block id a,T,H,x,T',H',hp,h=>by
  simp only [aI] at h;split at h
  ·rename_i h1;split at h
   ·cases h; exact dJ a _ _ _ _ _ hp h1
   ·cases h; exact dJ a _ _ _ _ _ hp h1
  ·exact dJ a _ _ _ _ _ hp h
 | .loop a,T,H,x,T',H',hp,h=>by
  simp only [aI] at h;exact AZ (fun T H x T' H' h1=>dJ a _ _ _ _ _ hp h1) _ _ _ _ _ _ h
 | .scope a,T,H,x,T',H',hp,h=>by
  simp only [aI] at h;split at h
  ·cases h
  ·exact dJ a _ _ _ _ _ hp h
 | .rangeFunc f ps asg body,T,H,x,T',H',_,h=>by
  have:T'=T:=by
   simp only [aI] at h;split at h
   ·cases h
   ·split at h
    ·split at h
     ·split at h
      ·cases h; rfl
      ·split at h <;> first | (cases h; rfl) | cases h
      ·cases h
     ·cases h
    ·cases h
  subst this; exact Same.refl _ _
 | .rangeM ..,T,H,x,T',H',hp,h=>by cases hp
 | .scopeL ..,T,H,x,T',H',hp,h=>by cases hp
def WB (tab:Nat->Option aw) (rd:Bool) (c:ACode) (T:Tm) (H:Heap) (Q:Ex->Tm->Heap->Prop):Prop:=∃ x T' H',M4 tab rd c T H x T' H'/\Q x T' H'
section
variable {tab:Nat->Option aw} {rd:Bool}
def WC.wb {c:ACode} {T:Tm} {H:Heap} {Q:Ex->Tm->Heap->Prop} (h:WC tab rd c T H Q):WB tab rd c T H Q:=eC c T H Q h.run
def WB.same {c:ACode} {T:Tm} {H:Heap} {Q:Ex->Tm->Heap->Prop} (h:WB tab rd c T H Q) (hp:iw c=true):WB tab rd c T H fun x T' H'=>Same (fI c) T T'/\Q x T' H':=by
 obtain ⟨x,T',H',⟨N,g⟩,hq⟩:=h;exact ⟨x,T',H',⟨N,g⟩,dJ c _ _ _ _ _ hp (g N N (wT _) (wT _)),hq⟩
def WB.mono {c:ACode} {T:Tm} {H:Heap} {Q Q':Ex->Tm->Heap->Prop} (h:WB tab rd c T H Q) (hq:∀ x T' H',Q x T' H'->Q' x T' H'):WB tab rd c T H Q':=by
 obtain ⟨x,T',H',hb,h⟩:=h;exact ⟨x,T',H',hb,hq _ _ _ h⟩
def xP {a b:ACode} {T:Tm} {H:Heap} {Q:Ex->Tm->Heap->Prop} (h:WB tab rd a T H fun x T' H'=>match x with | .nrm=>WB tab rd b T' H' Q | x=>Q x T' H'):WB tab rd (.seq a b) T H Q:=by
 obtain ⟨x,T1,H1,⟨N1,g1⟩,h1⟩:=h;by_cases hx:x=.nrm
 ·subst hx;obtain ⟨y,T2,H2,⟨N2,g2⟩,h2⟩:=h1;refine ⟨y,T2,H2,⟨N1+N2,fun m n hm hn=>?_⟩,h2⟩;simp only [aI,g1 m n zO zO];exact g2 m n zO zO
 ·refine ⟨x,T1,H1,⟨N1,fun m n hm hn=>?_⟩,?_⟩
  ·simp only [aI,g1 m n hm hn]
   all_goals (cases x <;> first | rfl | exact absurd rfl hx)
  ·cases x <;> first | exact h1 | exact absurd rfl hx
def NE {c:Src} {a b:ACode} {T:Tm} {H:Heap} {Q:Ex->Tm->Heap->Prop} {v:Bool} (hc:c.ev T=.bool v) (h:if v=true then WB tab rd a T H Q else WB tab rd b T H Q):WB tab rd (.cond c a b) T H Q:=by
 cases v with
 | true =>
  obtain ⟨x,T1,H1,⟨N1,g1⟩,h1⟩:=h;exact ⟨x,T1,H1,⟨N1,fun m n hm hn=>by simp only [aI,hc]; exact g1 m n hm hn⟩,h1⟩
 | false =>
  obtain ⟨x,T1,H1,⟨N1,g1⟩,h1⟩:=h;exact ⟨x,T1,H1,⟨N1,fun m n hm hn=>by simp only [aI,hc]; exact g1 m n hm hn⟩,h1⟩
def KU {id:Nat} {a:ACode} {T:Tm} {H:Heap} {Q:Ex->Tm->Heap->Prop} (h:WB tab rd a T H (sD id Q)):WB tab rd (.block id a) T H Q:=by
 obtain ⟨x,T1,H1,⟨N1,g1⟩,h1⟩:=h;cases x with
 | exit id' =>
  simp only [sD] at h1;by_cases hi:id'=id
  ·rw [if_pos hi] at h1;exact ⟨.nrm,T1,H1,⟨N1,fun m n hm hn=>by simp only [aI,g1 m n hm hn,if_pos hi]⟩,h1⟩
  ·rw [if_neg hi] at h1;exact ⟨.exit id',T1,H1,⟨N1,fun m n hm hn=>by simp only [aI,g1 m n hm hn,if_neg hi]⟩,h1⟩
 | nrm=>exact ⟨_,T1,H1,⟨N1,fun m n hm hn=>by simp only [aI,g1 m n hm hn]⟩,h1⟩
 | goto l=>exact ⟨_,T1,H1,⟨N1,fun m n hm hn=>by simp only [aI,g1 m n hm hn]⟩,h1⟩
 | ret=>exact ⟨_,T1,H1,⟨N1,fun m n hm hn=>by simp only [aI,g1 m n hm hn]⟩,h1⟩
def NC {T:Tm} {H:Heap} {Q:Ex->Tm->Heap->Prop} (h:Q .nrm T H):WB tab rd .skip T H Q:=⟨.nrm,T,H,⟨0,fun _ _ _ _=>rfl⟩,h⟩
def ND {i:Nat} {T:Tm} {H:Heap} {Q:Ex->Tm->Heap->Prop} (h:Q (.exit i) T H):WB tab rd (.exit i) T H Q:=⟨.exit i,T,H,⟨0,fun _ _ _ _=>rfl⟩,h⟩
def BM {body:ACode} {Q:Ex->Tm->Heap->Prop} (Inv:Nat->Tm->Heap->Prop)
  (hr:∀ k T H,Inv k T H->WB tab rd body T H (F2 Inv k Q)):∀ (k:Nat) (T:Tm) (H:Heap),Inv k T H->WB tab rd (.loop body) T H Q:=by
 have key:∀ (k:Nat) (T:Tm) (H:Heap),Inv k T H->∃ x T' H',Q x T' H'/\∃ N,∀ m n j,N<=m->N<=n->N<=j->yW (aI (kD tab eS m n) m rd body) j T H=some (x,T',H'):=by
  intro k
  induction k using Nat.strongRecOn with
  | _ k ih =>
   intro T H hI;obtain ⟨x,T1,H1,⟨N1,g1⟩,h1⟩:=hr k T H hI;by_cases hx:x=.nrm
   ·subst hx;obtain ⟨k',hk,hI'⟩:=h1;obtain ⟨y,T2,H2,hq,N2,g2⟩:=ih k' hk T1 H1 hI';refine ⟨y,T2,H2,hq,N1+N2+1,fun m n j hm hn hj=>?_⟩;obtain ⟨j',rfl⟩:∃ j',j=j'+1:=⟨j-1,zO⟩
    unfold yW;rw [g1 m n zO zO];exact g2 m n j' zO zO zO
   ·refine ⟨x,T1,H1,by cases x <;> first | exact h1 | exact absurd rfl hx,N1+1,fun m n j hm hn hj=>?_⟩;obtain ⟨j',rfl⟩:∃ j',j=j'+1:=⟨j-1,zO⟩
    unfold yW;rw [g1 m n zO zO];cases x <;> first | rfl | exact absurd rfl hx
 intro k T H hI;obtain ⟨x,T',H',hq,N,g⟩:=key k T H hI;exact ⟨x,T',H',⟨N,fun m n hm hn=>g m n m hm hn hm⟩,hq⟩
def WB.wcLoop {id:Nat} {body:ACode} {T:Tm} {H:Heap} {Q:Ex->Tm->Heap->Prop} (h:WB tab rd (.loop body) T H (sD id Q)):WC tab rd (.block id (.loop body)) T H Q:=by
 rw [CV];exact ⟨h⟩
def JG (id id1:Nat) (P:Tm->Heap->Prop) (Q:Ex->Tm->Heap->Prop) (x:Ex) (T:Tm) (H:Heap):Prop:=match x with
 | .nrm=>P T H
 | .exit e=>if e=id1 then P T H else if e=id then Q .nrm T H else Q (.exit e) T H
 | x=>Q x T H
section
variable {id id1:Nat} {P:Tm->Heap->Prop} {Q:Ex->Tm->Heap->Prop} {T:Tm} {H:Heap}
theorem Mi:JG id id1 P Q .nrm T H=P T H:=rfl
theorem Mh:JG id id1 P Q .ret T H=Q .ret T H:=rfl
theorem JE (l:Nat):JG id id1 P Q (.goto l) T H=Q (.goto l) T H:=rfl
theorem JF (e:Nat):JG id id1 P Q (.exit e) T H=iteH (e=id1) (P T H) (iteH (e=id) (Q .nrm T H) (Q (.exit e) T H) () ()) () ():=rfl
end
def O4 (L i n c k:Nat) (D live:List Nat):Bool :=
 decide (i<L) && decide (n<L) && decide (c<L) && decide (k<L) && i != n && i != c && i != k && n != c && n != k && c != k && !D.contains i && !D.contains n && live.all fun s=>s != i && s != c && s != k
def am {id id1 i n c k:Nat} {body:ACode} {T:Tm} {H:Heap} {Q:Ex->Tm->Heap->Prop} {L a N:Nat} (H0:Heap) (live:List Nat) (P:Nat->List AV->Heap->Prop)
  (hl:T.length=L) (ha:ad T i=.int .i64 (a:Int)) (hn:ad T n=.int .i64 (N:Int)) (haN:a<=N) (hN:N<9223372036854775807) (hok:O4 L i n c k (fI body) live=true) (hp:iw body=true)
  (hup:∀ j vs H m,P j vs H->P j vs (H.up m))
  (hk0:Kp H0 H) (h0:P a (live.map (ad T)) H)
  (hb:∀ j T1 H1,a<=j->j<N->T1.length=L->ad T1 i=.int .i64 (j:Int)->Same (i :: c :: k :: fI body) T T1->Kp H0 H1->P j (live.map (ad T1)) H1 ->
   WC tab rd body T1 H1 (JG id id1 (fun T2 H2=>Kp H0 H2/\P (j+1) (live.map (ad T2)) H2) Q))
  (he:∀ T1 H1,T1.length=L->Same (i :: c :: k :: fI body) T T1->Kp H0 H1->P N (live.map (ad T1)) H1->Q .nrm T1 H1) :
  WC tab rd (Ot id id1 i n c k body) T H Q:=by
 have hok':=hok;simp only [O4,Vy,decide_eq_true_eq,bne_iff_ne,ne_eq,V3,Vq] at hok;obtain ⟨⟨⟨⟨⟨⟨⟨⟨⟨⟨⟨⟨o1,o2⟩,o3⟩,o4⟩,o5⟩,o6⟩,o7⟩,o8⟩,o9⟩,o10⟩,o11⟩,o12⟩,o13⟩:=hok;have hDi:i ∉ fI body:=fun h=>by rw [WP.2 h] at o11; cases o11
 have hDn:n ∉ fI body:=fun h=>by rw [WP.2 h] at o12; cases o12
 have hnS:n ∉ i :: c :: k :: fI body:=by
  simp only [Vt,not_or]; exact ⟨fun h=>o5 h.symm,o8,o9,hDn⟩
 have hlive:∀ {T1 T2:Tm},(∀ s,s≠i->s≠c->s≠k->ad T2 s=ad T1 s)->live.map (ad T2)=live.map (ad T1):=fun h=>by
  refine WN fun s hs=>?_;obtain ⟨⟨q1,q2⟩,q3⟩:=o13 s hs;exact h s q1 q2 q3
 unfold Ot;refine WB.wcLoop ?_;refine BM (fun r T1 H1=>∃ j,r=N-j/\a<=j/\j<=N/\T1.length=L/\ad T1 i=.int .i64 (j:Int)/\Same (i :: c :: k :: fI body) T T1/\Kp H0 H1/\P j (live.map (ad T1)) H1) ?_ (N-a) T H ⟨a,rfl,wT _,haN,hl,ha,Same.refl _ _,hk0,h0⟩;rintro r T1 H1 ⟨j,rfl,haj,hjN,hl1,hi1,hs1,hk1,hP1⟩;have hn1:ad T1 n=.int .i64 (N:Int):=(hs1.at_ n hnS).trans hn;refine xP (WC.wb ?_);rw [Ff];simp only [B4,xL,BD,Fg,Qr,hi1,hn1,Ia,uH,iD];have hk2:Kp H0 (H1.up 1):=hk1.up 1;have hP2:P j (live.map (ad (T1.set c (.bool (decide ((j:Int)<(N:Int))))))) (H1.up 1):=by
  rw [hlive (T1:=T1) fun s q1 q2 q3=>kS _ _ _ _ (Ne.symm q2)];exact hup _ _ _ _ hP1
 have hs2:Same (i :: c :: k :: fI body) T (T1.set c (.bool (decide ((j:Int)<(N:Int))))) :=
  (hs1.trans (Same.put T1 (some c) (.bool (decide ((j:Int)<(N:Int)))))).wide fun s hs=>by
   rcases Vf.1 hs with hs | hs
   ·exact hs
   ·simp only [Y3,Vh] at hs; subst hs; simp
 have hl2:(T1.set c (.bool (decide ((j:Int)<(N:Int))))).length=L:=by simp [hl1]
 have hi2:ad (T1.set c (.bool (decide ((j:Int)<(N:Int))))) i=.int .i64 (j:Int):=by rw [kS _ _ _ _ (Ne.symm o6)]; exact hi1
 have hc2:ad (T1.set c (.bool (decide ((j:Int)<(N:Int))))) c=.bool (decide ((j:Int)<(N:Int))):=by
  rw [Tx _ _ _ _ zO,if_pos rfl]
 generalize hT2:T1.set c (.bool (decide ((j:Int)<(N:Int))))=T2 at hP2 hs2 hl2 hi2 hc2 ⊢
 refine xP (NE (v:=decide ((j:Int)<(N:Int))) hc2 ?_);by_cases hj:j<N
 ·have e1:decide ((j:Int)<(N:Int))=true:=by simp; omega
  rw [if_pos e1];refine NC ?_;refine xP (KU ?_);refine (((hb j T2 (H1.up 1) haj hj hl2 hi2 hs2 hk2 hP2).wb).same hp).mono ?_;rintro x T3 H3 ⟨hs3,hq⟩;have fin:Kp H0 H3/\P (j+1) (live.map (ad T3)) H3->WB tab rd (.region [⟨some k,.bin .add .int (.t i) (.c (.int .i64 1)),none⟩,⟨some i,.mv (.t k),none⟩]) T3 H3 (F2 (fun r T1 H1=>∃ j,r=N-j/\a<=j/\j<=N/\T1.length=L/\ad T1 i=.int .i64 (j:Int)/\Same (i :: c :: k :: fI body) T T1/\Kp H0 H1/\P j (live.map (ad T1)) H1) (N-j) (sD id Q)):=by
   rintro ⟨hk3,hP3⟩;have hi3:ad T3 i=.int .i64 (j:Int):=(hs3.at_ i hDi).trans hi2;have hl3:T3.length=L:=hs3.len.trans hl2;have hwr:IntKind.i64.wrap ((j:Int)+1)=((j+1:Nat):Int):=by rw [wrap_i64 zO zO]; simp
   refine WC.wb ?_;rw [Ff];simp only [B4,xL,BD,Fg,OT,GT,Qr,Rl,hi3,CM,uH,iD,hwr];rw [Tx _ _ _ _ zO,if_pos rfl,DL];refine ⟨N-(j+1),zO,j+1,rfl,zO,zO,by simp [hl3],?_,?_,hk3.up _,?_⟩
   ·rw [Tx _ _ _ _ zS,if_pos rfl]
   ·refine ((hs2.trans hs3).trans ((Same.put T3 (some k) _).trans (Same.put _ (some i) _))).wide fun s hs=>?_;rcases Vf.1 hs with hs | hs
    ·rcases Vf.1 hs with hs | hs
     ·exact hs
     ·exact Ct _ (Ct _ (Ct _ hs))
    ·rcases Vf.1 hs with hs | hs
     ·simp only [Y3,Vh] at hs; subst hs; simp
     ·simp only [Y3,Vh] at hs; subst hs; simp
   ·rw [hlive (T1:=T3) fun s q1 q2 q3=>by rw [kS _ _ _ _ (Ne.symm q1),kS _ _ _ _ (Ne.symm q3)]];exact hup _ _ _ _ hP3
  cases x with
  | nrm=>exact fin hq
  | exit e =>
   simp only [JG] at hq;simp only [sD];by_cases h1:e=id1
   ·rw [if_pos h1] at hq ⊢; exact fin hq
   ·rw [if_neg h1] at hq ⊢;simp only [F2,sD]; exact hq
  | goto l=>exact hq
  | ret=>exact hq
 ·have e1:decide ((j:Int)<(N:Int))=false:=by simp; omega
  have:j=N:=zO
  subst this;rw [if_neg (by rw [e1]; simp)];refine ND ?_;show sD id Q (.exit id) T2 (H1.up 1);simp only [sD,if_pos];exact he T2 (H1.up 1) hl2 hs2 hk2 hP2
def PA (id:Nat) (P:Tm->Heap->Prop) (Q:Ex->Tm->Heap->Prop) (x:Ex) (T:Tm) (H:Heap):Prop:=match x with
 | .nrm=>P T H
 | .exit e=>if e=id then Q .nrm T H else Q (.exit e) T H
 | x=>Q x T H
section
variable {id:Nat} {P:Tm->Heap->Prop} {Q:Ex->Tm->Heap->Prop} {T:Tm} {H:Heap}
theorem Ny:PA id P Q .nrm T H=P T H:=rfl
theorem Nx:PA id P Q .ret T H=Q .ret T H:=rfl
theorem KQ (l:Nat):PA id P Q (.goto l) T H=Q (.goto l) T H:=rfl
theorem KR (e:Nat):PA id P Q (.exit e) T H=iteH (e=id) (Q .nrm T H) (Q (.exit e) T H) () ():=rfl
end
def bC {id:Nat} {c:ACode} {T:Tm} {H:Heap} {Q:Ex->Tm->Heap->Prop} {L:Nat} (H0:Heap) (live:List Nat) (P:Nat->List AV->Heap->Prop) (k0:Nat)
  (hl:T.length=L) (hp:iw c=true) (hk0:Kp H0 H) (h0:P k0 (live.map (ad T)) H)
  (hb:∀ k T1 H1,T1.length=L->Same (fI c) T T1->Kp H0 H1->P k (live.map (ad T1)) H1->WC tab rd c T1 H1 (PA id (fun T2 H2=>Kp H0 H2/\∃ k',k'<k/\P k' (live.map (ad T2)) H2) Q)):WC tab rd (MJ id c) T H Q:=by
 unfold MJ;refine WB.wcLoop ?_;refine BM (fun k T1 H1=>T1.length=L/\Same (fI c) T T1/\Kp H0 H1/\P k (live.map (ad T1)) H1) ?_ k0 T H ⟨hl,Same.refl _ _,hk0,h0⟩;rintro k T1 H1 ⟨hl1,hs1,hk1,hP1⟩;refine ((hb k T1 H1 hl1 hs1 hk1 hP1).wb.same hp).mono ?_;rintro x T2 H2 ⟨hs2,hq⟩;cases x with
 | nrm =>
  obtain ⟨hk2,k',hk',hP2⟩:=hq;exact ⟨k',hk',hs2.len.trans hl1,(hs1.trans hs2).wide fun s hs=>by simpa using hs,hk2,hP2⟩
 | exit e=>exact hq
 | goto l=>exact hq
 | ret=>exact hq
end
def RL (e:Option Ent) (k:Option Nat) (o:Nat):Option AV:=match e with
 | some (.cells cs _ _)=>cA cs o k
 | _=>none
def Qf (H:Heap) (k:Option Nat) (b o:Nat):aW H k (.ptr b o)=RL (H.get b) k o:=by
 simp only [aW,RL];cases H.get b with
 | none=>rfl
 | some e=>cases e <;> rfl
theorem Ju (cs:List AV) (ty:Nat) (rw:Bool) (k:Option Nat) (o:Nat):RL (some (.cells cs ty rw)) k o=cA cs o k:=rfl
def Db (e:Option Ent) (n o:Nat) (v:AV):Option Ent:=match e with
 | some (.cells cs ty true)=>if v.cells.length=n/\o+n<=cs.length/\v.cells.all AV.one=true then some (.cells (cs.take o++v.cells++cs.drop (o+n)) ty true) else none
 | _=>none
def PR (H:Heap) (n b o:Nat) (v:AV):S2 H n (.ptr b o) v=(Db (H.get b) n o v).map fun e=>H.put b e:=by
 simp only [S2,Db];split
 ·rename_i cs ty h;simp only [h];split <;> rfl
 ·rename_i h;split
  ·rename_i cs ty hg;exact absurd hg (h cs ty)
  ·rfl
def fits (v:AV) (n:Nat) (cs:List AV):Prop:=v.cells=cs/\cs.length=n/\cs.all AV.one=true
def iN {cs vs:List AV} {ty n o:Nat} {v:AV} (h:fits v n vs) (ho:o+n<=cs.length):Db (some (.cells cs ty true)) n o v=some (.cells (cs.take o++vs++cs.drop (o+n)) ty true):=by
 obtain ⟨rfl,h2,h3⟩:=h;simp only [Db];rw [if_pos ⟨h2,ho,h3⟩]
theorem Jl {α β:Type} (f:α->β) (a:α):(some a).map f=some (f a):=rfl
theorem Sd (a:AV) (l:List AV):cA (a :: l) 0 none=some a:=rfl
theorem Sc (a b:AV) (l:List AV):cA (a :: b :: l) 1 none=some b:=rfl
theorem Sb (a b c:AV) (l:List AV):cA (a :: b :: c :: l) 2 none=some c:=rfl
theorem RD (a b:AV):cA [a,b] 0 (some 2)=some (.agg [a,b]):=rfl
theorem RC (a b c:AV):cA [a,b,c] 0 (some 3)=some (.agg [a,b,c]):=rfl
def One (v:AV):Prop:=v.cells=[v]/\v.one=true
def One.fits {v:AV} (h:One v):fits v 1 [v]:=⟨h.1,rfl,by simp [h.2]⟩
def aQ (b:Bool):One (.bool b):=⟨rfl,rfl⟩
def bf (k:IntKind) (n:Int):One (.int k n):=⟨rfl,rfl⟩
def cz (f:Fn) (a b:List AV):One (.fn f a b):=⟨rfl,rfl⟩
def bF (b o:Nat):One (.ptr b o):=⟨rfl,rfl⟩
def bp:One .nilSl:=⟨rfl,rfl⟩
def bo (b o n c z:Nat) (x:Bool):One (.own b o n c z x):=⟨rfl,rfl⟩
def cJ (cs:List AV) (n:Nat):One (.sl cs n):=⟨rfl,rfl⟩
def bH (b:Nat):One (.map b):=⟨rfl,rfl⟩
def Rd.one {H:Heap} {sz:Nat} {v:AV} {cells:List AV} (h:Rd H sz v cells):One v:=by
 obtain ⟨-,h1,n,hn,-⟩:=h;cases v <;> first | exact ⟨rfl,rfl⟩ | exact absurd rfl (h1 _) | (simp [gP] at hn; done)
def MI {v:AV} (h:One v):fZ v=some [v]:=by
 unfold fZ; rw [h.1]; simp [h.2]
def Ee {a b:AV} (ha:One a) (hb:One b):fits (.agg [a,b]) 2 [a,b]:=⟨rfl,rfl,by simp [ha.2,hb.2]⟩
def O8 {a b:AV} (ha:One a) (hb:One b):fZ (.agg [a,b])=some [a,b]:=by
 simp [fZ,AV.cells,ha.2,hb.2]
def Qy {x y a b:AV} (ha:One a) (hb:One b):ia [x,y] [((0,1),a),((1,1),b)]=some (.agg [a,b]):=by
 simp [ia,cX,ha.1,ha.2,hb.1,hb.2]
def Rk {x a:AV} (ha:One a):cX [x] [((0,1),a)]=some [a]:=by simp [cX,ha.1,ha.2]
def Rj {x y a b:AV} (ha:One a) (hb:One b):cX [x,y] [((0,1),a),((1,1),b)]=some [a,b]:=by simp [cX,ha.1,ha.2,hb.1,hb.2]
def RF {cs:List AV} {ty o:Nat} {v:AV} (h:One v):Db (some (.cells cs ty true)) 1 o v=if o<cs.length then some (.cells (cs.set o v) ty true) else none:=by
 simp only [Db,h.1];by_cases ho:o<cs.length
 ·rw [if_pos ⟨rfl,zO,by simp [h.2]⟩,if_pos ho];congr 2;rw [Xz,if_pos ho]
  simp
 ·rw [if_neg (fun h=>ho (by have:=h.2.1; omega)),if_neg ho]
def RE {x y a b:AV} {ty:Nat} (ha:One a) (hb:One b):Db (some (.cells [x,y] ty true)) 2 0 (.agg [a,b])=some (.cells [a,b] ty true):=by
 simp [Db,AV.cells,ha.2,hb.2]
def Ri {x y z a b c:AV} (ha:One a) (hb:One b) (hc:One c):cX [x,y,z] [((0,1),a),((1,1),b),((2,1),c)]=some [a,b,c]:=by simp [cX,ha.1,ha.2,hb.1,hb.2,hc.1,hc.2]
def Qm {p q r t a b c d:AV} (ha:One a) (hb:One b) (hc:One c) (hd:One d):cX [p,q,r,t] [((0,2),.agg [a,b]),((2,2),.agg [c,d])]=some [a,b,c,d]:=by
 simp [cX,AV.cells,ha.2,hb.2,hc.2,hd.2]
def Qo {p q a b:AV} (ha:One a) (hb:One b):cX [p,q] [((0,2),.agg [a,b])]=some [a,b]:=by
 simp [cX,AV.cells,ha.2,hb.2]
theorem Qz (z:List AV):ia z []=some (.agg z):=rfl
def Qi {H H':Heap} {b:Nat} {e:Ent} (h1:H.next<=b) (h2:b<H'.next):Kp H (H'.put b e) ↔ Kp H H':=by
 refine ⟨fun h=>⟨h.wf0,fun c e' hc=>?_,h.le,fun c hc=>?_⟩,fun h=>h.put h1 h2⟩
 ·by_cases hb:c=b
  ·rw [hb]; exact h2
  ·exact h.wf c e' (by rw [az hb]; exact hc)
 ·have:=h.same c hc
  rwa [az zO] at this
def aP {H:Heap} {b:Nat} {e:Ent} (h:H.get b=none):Sub H (H.put b e):=(Sub.refl H).put h e
def Ok {H H':Heap} {b:Nat} (h1:H.next<=b) (h:Kp H H'):Kp H (H'.kill b) ↔ True:=⟨fun _=>trivial,fun _=>h.kill h1⟩
def Ra {H H':Heap} {k:Nat} (h:Kp H H'):Kp H (H'.up k) ↔ True:=⟨fun _=>trivial,fun _=>h.up k⟩
def Qh {H:Heap} {k:Nat} (h:Wf H):Kp H (H.up k) ↔ True:=⟨fun _=>trivial,fun _=>(Kp.refl h).up k⟩
def Oj {H:Heap} (h:Wf H):Kp H H ↔ True:=⟨fun _=>trivial,fun _=>Kp.refl h⟩
def PB {H:Heap} {b:Nat} {e:Ent} (h2:b<H.next):Wf (H.put b e) ↔ Wf H:=by
 refine ⟨fun h c e' hc=>?_,fun h=>h.put h2 e⟩;by_cases hb:c=b
 ·rw [hb]; exact h2
 ·exact h c e' (by rw [az hb]; exact hc)
def QQ {H:Heap} {k:Nat} (h:Wf H):Wf (H.up k) ↔ True:=⟨fun _=>trivial,fun _=>h.bump k⟩
def Nz {H:Heap} {b:Nat} (h:Wf H):Wf (H.kill b) ↔ True:=⟨fun _=>trivial,fun _=>h.kill b⟩
structure Ldd (H:Heap) (k:Option Nat) (p w:AV):Prop where
 ld:aW H k p=some w
 put:∀ H' b e,H.next<=b->aW (H'.put b e) k p=aW H' k p
 kill:∀ H' b,H.next<=b->aW (H'.kill b) k p=aW H' k p
theorem L6 (H:Heap) (m:Nat) (k:Option Nat) (p:AV):aW (H.up m) k p=aW H k p:=rfl
def bJ {H H':Heap} (h:Sub H H') {k:Option Nat} {p w:AV} (hl:aW H k p=some w):aW H' k p=some w:=by
 unfold aW at hl ⊢;split at hl
 ·split at hl
  ·rename_i hb;rw [h.get _ _ hb]; exact hl
  ·cases hl
 ·exact hl
 ·cases hl
def Ldd.of {H:Heap} (hw:Wf H) {k:Option Nat} {p w:AV} (h:aW H k p=some w):Ldd H k p w:=by
 refine ⟨h,fun H' b e hb=>?_,fun H' b hb=>?_⟩
 all_goals
  cases p with
  | ptr c o =>
   have:c<H.next:=by
    simp only [aW] at h;split at h
    ·rename_i hc; exact hw c _ hc
    ·cases h
   simp only [aW]
   first | rw [az zO] | rw [dg zO]
  | _=>rfl
def Ldd.mono {H H':Heap} (h:Kp H H') {k:Option Nat} {p w:AV} (hl:Ldd H k p w):Ldd H' k p w:=Ldd.of h.wf (bJ h.sub hl.ld)
def SubT (tys:List Nat) (H H':Heap):Prop:=∀ b cs t r,t∈tys->H.get b=some (.cells cs t r)->H'.get b=some (.cells cs t r)
def Sub.t {H H':Heap} (h:Sub H H') (tys:List Nat):SubT tys H H':=fun b cs t r _ hb=>h.get b _ hb
def SubT.of {tys tys':List Nat} {H H':Heap} (h:SubT tys H H') (hs:∀ t,t∈tys'->t∈tys):SubT tys' H H':=fun b cs t r ht hb=>h b cs t r (hs t ht) hb
def RV (H:Heap) (ty:Nat) (v:AV):Prop:=∀ b off n c z x,v=.own b off n c z x->∃ cs r,H.get b=some (.cells cs ty r)
structure fh (α:Type) where
 sz:Nat
 tys:List Nat
 R:Heap->List AV->α->Prop
 pos:0<sz
 len:∀ {H cs a},R H cs a->cs.length=sz/\cs.all AV.one=true
 mono:∀ {H H' cs a},SubT tys H H'->R H cs a->R H' cs a
variable {α:Type}
def Cells (E:fh α) (H:Heap) (cells:List AV) (l:List α):Prop:=cells.length=l.length*E.sz/\∀ i a,l[i]? = some a->E.R H ((cells.drop (i*E.sz)).take E.sz) a
def SlV (E:fh α) (ty:Nat) (H:Heap) (v:AV) (l:List α):Prop:=∃ cells,Rd H E.sz v cells/\RV H ty v/\Cells E H cells l
def Cells.mono {E:fh α} {H H':Heap} (h:SubT E.tys H H') {cells:List AV} {l:List α} (hc:Cells E H cells l):Cells E H' cells l:=⟨hc.1,fun i a hi=>E.mono h (hc.2 i a hi)⟩
def SlV.monoT {E:fh α} {ty:Nat} {H H':Heap} (h:SubT (ty :: E.tys) H H') {v:AV} {l:List α} (hs:SlV E ty H v l):SlV E ty H' v l:=by
 obtain ⟨cells,⟨h0,h1,n,h2,h3⟩,ht,hc⟩:=hs;refine ⟨cells,⟨h0,h1,n,h2,?_⟩,fun b off n c z x e=>?_,hc.mono (h.of fun t ht=>Ct _ ht)⟩
 ·unfold aL at h3 ⊢;split at h3
  ·rename_i b off n' c sz ex;obtain ⟨cs,r,hb⟩:=ht b off _ c sz ex rfl;rw [hb] at h3;rw [h b cs ty r (N0 ..) hb]; exact h3
  ·exact h3
  ·exact h3
  ·exact h3
  ·cases h3
 ·obtain ⟨cs,r,hb⟩:=ht b off n c z x e;exact ⟨cs,r,h b cs ty r (N0 ..) hb⟩
def SlV.mono {E:fh α} {ty:Nat} {H H':Heap} (h:Sub H H') {v:AV} {l:List α} (hs:SlV E ty H v l):SlV E ty H' v l:=hs.monoT (h.t _)
def SlV.one {E:fh α} {ty:Nat} {H:Heap} {v:AV} {l:List α} (hs:SlV E ty H v l):One v:=by
 obtain ⟨cells,h1,h2⟩:=hs; exact h1.one
def SlV.nil (E:fh α) (ty:Nat) (H:Heap):SlV E ty H .nilSl []:=⟨[],Rd.nil H E.sz,(fun _ _ _ _ _ _ e=>by cases e),by simp,fun i a h=>by simp at h⟩
def SlV.lenV {E:fh α} {ty:Nat} {H:Heap} {v:AV} {l:List α} (hs:SlV E ty H v l):lenV v=some (.int .i64 (l.length:Int)):=by
 obtain ⟨cells,h1,-,h2⟩:=hs;exact Hv h1 h2.1 E.pos
def SlV.idx {E:fh α} {ty:Nat} {H:Heap} {v:AV} {l:List α} (hs:SlV E ty H v l) (k:IntKind) (i:Nat) (hi:i<l.length):co E.sz v (.int k (i:Int))=some (ap v (i*E.sz)):=by
 obtain ⟨cells,h1,-,h2⟩:=hs
 have:=E.pos
 refine Oo h1 ?_ E.pos;rw [h2.1,<- WF];exact Ji _ hi
def JI {H:Heap} {sz:Nat} {v:AV} {cells:List AV} (h:Rd H sz v cells) (hne:cells≠[]) (off o:Nat):xv off (ap v o)=some (ap v (o+off)):=by
 obtain ⟨-,h1,n,hn,hf⟩:=h;cases v with
 | own b f m c s e=>simp [ap,xv,V2]
 | sl cs m=>simp [ap,xv]
 | nilSl =>
  simp only [aL] at hf;split at hf
  ·cases hf; exact absurd rfl hne
  ·cases hf
 | str s=>exact absurd rfl (h1 _)
 | _=>simp [gP] at hn
def SlV.fa {E:fh α} {ty:Nat} {H:Heap} {v:AV} {l:List α} (hs:SlV E ty H v l) (hne:0<l.length) (off o:Nat):xv off (ap v o)=some (ap v (o+off)):=by
 obtain ⟨cells,h1,-,h2⟩:=hs;refine JI h1 (fun h=>?_) off o
 have:=h2.1
 rw [h] at this
 have:=Zh hne E.pos
 simp at *;omega
def SlV.at {E:fh α} {ty:Nat} {H:Heap} {v:AV} {l:List α} (hs:SlV E ty H v l) {i:Nat} {a:α} (hi:l[i]? = some a):∃ cs,E.R H cs a/\cs.length=E.sz/\(∀ j c,cs[j]? = some c->aW H none (ap v (i*E.sz+j))=some c)/\aW H (some E.sz) (ap v (i*E.sz))=some (.agg cs):=by
 obtain ⟨cells,h1,-,h2⟩:=hs;have hlt:i<l.length:=(I6.1 hi).1;have hle:i*E.sz+E.sz<=cells.length:=by rw [h2.1,<- WF]; exact Ji _ hlt
 have:=E.pos
 refine ⟨_,h2.2 i a hi,by simp; omega,fun j c hj=>?_,?_⟩
 ·refine h1.load (by simp) ?_;rw [Vm] at hj;split at hj
  ·rw [Vn] at hj
   simpa [cA] using hj
  ·cases hj
 ·refine h1.load zS ?_;simp only [cA];rw [if_pos hle]
structure OS (α:Type) where
 tys:List Nat
 R:Heap->AV->α->Prop
 one:∀ {H v a},R H v a->One v
 mono:∀ {H H' v a},SubT tys H H'->R H v a->R H' v a
def bT (e:OS α):fh α where
 sz:=1
 tys:=e.tys
 R H cs a:=∃ v,cs=[v]/\e.R H v a
 pos:=zO
 len:=by rintro H cs a ⟨v,rfl,h⟩; exact ⟨rfl,by simp [(e.one h).2]⟩
 mono:=by rintro H H' cs a hs ⟨v,rfl,h⟩; exact ⟨v,rfl,e.mono hs h⟩
abbrev xJ (e:OS α) (ty:Nat) (H:Heap) (v:AV) (l:List α):Prop:=SlV (bT e) ty H v l
def SlV.at1 {e:OS α} {ty:Nat} {H:Heap} {v:AV} {l:List α} (hs:xJ e ty H v l) {i:Nat} {a:α} (hi:l[i]? = some a):∃ c,e.R H c a/\aW H none (ap v i)=some c:=by
 obtain ⟨cs,⟨c,rfl,hr⟩,-,h2,-⟩:=hs.at hi;refine ⟨c,hr,?_⟩
 have:=h2 0 c rfl
 simpa [bT] using this
def SlV.idx1 {e:OS α} {ty:Nat} {H:Heap} {v:AV} {l:List α} (hs:xJ e ty H v l) (k:IntKind) (i:Nat) (hi:i<l.length):co 1 v (.int k (i:Int))=some (ap v i):=by
 have:=SlV.idx hs k i hi
 simpa [bT] using this
def F9 (k:IntKind):OS Int:=⟨[],fun _ v a=>v=.int k a,fun h=>h ▸ bf _ _,fun _ h=>h⟩
def cm:OS Nat:=⟨[],fun _ v a=>v=.int .u64 (a:Int),fun h=>h ▸ bf _ _,fun _ h=>h⟩
def rl (E:fh α) (ty:Nat):OS (List α):=⟨ty :: E.tys,SlV E ty,fun h=>h.one,fun h hs=>hs.monoT h⟩
def Cells.take {E:fh α} {H:Heap} {cells:List AV} {l:List α} (h:Cells E H cells l) {n:Nat} (hn:n<=l.length):Cells E H (cells.take (n*E.sz)) (l.take n):=by
 have hm:=Ji E.sz hn;refine ⟨by rw [Vu,Vu,h.1,V7 hm,V7 hn],fun i a hi=>?_⟩;rw [Vm] at hi;split at hi
 ·rename_i hin
  have:=h.2 i a hi
  have h1:i*E.sz+E.sz<=n*E.sz:=by rw [<- WF]; exact Ji _ hin
  rw [List.drop_take,Xe,V7 zO];exact this
 ·cases hi
def Cells.drop {E:fh α} {H:Heap} {cells:List AV} {l:List α} (h:Cells E H cells l) (n:Nat):Cells E H (cells.drop (n*E.sz)) (l.drop n):=by
 refine ⟨by rw [Wc,Wc,h.1,Nat.sub_mul],fun i a hi=>?_⟩;rw [Vn] at hi
 have:=h.2 _ a hi
 rw [List.drop_drop,<- VW];exact this
def Cells.append {E:fh α} {H:Heap} {c1 c2:List AV} {l1 l2:List α} (h1:Cells E H c1 l1) (h2:Cells E H c2 l2):Cells E H (c1++c2) (l1++l2):=by
 refine ⟨by rw [Vg,Vg,h1.1,h2.1,VW],fun i a hi=>?_⟩;by_cases hlt:i<l1.length
 ·rw [Vw hlt] at hi
  have:=h1.2 i a hi
  have hle:i*E.sz+E.sz<=c1.length:=by rw [h1.1,<- WF]; exact Ji _ hlt
  rw [List.drop_append_of_le_length zO,Xr (by rw [Wc]; omega)];exact this
 ·rw [VN zO] at hi
  have:=h2.2 _ a hi
  have e:i*E.sz=c1.length+(i-l1.length)*E.sz:=by rw [h1.1,<- VW]; congr 1; omega
  rw [e,List.drop_append,XW zO,Xk,XQ];exact this
def Cells.nil (E:fh α) (H:Heap):Cells E H [] []:=⟨by simp,fun i a h=>by simp at h⟩
def Cells.one {E:fh α} {H:Heap} {cs:List AV} {a:α} (h:E.R H cs a):Cells E H cs [a]:=by
 refine ⟨by simp [(E.len h).1],fun i b hi=>?_⟩;cases i with
 | zero=>simp at hi; subst hi; simp [<- (E.len h).1]; exact h
 | succ i=>simp at hi
def Cells.set {E:fh α} {H:Heap} {cells cs:List AV} {l:List α} (h:Cells E H cells l) {i:Nat} {a:α} (hi:i<l.length) (hr:E.R H cs a):Cells E H (cells.take (i*E.sz)++cs++cells.drop (i*E.sz+E.sz)) (l.set i a):=by
 have e:l.set i a=l.take i++[a]++l.drop (i+1):=by rw [Xz,if_pos hi]; simp
 rw [e]
 have:=h.drop (i+1)
 rw [WF] at this;exact ((h.take (WW hi)).append (Cells.one hr)).append this
def Cells.ones {E:fh α} {H:Heap} {cells:List AV} {l:List α} (h:Cells E H cells l):cells.all AV.one=true:=by
 rw [Vq];intro c hc;obtain ⟨j,hj,rfl⟩:=V6 hc;have hp:=E.pos;have hlt:j / E.sz<l.length:=by
  apply ZI
  rw [Vk,<- h.1]; exact hj
 have:=(E.len (h.2 (j / E.sz) _ (pD hlt))).2
 rw [Vq] at this;refine this _ ?_;have hm:j % E.sz<E.sz:=VO _ hp;have e:=VX j E.sz;refine Ve (i:=j % E.sz) ?_;rw [Vm,if_pos hm,Vn];rw [Vk,e,pD hj]
def qG {H:Heap} {ty sz:Nat} {v v':AV} {lo hi mx:Option AV} (ht:RV H ty v) (h:bD sz v lo hi mx=some v'):RV H ty v':=by
 intro b off n c z x e;subst e;cases v with
 | own b' off' n' c' z' x' =>
  have hb:b=b':=by
   simp only [bD,bE] at h;split at h
   ·cases h
   ·split at h
    ·simp only [qh,bV] at h;obtain ⟨m,-,h',-,l,-,h⟩:=h;split at h
     ·split at h <;> (cases h; rfl)
     ·cases h
    ·simp only [qh,bV] at h;obtain ⟨h',-,l,-,h⟩:=h;split at h
     ·split at h
      ·cases h; rfl
      ·split at h
       ·cases h; rfl
       ·cases h
     ·cases h
    ·cases h
  subst hb;exact ht _ _ _ _ _ _ rfl
 | sl cs n' =>
  exfalso
  simp only [bD,bE] at h;split at h
  ·simp only [qh,bV] at h;obtain ⟨h',-,l,-,h⟩:=h;split at h <;> cases h
  ·simp only [qh,bV] at h;obtain ⟨m,-,h',-,l,-,h⟩:=h;split at h <;> cases h
  ·cases h
 | nilSl =>
  exfalso
  simp only [bD,bE] at h;split at h
  ·split at h <;> cases h
  ·split at h <;> cases h
  ·cases h
 | str s=>cases h
 | _=>cases h
def SlV.hi {E:fh α} {ty:Nat} {H:Heap} {v:AV} {l:List α} (hs:SlV E ty H v l) (k:IntKind) (n:Nat) (hn:n<=l.length):∃ v',bD E.sz v none (some (.int k (n:Int))) none=some v'/\SlV E ty H v' (l.take n):=by
 obtain ⟨cells,h1,ht,h2⟩:=hs;obtain ⟨v',e,h⟩:=h1.hi (k:=k) (hi:=n) (by rw [h2.1]; exact Ji _ hn) E.pos;exact ⟨v',e,_,h,qG ht e,h2.take hn⟩
def SlV.lo {E:fh α} {ty:Nat} {H:Heap} {v:AV} {l:List α} (hs:SlV E ty H v l) (k:IntKind) (n:Nat) (hn:n<=l.length):∃ v',bD E.sz v (some (.int k (n:Int))) none none=some v'/\SlV E ty H v' (l.drop n):=by
 obtain ⟨cells,h1,ht,h2⟩:=hs;obtain ⟨v',e,h⟩:=h1.lo (k:=k) (lo:=n) (by rw [h2.1]; exact Ji _ hn) E.pos;exact ⟨v',e,_,h,qG ht e,h2.drop n⟩
def SlV.clip {E:fh α} {ty:Nat} {H:Heap} {v:AV} {l:List α} (hs:SlV E ty H v l) (k j:IntKind):∃ v',bD E.sz v none (some (.int k (l.length:Int))) (some (.int j (l.length:Int)))=some v'/\SlV E ty H v' l:=by
 obtain ⟨cells,h1,ht,h2⟩:=hs;obtain ⟨v',e,h⟩:=h1.clip (k:=k) (j:=j) h2.1 E.pos;exact ⟨v',e,_,h,qG ht e,h2⟩
def Own (E:fh α) (ty:Nat) (H0 H:Heap) (b:Nat) (ex:Bool) (v:AV) (l:List α):Prop :=
 ∃ cells,v=.own b 0 l.length l.length E.sz ex/\H.get b=some (.cells cells ty true)/\Cells E H cells l/\H0.next<=b
def Own.sl {E:fh α} {ty:Nat} {H0 H:Heap} {b:Nat} {ex:Bool} {v:AV} {l:List α} (h:Own E ty H0 H b ex v l):SlV E ty H v l:=by
 obtain ⟨cells,rfl,hb,hc,-⟩:=h;exact ⟨cells,Rd.own hb hc.1 (wT _),fun _ _ _ _ _ _ e=>by cases e; exact ⟨_,_,hb⟩,hc⟩
def Bl (E:fh α) (ty:Nat) (H0 H:Heap) (v:AV) (l:List α):Prop:=(v=.nilSl/\l=[])\/∃ b,Own E ty H0 H b false v l
def Bl.nil {E:fh α} {ty:Nat} {H0 H:Heap}:Bl E ty H0 H .nilSl []:=.inl ⟨rfl,rfl⟩
def Bl.sl {E:fh α} {ty:Nat} {H0 H:Heap} {v:AV} {l:List α} (h:Bl E ty H0 H v l):SlV E ty H v l:=by
 rcases h with ⟨rfl,rfl⟩ | ⟨b,h⟩
 ·exact SlV.nil E ty H
 ·exact h.sl
def Own.monoT {E:fh α} {ty:Nat} {H0 H H':Heap} (hs:SubT (ty :: E.tys) H H') {b:Nat} {ex:Bool} {v:AV} {l:List α} (h:Own E ty H0 H b ex v l):Own E ty H0 H' b ex v l:=by
 obtain ⟨cells,rfl,hb,hc,h0⟩:=h;exact ⟨cells,rfl,hs b _ _ _ (N0 ..) hb,hc.mono (hs.of fun t ht=>Ct _ ht),h0⟩
def Own.mono {E:fh α} {ty:Nat} {H0 H H':Heap} (hs:Sub H H') {b:Nat} {ex:Bool} {v:AV} {l:List α} (h:Own E ty H0 H b ex v l):Own E ty H0 H' b ex v l:=h.monoT (hs.t _)
def Bl.monoT {E:fh α} {ty:Nat} {H0 H H':Heap} (hs:SubT (ty :: E.tys) H H') {v:AV} {l:List α} (h:Bl E ty H0 H v l):Bl E ty H0 H' v l:=by
 rcases h with h | ⟨b,h⟩
 ·exact .inl h
 ·exact .inr ⟨b,h.monoT hs⟩
def Bl.mono {E:fh α} {ty:Nat} {H0 H H':Heap} (hs:Sub H H') {v:AV} {l:List α} (h:Bl E ty H0 H v l):Bl E ty H0 H' v l:=h.monoT (hs.t _)
def Bl.put {E:fh α} {ty:Nat} {H0 H:Heap} {v:AV} {l:List α} (h:Bl E ty H0 H v l) {b:Nat} {e:Ent} (hne:∀ n,v ≠ .own b 0 n n E.sz false) (hs:SubT E.tys H (H.put b e)):Bl E ty H0 (H.put b e) v l:=by
 rcases h with h | ⟨b',cells,rfl,hb,hc,h0⟩
 ·exact .inl h
 ·exact .inr ⟨b',cells,rfl,by rw [az (fun e1=>hne _ (by rw [e1]))]; exact hb,hc.mono hs,h0⟩
def Bl.kill {E:fh α} {ty:Nat} {H0 H:Heap} {v:AV} {l:List α} (h:Bl E ty H0 H v l) {b:Nat} (hne:∀ n,v ≠ .own b 0 n n E.sz false) (hs:SubT E.tys H (H.kill b)):Bl E ty H0 (H.kill b) v l:=by
 rcases h with h | ⟨b',cells,rfl,hb,hc,h0⟩
 ·exact .inl h
 ·exact .inr ⟨b',cells,rfl,by rw [dg (fun e1=>hne _ (by rw [e1]))]; exact hb,hc.mono hs,h0⟩
def SubT.nil (H H':Heap):SubT [] H H':=fun _ _ _ _ h=>by cases h
def SubT.put {tys:List Nat} {H:Heap} {b:Nat} {e:Ent} (h:∀ cs t r,t∈tys->H.get b≠some (.cells cs t r)):SubT tys H (H.put b e):=fun c cs t r ht hc=>by
 rw [az (fun e1=>h cs t r ht (by rw [<- e1]; exact hc))]; exact hc
def SubT.put_ty {tys:List Nat} {H:Heap} {b ty:Nat} {e:Ent} {cs:List AV} {r:Bool} (hb:H.get b=some (.cells cs ty r)) (hty:ty ∉ tys):SubT tys H (H.put b e):=SubT.put fun cs' t r' ht h=>by
 rw [hb] at h; cases h; exact hty ht
def Bl.base {E:fh α} {ty:Nat} {H0 H1 H:Heap} (hs:H0.next<=H1.next) {v:AV} {l:List α} (h:Bl E ty H1 H v l):Bl E ty H0 H v l:=by
 rcases h with h | ⟨b,cells,h1,h2,h3,h4⟩
 ·exact .inl h
 ·exact .inr ⟨b,cells,h1,h2,h3,Oc hs h4⟩
def cN (H:Heap) (id size bytes ty:Nat) (x y:AV):Option (AV × Heap):=match gP y with
 | none=>none
 | some m=>match aL H size m y with
  | none=>none
  | some news=>cI H id size bytes ty x m news (match y with | .own b _ _ _ _ _=>some b | _=>none)
def Pr {tab:Nat->Option aw} (ev:Src->AV) (H:Heap) (id:Nat) (Q:AV->Heap->Prop) (size bytes ty:Nat) (z:List AV) (x y:Src) :
  kW tab ev H id (.append size bytes ty z x y) Q=SC (cN H id size bytes ty (ev x) (ev y)) (fun r=>Q r.1 r.2) ():=by rw [Io]; rfl
def Ho (H:Heap) (id ty size bytes:Nat) (z:List AV) (l c:AV):Option (AV × Heap):=match nL l,nL c with
 | some l,some c=>if l<=c/\bytes*c<=2^47/\c<2^63/\z.length=size then some (.own id 0 l c size true,H.put id (.cells ((List.replicate c z).flatten) ty true)) else none
 | _,_=>none
def QM {tab:Nat->Option aw} (ev:Src->AV) (H:Heap) (id:Nat) (Q:AV->Heap->Prop) (ty size bytes:Nat) (z:List AV) (l c:Src) :
  kW tab ev H id (.mksl ty size bytes z l c) Q=SC (Ho H id ty size bytes z (ev l) (ev c)) (fun r=>Q r.1 r.2) ():=by rw [Ng]; rfl
def iW (H:Heap) (id ty size bytes:Nat) (z:List AV) (k j:IntKind) (n:Nat) (hb:bytes*n<=140737488355328) (hn:n<9223372036854775808) (hz:z.length=size) :
  Ho H id ty size bytes z (.int k (n:Int)) (.int j (n:Int))=some (.own id 0 n n size true,H.put id (.cells ((List.replicate n z).flatten) ty true)):=by
 simp only [Ho,e9];rw [if_pos ⟨wT _,hb,hn,hz⟩]
def qH {E:fh α} {H:Heap} {z:List AV} {a:α} (hz:E.R H z a) (n:Nat):Cells E H (List.replicate n z).flatten (List.replicate n a):=by
 induction n with
 | zero=>exact Cells.nil E H
 | succ n ih=>rw [Wm,Wm,X8]; exact (Cells.one hz).append ih
def Bl.app {E:fh α} {ty ty2 bytes id:Nat} {H0 H:Heap} {v w:AV} {l l2:List α} (h:Bl E ty H0 H v l) (hty:ty ∉ E.tys) (hk:Kp H0 H) (hy:SlV E ty2 H w l2) (hid:H0.next<=id) (hid2:id<H.next) (hfree:H.get id=none)
  (hne:∀ b n,v=.own b 0 n n E.sz false->∀ off m c z x,w ≠ .own b off m c z x) (hb:(l.length+l2.length)*bytes<=70368744177664) (hl:l.length+l2.length<4611686018427387904) :
  ∃ v' H',cN H id E.sz bytes ty v w=some (v',H')/\Bl E ty H0 H' v' (l++l2)/\Kp H0 H'/\H'.next=H.next/\(∀ b e,H.get b=some e->(∀ n,v ≠ .own b 0 n n E.sz false)->H'.get b=some e)/\(0<l2.length->∃ n,v'=.own id 0 n n E.sz false):=by
 obtain ⟨news,hr,hty2,hc⟩:=hy;obtain ⟨m,hm,hlen⟩:=hr.length;obtain ⟨-,-,m',hm',hf⟩:=hr;rw [hm] at hm'; cases hm';have hml:m=l2.length:=WI E.pos (by rw [<- hlen,hc.1]);subst hml;obtain ⟨fr,hfr0⟩:∃ fr,(match w with | .own b _ _ _ _ _=>some b | _=>none)=fr:=⟨_,rfl⟩
 have hap:cN H id E.sz bytes ty v w=cI H id E.sz bytes ty v l2.length news fr:=by
  unfold cN;rw [hm];simp only;rw [hf];simp only;rw [hfr0]
 rw [hap];have hones:=hc.ones;have hnf:∀ {b e},H.get b=some e->b≠id:=fun hb e1=>by rw [e1,hfree] at hb; cases hb
 rcases h with ⟨rfl,rfl⟩ | ⟨b,cells,rfl,hb0,hcl,hb1⟩
 ·by_cases h0:l2.length=0
  ·refine ⟨.nilSl,H,by simp only [cI]; rw [if_pos h0],.inl ⟨rfl,by simpa using h0⟩,hk,rfl,fun b e hb _=>hb,fun h=>by omega⟩
  ·refine ⟨_,_,by simp only [cI]; rw [if_neg h0,if_pos ⟨by simpa using hb,by simpa using hl⟩],.inr ⟨id,news,by simp,au _ _ _,?_,hid⟩,hk.put hid hid2,rfl,fun b e hb _=>?_,fun _=>⟨_,rfl⟩⟩
   ·have:=hc.mono (H':=H.put id (.cells news ty true)) fun c cs t r _ hce=>by rw [az (hnf hce)]; exact hce
    simpa using this
   ·rw [az (hnf hb)]; exact hb
 ·have hbid:b≠id:=hnf hb0;have hfr:fr≠some b:=by
   rw [<- hfr0];cases w with
   | own b' off m c z x =>
    simp only [ne_eq,VE];intro e1; subst e1;exact hne _ _ rfl _ _ _ _ _ rfl
   | _=>simp
  simp only [cI,hb0];rw [if_pos ⟨trivial,hb,hl,trivial,by simp; exact XE hcl.1.symm⟩];by_cases h0:l2.length=0
  ·rw [if_pos zO,if_pos h0];refine ⟨_,H,rfl,.inr ⟨b,cells,?_,hb0,?_,hb1⟩,hk,rfl,fun b e hb _=>hb,fun h=>by omega⟩
   ·simp [h0]
   ·have:l2=[]:=Vp h0
    subst this; simpa using hcl
  ·rw [if_neg zO];simp only [Vx,if_false];rw [if_pos ⟨trivial,trivial,hfr,hones⟩];have hsub:∀ c e,H.get c=some e->c≠b->((H.kill b).put id (.cells (cells.take (l.length*E.sz)++news) ty true)).get c=some e:=fun c e hc hcb=>by
    rw [az (hnf hc),dg hcb]; exact hc
   refine ⟨_,_,rfl,.inr ⟨id,_,by simp,au _ _ _,?_,hid⟩,(hk.kill hb1).put hid hid2,rfl,fun c e hc he=>hsub c e hc fun e1=>?_,fun _=>⟨_,rfl⟩⟩
   ·have hs:SubT E.tys H ((H.kill b).put id (.cells (cells.take (l.length*E.sz)++news) ty true)):=fun c cs t r ht hc=>hsub c _ hc fun e1=>by
     subst e1;rw [hb0] at hc; cases hc;exact hty ht
    have ht:cells.take (l.length*E.sz)=cells:=by rw [<- hcl.1,Vo]
    rw [ht] at hs ⊢;exact (hcl.mono hs).append (hc.mono hs)
   ·subst e1;exact he _ rfl
def Bl.push {E:fh α} {ty ty2 bytes id id2 k:Nat} {H0 H:Heap} {v:AV} {l:List α} {cs:List AV} {a:α} (h:Bl E ty H0 H v l) (hty:ty ∉ E.tys) (hk:Kp H0 H) (hr:E.R H cs a) (hid:H.next<=id) (hidk:id<H.next+k) (hid2:H.next<=id2) (hid2k:id2<H.next+k) (hne:id≠id2)
  (hb:(l.length+1)*bytes<=70368744177664) (hl:l.length+1<4611686018427387904) :
  ∃ n H',cN ((H.up k).put id2 (.cells cs ty2 true)) id E.sz bytes ty v (.own id2 0 1 1 E.sz true)=some (.own id 0 n n E.sz false,H')/\Bl E ty H0 H' (.own id 0 n n E.sz false) (l++[a])/\Kp H0 H'/\H'.next=H.next+k/\(∀ b e,H.get b=some e->(∀ n,v ≠ .own b 0 n n E.sz false)->H'.get b=some e):=by
 have hle:=hk.le;have hf:∀ {c},H.next<=c->H.get c=none:=fun hc=>hk.wf.fresh hc
 have hsub:Sub H ((H.up k).put id2 (.cells cs ty2 true)):=(Sub.bump H k).put (hf hid2) _;have hk':Kp H0 ((H.up k).put id2 (.cells cs ty2 true)):=(hk.up k).put zO hid2k;have hy:SlV E ty2 ((H.up k).put id2 (.cells cs ty2 true)) (.own id2 0 1 1 E.sz true) [a]:=by
  have:Own E ty2 H0 ((H.up k).put id2 (.cells cs ty2 true)) id2 true (.own id2 0 1 1 E.sz true) [a]:=⟨cs,rfl,au _ _ _,Cells.one (E.mono (hsub.t _) hr),zO⟩
  exact this.sl
 obtain ⟨v',H',e1,e2,e3,e4,e5,e6⟩:=(h.mono hsub).app (id:=id) (bytes:=bytes) hty hk' hy zO hidk (by rw [az hne]; exact hf hid) (fun b n hv off m c z x hw=>by
  cases hw;rcases h with ⟨h,-⟩ | ⟨b',cells,h,hb',-⟩
  ·rw [h] at hv; cases hv
  ·rw [h] at hv; cases hv
   have:=hk.wf _ _ hb'
   omega) hb hl
 obtain ⟨n,rfl⟩:=e6 (by simp);exact ⟨n,H',e1,e2,e3,e4,fun b e hbe he=>e5 b e (hsub.get _ _ hbe) he⟩
def Bl.ne {E:fh α} {ty:Nat} {H0 H:Heap} {v:AV} {l:List α} (h:Bl E ty H0 H v l) {b:Nat} {e:Ent} (hb:H.get b=some e) (he:∀ cs,e ≠ .cells cs ty true) (n:Nat):v ≠ .own b 0 n n E.sz false:=by
 intro hv;rcases h with ⟨h,-⟩ | ⟨b',cells,h,hb',-⟩
 ·rw [h] at hv; cases hv
 ·rw [h] at hv; cases hv;rw [hb] at hb'; cases hb';exact he _ rfl
def SlV.app {E:fh α} {ty ty2 bytes id b off:Nat} {H0 H:Heap} {w:AV} {l l2:List α} (h:SlV E ty H (.own b off l.length l.length E.sz true) l) (hk:Kp H0 H) (hy:SlV E ty2 H w l2) (hid:H0.next<=id) (hid2:id<H.next) (hfree:H.get id=none)
  (hb:(l.length+l2.length)*bytes<=70368744177664) (hl:l.length+l2.length<4611686018427387904) :
  ∃ v' H',cN H id E.sz bytes ty (.own b off l.length l.length E.sz true) w=some (v',H')/\SlV E ty H' v' (l++l2)/\Kp H0 H'/\H'.next=H.next/\Sub H H'/\(0<l2.length->Own E ty H0 H' id false v' (l++l2)):=by
 obtain ⟨cells,hr0,ht,hcl⟩:=h;obtain ⟨cs,rw0,hg⟩:=ht _ _ _ _ _ _ rfl;obtain ⟨-,-,n0,hn0,hf0⟩:=hr0;simp only [gP,VE] at hn0;subst hn0;simp only [aL,hg] at hf0;obtain ⟨news,hr,hty2,hc⟩:=hy;obtain ⟨m,hm,hlen⟩:=hr.length;obtain ⟨-,-,m',hm',hf⟩:=hr;rw [hm] at hm'; cases hm';have hml:m=l2.length:=WI E.pos (by rw [<- hlen,hc.1]);obtain ⟨fr,hfr0⟩:∃ fr,(match w with | .own b _ _ _ _ _=>some b | _=>none)=fr:=⟨_,rfl⟩
 subst hml;have hnf:∀ {b e},H.get b=some e->b≠id:=fun hb e1=>by rw [e1,hfree] at hb; cases hb
 split at hf0
 ·rename_i hcond;cases hf0;have hap:∀ fr,cI H id E.sz bytes ty (.own b off l.length l.length E.sz true) l2.length news fr=if l2.length=0 then some (.own b off l.length l.length E.sz true,H) else some (.own id 0 (l.length+l2.length) (l.length+l2.length) E.sz false,H.put id (.cells ((cs.drop off).take (l.length*E.sz)++news) ty true)):=fun fr=>by
   simp only [cI,hg];rw [if_pos ⟨trivial,hb,hl,trivial,hcond.2.2⟩];by_cases h0:l2.length=0
   ·rw [if_pos zO,if_pos h0,if_pos h0]
   ·rw [if_neg zO,if_neg h0]
    simp
  have e:∀ x,cN H id E.sz bytes ty x w=cI H id E.sz bytes ty x l2.length news fr:=fun x=>by
   unfold cN;rw [hm];simp only;rw [hf];simp only;rw [hfr0]
  by_cases h0:l2.length=0
  ·refine ⟨_,H,by rw [e,hap,if_pos h0],?_,hk,rfl,Sub.refl H,fun h=>by omega⟩
   have:l2=[]:=Vp h0
   subst this;rw [Wp];refine ⟨_,⟨wT _,(fun s h=>by cases h),l.length,rfl,?_⟩,ht,hcl⟩;simp only [aL,hg];rw [if_pos hcond]
  ·have hs:Sub H (H.put id (.cells ((cs.drop off).take (l.length*E.sz)++news) ty true)):=⟨wT _,fun c e hc=>by rw [az (hnf hc)]; exact hc⟩
   refine ⟨_,_,by rw [e,hap,if_neg h0],?_,hk.put hid hid2,rfl,hs,fun _=>⟨_,by rw [Vg],au _ _ _,(hcl.mono (hs.t _)).append (hc.mono (hs.t _)),hid⟩⟩;refine ⟨(cs.drop off).take (l.length*E.sz)++news,Rd.own (au _ _ _) ?_ (wT _),fun _ _ _ _ _ _ e=>by cases e; exact ⟨_,_,au _ _ _⟩,(hcl.mono (hs.t _)).append (hc.mono (hs.t _))⟩;rw [Vg,hcl.1,hc.1,VW]
 ·cases hf0
def SlV.nilcase {E:fh α} {ty:Nat} {H:Heap} {v:AV} {l:List α} (h:SlV E ty H v l):(v=.nilSl/\l=[])\/bX .eql .sl v .nilSl=some (.bool false):=by
 obtain ⟨cells,⟨-,h1,n,hn,hf⟩,-,hc⟩:=h;cases v with
 | nilSl =>
  simp only [aL] at hf;split at hf
  ·cases hf;refine .inl ⟨rfl,Vp ?_⟩
   have:=hc.1
   have hp:=E.pos;simp only [Xj] at this;rcases Nat.mul_eq_zero.1 this.symm with h | h
   ·exact h
   ·omega
  ·cases hf
 | own b off n c z x=>exact .inr rfl
 | sl cs n=>exact .inr rfl
 | str s=>exact absurd rfl (h1 _)
 | _=>simp [gP] at hn
def aK (l:List Nat):List AV:=l.map fun a=>.int .u64 ((a:Nat):Int)
def nz (l:List Nat):(aK l).length=l.length:=by simp [aK]
def Js (l:List Nat) (j a:Nat):(aK l).set j (.int .u64 (a:Int))=aK (l.set j a):=by simp [aK,Yr]
def BS {l:List Nat} {j:Nat} (h:j<l.length):cA (aK l) j none=some (.int .u64 ((l.getD j 0:Nat):Int)):=by
 simp [cA,aK,dH,h]
def su (H:Heap) (l:List Nat):Cells (bT cm) H (aK l) l:=by
 refine ⟨by simp [aK,bT],fun i a hi=>⟨.int .u64 (a:Int),?_,rfl⟩⟩;have hlt:=(I6.1 hi).1
 apply Wz
 intro k;have e:(aK l)[i]? = some (.int .u64 (a:Int)):=by simp [aK,hi]
 simp only [bT,Vm,Vn,Wo];cases k with
 | zero=>simpa using e
 | succ k=>simp
def lH (n:Nat):(List.replicate n [AV.int .u64 0]).flatten=aK (List.replicate n 0):=by
 induction n with
 | zero=>rfl
 | succ n ih=>rw [Wm,X8,ih]; rfl
def tp {H0 H:Heap} {b ty:Nat} {l:List Nat} {n:Nat} {ex:Bool} (hb:H.get b=some (.cells (aK l) ty true)) (h0:H0.next<=b) (hn:l.length=n):Own (bT cm) ty H0 H b ex (.own b 0 n n 1 ex) l:=⟨_,by rw [hn]; rfl,hb,su H l,h0⟩
def mj {b off n c sz j:Nat} {x:Bool} {k:IntKind} (h:j<n):co sz (.own b off n c sz x) (.int k (j:Int))=some (.ptr b (off+j*sz)):=by
 show aM _ (.indexAddr sz (.t 0) (.t 1))=_;simp [aM,e9,h]
theorem Hu (b off n c sz:Nat) (x:Bool):lenV (.own b off n c sz x)=some (.int .i64 (n:Int)):=rfl
def Qk {α:Type} {a b:Nat} {x y:α} (h:a<b):(if a<b then x else y)=x:=if_pos h
def sM (o:AOp):Bool:=o.looks || o.isPure
section
variable (tab:Nat->Option aw)
def KT (base:Nat) (T:Tm) (i:Nat) (d:jm) (s:DS) (K:DS->Prop):Prop:=match d.cls,d.looks with
 | 0,(k,adds) :: _=>sM d.op=true/\kW tab (Src.ev T) (dC base s.Es (s.Cs.getD k default) adds) 0 d.op fun v _=>K ⟨s.Vs++[v],s.Cs,s.Es++[none]⟩
 | 1,_=>d.op.makes=true/\kW tab (Src.ev T) (Heap.nil 0) (base+i) d.op fun v H'=>K ⟨s.Vs++[v],s.Cs,s.Es++[H'.get (base+i)]⟩
 | 2,[(k,adds)]=>kW tab (Src.ev T) (dC base s.Es (s.Cs.getD k default) adds) (base+i) d.op fun v H'=>K ⟨s.Vs++[v],s.Cs++[H'],s.Es++[none]⟩
 | _,_=>False
def Fk (base:Nat) (d:jm) (s:DS) (K:DS->Prop):Prop:=match d.cls,d.looks with
 | 2,[(k,adds)]=>K ⟨s.Vs++[.tup []],s.Cs++[dC base s.Es (s.Cs.getD k default) adds],s.Es++[none]⟩
 | 2,_=>False
 | _,_=>K ⟨s.Vs++[.tup []],s.Cs,s.Es++[none]⟩
def wd (base:Nat) (T0:Tm):Nat->List jm->DS->(DS->Prop)->Prop
 | _,[],s,Q=>Q s
 | i,d :: ds,s,Q=>match y6 (ct T0 s.Vs d.uses) d.guard with
  | none=>False
  | some true=>KT tab base (ct T0 s.Vs d.uses) i d s fun s'=>wd base T0 (i+1) ds s' Q
  | some false=>Fk base d s fun s'=>wd base T0 (i+1) ds s' Q
end
section
variable {tab:Nat->Option aw}
def CZ {base i:Nat} {T0:Tm} {d:jm} {s:DS} {K:DS->Prop} (hw:y6 (ct T0 s.Vs d.uses) d.guard=some true) (h:KT tab base (ct T0 s.Vs d.uses) i d s K) :
  ∃ s',K s'/\∃ N,∀ m n,N<=m->N<=n->jO (kD tab eS m n) base T0 i d s=some s':=by
 obtain ⟨dst,op,guard,uses,cls,looks⟩:=d;simp only at hw;unfold KT at h;simp only at h;split at h
 ·rename_i k adds r;obtain ⟨hz,h⟩:=h;have h:=h.run;obtain ⟨v,H',hk,N,g⟩:=kX h;refine ⟨_,hk,N,fun m n hm hn=>?_⟩;have g:=g m n hm hn;unfold jO;simp only [hw];cases hp:aM (Src.ev (ct T0 s.Vs uses)) op with
  | some w =>
   have:yB (kD tab eS m n) (Src.ev (ct T0 s.Vs uses)) (dC base s.Es (s.Cs.getD k default) adds) 0 op=some (w,dC base s.Es (s.Cs.getD k default) adds):=by
    cases op <;> first | (simp only [yB,hp]; done) | (simp [aM] at hp; done)
   rw [this] at g;cases g; rfl
  | none =>
   have hh:aZ (Src.ev (ct T0 s.Vs uses)) (dC base s.Es (s.Cs.getD k default) adds) 0 op=some (v,H'):=by
    cases op <;> first | (simp only [yB,hp] at g; exact g) | (simp [sM,AOp.looks,AOp.isPure] at hz; done)
   have hl:op.looks=true:=by
    cases op <;> first | rfl | (simp [aZ] at hh; done) | (simp [sM,AOp.looks,AOp.isPure] at hz; done)
   simp only [hh,hl,if_true]
 ·obtain ⟨hz,h⟩:=h;have h:=h.run;obtain ⟨v,H',hk,N,g⟩:=kX h;refine ⟨_,hk,N,fun m n hm hn=>?_⟩;have g:=g m n hm hn;unfold jO;simp only [hw,hz,if_true];have hp:aM (Src.ev (ct T0 s.Vs uses)) op=none:=by cases op <;> first | rfl | (simp [AOp.makes] at hz; done)
  have hh:aZ (Src.ev (ct T0 s.Vs uses)) (Heap.nil 0) (base+i) op=some (v,H'):=by
   cases op <;> first | (simp only [yB,hp] at g; exact g) | (simp [AOp.makes] at hz; done)
  simp only [hh]
 ·have h:=h.run;obtain ⟨v,H',hk,N,g⟩:=kX h;refine ⟨_,hk,N,fun m n hm hn=>?_⟩;have g:=g m n hm hn;unfold jO;simp only [hw,g]
 ·exact h.elim
def BL {cal:m6} {base i:Nat} {T0:Tm} {d:jm} {s:DS} {K:DS->Prop} (hw:y6 (ct T0 s.Vs d.uses) d.guard=some false) (h:Fk base d s K):∃ s',K s'/\∀ cal,jO cal base T0 i d s=some s':=by
 obtain ⟨dst,op,guard,uses,cls,looks⟩:=d;simp only at hw;unfold Fk at h;simp only at h;split at h
 ·refine ⟨_,h,fun cal=>?_⟩;unfold jO; simp only [hw]
 ·exact h.elim
 ·rename_i h1 h2;refine ⟨_,h,fun cal=>?_⟩;unfold jO;simp only [hw]
def xO {base:Nat} {T0:Tm}:∀ (ds:List jm) (i:Nat) (s:DS) (Q:DS->Prop),wd tab base T0 i ds s Q->∃ s',Q s'/\∃ N,∀ m n,N<=m->N<=n->sB (kD tab eS m n) base T0 i ds s=some s'
 | [],i,s,Q,h=>⟨s,h,0,fun _ _ _ _=>rfl⟩
 | d :: ds,i,s,Q,h=>by
  unfold wd at h;split at h
  ·exact h.elim
  ·rename_i hw;obtain ⟨s1,h1,N1,g1⟩:=CZ hw h;obtain ⟨s2,hq,N2,g2⟩:=xO ds _ _ _ h1;refine ⟨s2,hq,N1+N2,fun m n hm hn=>?_⟩;unfold sB;rw [g1 m n zO zO];exact g2 m n zO zO
  ·rename_i hw;obtain ⟨s1,h1,g1⟩:=BL (cal:=Q0) (i:=i) hw h;obtain ⟨s2,hq,N2,g2⟩:=xO ds _ _ _ h1;refine ⟨s2,hq,N2,fun m n hm hn=>?_⟩;unfold sB;rw [g1];exact g2 m n hm hn
structure WD (tab:Nat->Option aw) (base:Nat) (T0:Tm) (i:Nat) (ds:List jm) (s:DS) (Q:DS->Prop):Prop where
 run:wd tab base T0 i ds s Q
def BA:WD=wd:=by funext tab b T0 i ds s Q; exact propext ⟨fun h=>h.run,fun h=>⟨h⟩⟩
def AV.beq_refl':∀ v:AV,AV.beq v v=true:=by
 intro v
 induction v using AV.rec (motive_2:=fun l=>AV.beqs l l=true) with
 | undef=>rfl
 | bool b=>simp [AV.beq]
 | int k n=>simp [AV.beq]
 | str s=>simp [AV.beq]
 | nilPtr=>rfl
 | nilSl=>rfl
 | nilFn=>rfl
 | nilIf=>rfl
 | nilMap=>rfl
 | agg cs ih=>simpa [AV.beq] using ih
 | tup cs ih=>simpa [AV.beq] using ih
 | sl cs n ih=>simpa [AV.beq] using ih
 | dp cs n ih=>simpa [AV.beq] using ih
 | own b off n c sz ex=>simp [AV.beq]
 | ptr b off=>simp [AV.beq]
 | fn f a b iha ihb=>simp [AV.beq,iha,ihb]
 | ifc t v ih=>simp [AV.beq,ih]
 | map b=>simp [AV.beq]
 | loopv b=>simp [AV.beq]
 | nil=>rfl
 | cons a l iha ihl=>simp [AV.beqs,iha,ihl]
def kF (tab:Nat->Option aw) (base:Nat) (T:Tm) (Cs:List Heap) (Es:List (Option Ent)) (op:AOp) (w:AV):List (Nat × List Nat)->Prop
 | []=>True
 | (k,adds) :: r=>kW tab (Src.ev T) (dC base Es (Cs.getD k default) adds) 0 op (fun v _=>v=w)/\kF tab base T Cs Es op w r
def F3 (tab:Nat->Option aw) (base:Nat) (T0:Tm) (Vs:List AV) (Cs:List Heap) (Es:List (Option Ent)) (i:Nat) (d:jm):Prop:=match d.cls with
 | 0=>match d.guard with
  | none=>sM d.op=true/\kF tab base (ct T0 Vs d.uses) Cs Es d.op (Vs.getD i .undef) d.looks
  | some p=>lO (ad (ct T0 Vs d.uses) p.1) p.2 (sM d.op=true/\kF tab base (ct T0 Vs d.uses) Cs Es d.op (Vs.getD i .undef) d.looks) True () ()
 | _+1=>True
def jK (tab:Nat->Option aw) (base:Nat) (T0:Tm) (Vs:List AV) (Cs:List Heap) (Es:List (Option Ent)):Nat->List jm->Prop
 | _,[]=>True
 | i,d :: ds=>F3 tab base T0 Vs Cs Es i d/\jK tab base T0 Vs Cs Es (i+1) ds
def Fl (T:Tm) (t:Nat) (w:Bool):y6 T (some (t,w))=match ad T t with | .bool b=>some (b == w) | .tup []=>some false | _=>none:=by
 unfold ad;rw [dH];cases h:T[t]? with
 | none=>simp only [y6,h]; rfl
 | some v =>
  simp only [y6,h,Ww];cases v with
  | tup vs=>cases vs <;> rfl
  | _=>rfl
def pP {base:Nat} {T:Tm} {Cs:List Heap} {Es:List (Option Ent)} {op:AOp} {w:AV} (hz:sM op=true) (hp:aM (Src.ev T) op=none):∀ {looks:List (Nat × List Nat)},kF tab base T Cs Es op w looks->(looks.all fun p=>match aZ (Src.ev T) (dC base Es (Cs.getD p.1 default) p.2) 0 op with | some (v,_)=>AV.beq v w | none=>false)=true
 | [],_=>rfl
 | (k,adds) :: r,h=>by
  obtain ⟨h1,h2⟩:=h;obtain ⟨v,H',rfl,N,g⟩:=kX h1.run;have g:=g N N (wT _) (wT _);have hh:aZ (Src.ev T) (dC base Es (Cs.getD k default) adds) 0 op=some (v,H'):=by
   cases op <;> first | (simp only [yB,hp] at g; exact g) | (simp [sM,AOp.looks,AOp.isPure] at hz; done)
  rw [List.all_cons,pP hz hp h2];simp only [hh,AV.beq_refl',Bool.and_true]
def Cl {base:Nat} {T0:Tm} {s:DS} {i:Nat} {d:jm} (h:F3 tab base T0 s.Vs s.Cs s.Es i d):jW base T0 s i d=true:=by
 obtain ⟨dst,op,g,us,c,looks⟩:=d;cases c with
 | succ c=>rfl
 | zero =>
  cases g with
  | none =>
   obtain ⟨hz,h1⟩:=h;unfold jW;simp only [show y6 (ct T0 s.Vs us) none=some true from rfl];cases hp:aM (Src.ev (ct T0 s.Vs us)) op with
   | some v=>rfl
   | none=>exact pP hz hp h1
  | some p =>
   obtain ⟨t,w⟩:=p;unfold F3 lO at h;simp only at h;unfold jW;simp only [Fl];cases hg:ad (ct T0 s.Vs us) t with
   | bool b =>
    rw [hg] at h;simp only at h;by_cases hb:b=w
    ·rw [if_pos hb] at h;subst hb;simp only [beq_self_eq_true];cases hp:aM (Src.ev (ct T0 s.Vs us)) op with
     | some v=>rfl
     | none=>exact pP h.1 hp h.2
    ·have:(b == w)=false:=by simpa using hb
     simp only [this]
   | tup vs=>cases vs <;> rfl
   | _=>rw [hg] at h; exact h.elim
def tn {base:Nat} {T0:Tm} {s:DS}:∀ (ds:List jm) (i:Nat),jK tab base T0 s.Vs s.Cs s.Es i ds->kO base T0 s i ds=true
 | [],i,_=>rfl
 | d :: ds,i,h=>by
  unfold kO;rw [tn ds _ h.2,Cl h.1]; rfl
def Ro (tab:Nat->Option aw) (base:Nat) (T0:Tm) (ds:List jm) (late:List Nat) (Q:Tm->Heap->Prop) (s:DS):Prop:=jK tab base T0 s.Vs s.Cs s.Es 0 ds/\Q (gq T0 ds s.Vs) (dC base s.Es (s.Cs.getLastD default) late)
def aH {rd:Bool} {ds:List jm} {late:List Nat} {T:Tm} {H:Heap} {Q:Ex->Tm->Heap->Prop} (h:WD tab H.next T 0 ds ⟨[],[H.up ds.length],[]⟩ (Ro tab H.next T ds late (Q .nrm))):WC tab rd (.draw ds late) T H Q:=by
 obtain ⟨s,⟨hs,hq⟩,N,g⟩:=xO _ _ _ _ h.run;have hs:=tn _ _ hs;refine ⟨.nrm,_,_,⟨N,fun m n hm hn=>?_⟩,hq⟩;simp only [aI,En];rw [show ({ H with next:=H.next+ds.length }:Heap)=H.up ds.length from rfl,g m n hm hn];simp only [hs,if_true]
variable {base i k:Nat} {T0:Tm} {dst:Option Nat} {op:AOp} {us:List (Nat × Option Nat)} {adds:List Nat} {r:List (Nat × List Nat)} {ds:List jm} {Vs:List AV} {Cs:List Heap} {Es:List (Option Ent)} {Q:DS->Prop}
theorem PC:WD tab base T0 i [] ⟨Vs,Cs,Es⟩ Q=Q ⟨Vs,Cs,Es⟩:=by rw [BA]; rfl
theorem NB:WD tab base T0 i (⟨dst,op,none,us,0,(k,adds) :: r⟩ :: ds) ⟨Vs,Cs,Es⟩ Q=(sM op=true/\kW tab (Src.ev (ct T0 Vs us)) (dC base Es (Cs.getD k default) adds) 0 op fun v _=>WD tab base T0 (i+1) ds ⟨Vs++[v],Cs,Es++[none]⟩ Q):=by rw [BA]; rfl
def NA:WD tab base T0 i (⟨dst,op,none,us,1,r⟩ :: ds) ⟨Vs,Cs,Es⟩ Q=(op.makes=true/\kW tab (Src.ev (ct T0 Vs us)) (Heap.nil 0) (base+i) op fun v H'=>WD tab base T0 (i+1) ds ⟨Vs++[v],Cs,Es++[H'.get (base+i)]⟩ Q):=by
 rw [BA]
 conv=>lhs; unfold wd
 cases r <;> rfl
theorem PD:WD tab base T0 i (⟨dst,op,none,us,2,[(k,adds)]⟩ :: ds) ⟨Vs,Cs,Es⟩ Q=kW tab (Src.ev (ct T0 Vs us)) (dC base Es (Cs.getD k default) adds) (base+i) op fun v H'=>WD tab base T0 (i+1) ds ⟨Vs++[v],Cs++[H'],Es++[none]⟩ Q:=by rw [BA]; rfl
def KS {t:Nat} {w:Bool}:WD tab base T0 i (⟨dst,op,some (t,w),us,0,(k,adds) :: r⟩ :: ds) ⟨Vs,Cs,Es⟩ Q =
  lO (ad (ct T0 Vs us) t) w (sM op=true/\kW tab (Src.ev (ct T0 Vs us)) (dC base Es (Cs.getD k default) adds) 0 op fun v _=>WD tab base T0 (i+1) ds ⟨Vs++[v],Cs,Es++[none]⟩ Q) (WD tab base T0 (i+1) ds ⟨Vs++[.tup []],Cs,Es++[none]⟩ Q) () ():=by
 rw [BA];have hw:y6 (ct T0 Vs us) (some (t,w))=match ad (ct T0 Vs us) t with | .bool b=>some (b == w) | .tup []=>some false | _=>none:=by
  generalize ct T0 Vs us=T
  unfold ad;rw [dH];cases h:T[t]? with
  | none=>simp only [y6,h]; rfl
  | some v =>
   simp only [y6,h,Ww];cases v with
   | tup vs=>cases vs <;> rfl
   | _=>rfl
 conv=>lhs; unfold wd
 simp only [hw,lO];cases ad (ct T0 Vs us) t with
 | bool b=>cases b <;> cases w <;> rfl
 | tup vs=>cases vs <;> rfl
 | _=>rfl
theorem K0 (T0:Tm) (Vs:List AV):ct T0 Vs []=List.replicate T0.length .undef:=rfl
theorem KZ (T0:Tm) (Vs:List AV) (u:Nat × Option Nat):ct T0 Vs [u]=(List.replicate T0.length .undef).set u.1 (lY T0 Vs u):=rfl
theorem KY (T0:Tm) (Vs:List AV) (u v:Nat × Option Nat):ct T0 Vs [u,v]=((List.replicate T0.length .undef).set u.1 (lY T0 Vs u)).set v.1 (lY T0 Vs v):=rfl
theorem Fp (T0:Tm) (Vs:List AV) (u v w:Nat × Option Nat):ct T0 Vs [u,v,w]=(((List.replicate T0.length .undef).set u.1 (lY T0 Vs u)).set v.1 (lY T0 Vs v)).set w.1 (lY T0 Vs w):=rfl
theorem KW (T0:Tm) (Vs:List AV) (n:Nat):lY T0 Vs (n,none)=ad T0 n:=rfl
theorem KX (T0:Tm) (Vs:List AV) (n j:Nat):lY T0 Vs (n,some j)=Vs.getD j .undef:=rfl
theorem qY (base:Nat) (Es:List (Option Ent)) (C:Heap):dC base Es C []=C:=rfl
theorem oN (base:Nat) (Es:List (Option Ent)) (C:Heap) (a:Nat) (l:List Nat):dC base Es C (a :: l)=dC base Es (match Es.getD a none with | some e=>C.put (base+a) e | none=>C) l:=rfl
theorem iF (T:Tm) (d:jm) (ds:List jm) (v:AV) (vs:List AV):gq T (d :: ds) (v :: vs)=gq (putT T d.dst v) ds vs:=rfl
theorem jG (T:Tm) (vs:List AV):gq T [] vs=T:=by cases vs <;> rfl
theorem Ow {base:Nat} {T0:Tm} {ds:List jm} {late:List Nat} {Q:Tm->Heap->Prop}:Ro tab base T0 ds late Q ⟨Vs,Cs,Es⟩=(jK tab base T0 Vs Cs Es 0 ds/\Q (gq T0 ds Vs) (dC base Es (Cs.getLastD default) late)):=rfl
theorem Qd {Vs:List AV} {Cs:List Heap} {Es:List (Option Ent)} {i:Nat}:jK tab base T0 Vs Cs Es i []=True:=rfl
def Of {g:Option (Nat × Bool)} {r:List (Nat × List Nat)}:jK tab base T0 Vs Cs Es i (⟨dst,op,g,us,1,r⟩ :: ds)=jK tab base T0 Vs Cs Es (i+1) ds:=by
 show (True/\_)=_
 simp
def Oe {g:Option (Nat × Bool)} {r:List (Nat × List Nat)}:jK tab base T0 Vs Cs Es i (⟨dst,op,g,us,2,r⟩ :: ds)=jK tab base T0 Vs Cs Es (i+1) ds:=by
 show (True/\_)=_
 simp
theorem Od {r:List (Nat × List Nat)}:jK tab base T0 Vs Cs Es i (⟨dst,op,none,us,0,r⟩ :: ds)=((sM op=true/\kF tab base (ct T0 Vs us) Cs Es op (Vs.getD i .undef) r)/\jK tab base T0 Vs Cs Es (i+1) ds):=rfl
theorem L3 {t:Nat} {w:Bool} {r:List (Nat × List Nat)}:jK tab base T0 Vs Cs Es i (⟨dst,op,some (t,w),us,0,r⟩ :: ds)=(lO (ad (ct T0 Vs us) t) w (sM op=true/\kF tab base (ct T0 Vs us) Cs Es op (Vs.getD i .undef) r) True () ()/\jK tab base T0 Vs Cs Es (i+1) ds):=rfl
theorem Qg {T:Tm} {w:AV}:kF tab base T Cs Es op w []=True:=rfl
theorem Oi {T:Tm} {w:AV} {r:List (Nat × List Nat)}:kF tab base T Cs Es op w ((k,adds) :: r)=(kW tab (Src.ev T) (dC base Es (Cs.getD k default) adds) 0 op (fun v _=>v=w)/\kF tab base T Cs Es op w r):=rfl
theorem Pe {x:Src}:sM (.mv x)=true:=rfl
theorem Ks {a b c:Src}:sM (.pick a b c)=true:=rfl
theorem Ii {z:List AV} {ps:List ((Nat × Nat) × Src)}:sM (.build z ps)=true:=rfl
theorem Ig {x:Src}:sM (.nilCheck x)=true:=rfl
theorem Nc {o:BinOp} {k:BK} {x y:Src}:sM (.bin o k x y)=true:=rfl
theorem Pd {o:UnOp} {x:Src}:sM (.un o x)=true:=rfl
theorem Kv {k:IntKind} {x:Src}:sM (.conv k x)=true:=rfl
theorem Kt {f:Fn} {a b:List Src}:sM (.mkfn f a b)=true:=rfl
theorem If {n:Nat} {x:Src} {a b c:Option Src}:sM (.slice n x a b c)=true:=rfl
theorem Pf {n:Nat} {x:Src}:sM (.fieldAddr n x)=true:=rfl
theorem Ih {k:Option Nat} {n:Nat} {x:Src}:sM (.field k n x)=true:=rfl
theorem Na {n:Nat} {x y:Src}:sM (.indexAddr n x y)=true:=rfl
theorem Nb {n:Nat} {x:Src}:sM (.extract n x)=true:=rfl
theorem M9 {x:Src}:sM (.len x)=true:=rfl
theorem Ku {k:Option Nat} {x:Src}:sM (.load k x)=true:=rfl
theorem M7 {xs:List Src}:sM (.min xs)=true:=rfl
theorem M8 {xs:List Src}:sM (.max xs)=true:=rfl
theorem Jj {n:Nat} {z:List AV}:AOp.makes (.alloc n z)=true:=rfl
theorem Ob {n:Nat} {x:Src}:AOp.makes (.box n x)=true:=rfl
theorem Qb {n m k:Nat} {z:List AV} {ps:List ((Nat × Nat) × Src)}:AOp.makes (.buildSlice n m z k ps)=true:=rfl
theorem LW {n m k:Nat} {z:List AV} {a b:Src}:AOp.makes (.mksl n m k z a b)=true:=rfl
end
def aB {A1 B1:Prop} (a:A1) (b:B1):A1/\B1:=⟨a,b⟩
def aC {A1 B1 C1:Prop} (a:A1) (b:B1) (c:C1):A1/\B1/\C1:=⟨a,b,c⟩
def aV {A1 B1 C1 D1:Prop} (a:A1) (b:B1) (c:C1) (d:D1):A1/\B1/\C1/\D1:=⟨a,b,c,d⟩
def cr {A1 B1 C1 D1 E1:Prop} (a:A1) (b:B1) (c:C1) (d:D1) (e:E1):A1/\B1/\C1/\D1/\E1:=⟨a,b,c,d,e⟩
def eW {A1 B1 C1 D1 E1 F1:Prop} (a:A1) (b:B1) (c:C1) (d:D1) (e:E1) (f:F1):A1/\B1/\C1/\D1/\E1/\F1:=⟨a,b,c,d,e,f⟩
def gf {A1 B1 C1 D1 E1 F1 G1:Prop} (a:A1) (b:B1) (c:C1) (d:D1) (e:E1) (f:F1) (g:G1):A1/\B1/\C1/\D1/\E1/\F1/\G1:=⟨a,b,c,d,e,f,g⟩
def ki {A1 B1 C1 D1 E1 F1 G1 H1:Prop} (a:A1) (b:B1) (c:C1) (d:D1) (e:E1) (f:F1) (g:G1) (h:H1):A1/\B1/\C1/\D1/\E1/\F1/\G1/\H1:=⟨a,b,c,d,e,f,g,h⟩
def kj {A1 B1 C1 D1 E1 F1 G1 H1 I1:Prop} (a:A1) (b:B1) (c:C1) (d:D1) (e:E1) (f:F1) (g:G1) (h:H1) (i:I1):A1/\B1/\C1/\D1/\E1/\F1/\G1/\H1/\I1:=⟨a,b,c,d,e,f,g,h,i⟩
def rM {A1 B1 C1 D1 E1 F1 G1 H1 I1 J1:Prop} (a:A1) (b:B1) (c:C1) (d:D1) (e:E1) (f:F1) (g:G1) (h:H1) (i:I1) (j:J1):A1/\B1/\C1/\D1/\E1/\F1/\G1/\H1/\I1/\J1:=⟨a,b,c,d,e,f,g,h,i,j⟩
def rc {A1 B1 C1 D1 E1 F1 G1 H1 I1 J1 K1:Prop} (a:A1) (b:B1) (c:C1) (d:D1) (e:E1) (f:F1) (g:G1) (h:H1) (i:I1) (j:J1) (k:K1):A1/\B1/\C1/\D1/\E1/\F1/\G1/\H1/\I1/\J1/\K1:=⟨a,b,c,d,e,f,g,h,i,j,k⟩
def Al {A1 B1 C1 D1 E1 F1 G1 H1 I1 J1 K1 L1:Prop} (a:A1) (b:B1) (c:C1) (d:D1) (e:E1) (f:F1) (g:G1) (h:H1) (i:I1) (j:J1) (k:K1) (l:L1):A1/\B1/\C1/\D1/\E1/\F1/\G1/\H1/\I1/\J1/\K1/\L1:=⟨a,b,c,d,e,f,g,h,i,j,k,l⟩
def xK {A1 B1 C1 D1 E1 F1 G1 H1 I1 J1 K1 L1 M1:Prop} (a:A1) (b:B1) (c:C1) (d:D1) (e:E1) (f:F1) (g:G1) (h:H1) (i:I1) (j:J1) (k:K1) (l:L1) (m:M1):A1/\B1/\C1/\D1/\E1/\F1/\G1/\H1/\I1/\J1/\K1/\L1/\M1:=⟨a,b,c,d,e,f,g,h,i,j,k,l,m⟩
def Ik {A1 B1 C1 D1 E1 F1 G1 H1 I1 J1 K1 L1 M1 N1:Prop} (a:A1) (b:B1) (c:C1) (d:D1) (e:E1) (f:F1) (g:G1) (h:H1) (i:I1) (j:J1) (k:K1) (l:L1) (m:M1) (n:N1):A1/\B1/\C1/\D1/\E1/\F1/\G1/\H1/\I1/\J1/\K1/\L1/\M1/\N1:=⟨a,b,c,d,e,f,g,h,i,j,k,l,m,n⟩
def Pi {A1 B1 C1 D1 E1 F1 G1 H1 I1 J1 K1 L1 M1 N1 O1:Prop} (a:A1) (b:B1) (c:C1) (d:D1) (e:E1) (f:F1) (g:G1) (h:H1) (i:I1) (j:J1) (k:K1) (l:L1) (m:M1) (n:N1) (o:O1):A1/\B1/\C1/\D1/\E1/\F1/\G1/\H1/\I1/\J1/\K1/\L1/\M1/\N1/\O1:=⟨a,b,c,d,e,f,g,h,i,j,k,l,m,n,o⟩
def QK {A1 B1 C1 D1 E1 F1 G1 H1 I1 J1 K1 L1 M1 N1 O1 P1:Prop} (a:A1) (b:B1) (c:C1) (d:D1) (e:E1) (f:F1) (g:G1) (h:H1) (i:I1) (j:J1) (k:K1) (l:L1) (m:M1) (n:N1) (o:O1) (p:P1):A1/\B1/\C1/\D1/\E1/\F1/\G1/\H1/\I1/\J1/\K1/\L1/\M1/\N1/\O1/\P1:=⟨a,b,c,d,e,f,g,h,i,j,k,l,m,n,o,p⟩
def Fd {A1 B1 C1 D1 E1 F1 G1 H1 I1 J1 K1 L1 M1 N1 O1 P1 Q1:Prop} (a:A1) (b:B1) (c:C1) (d:D1) (e:E1) (f:F1) (g:G1) (h:H1) (i:I1) (j:J1) (k:K1) (l:L1) (m:M1) (n:N1) (o:O1) (p:P1) (q:Q1):A1/\B1/\C1/\D1/\E1/\F1/\G1/\H1/\I1/\J1/\K1/\L1/\M1/\N1/\O1/\P1/\Q1:=⟨a,b,c,d,e,f,g,h,i,j,k,l,m,n,o,p,q⟩
def BC {A1 B1 C1 D1 E1 F1 G1 H1 I1 J1 K1 L1 M1 N1 O1 P1 Q1 R1:Prop} (a:A1) (b:B1) (c:C1) (d:D1) (e:E1) (f:F1) (g:G1) (h:H1) (i:I1) (j:J1) (k:K1) (l:L1) (m:M1) (n:N1) (o:O1) (p:P1) (q:Q1) (r:R1):A1/\B1/\C1/\D1/\E1/\F1/\G1/\H1/\I1/\J1/\K1/\L1/\M1/\N1/\O1/\P1/\Q1/\R1:=⟨a,b,c,d,e,f,g,h,i,j,k,l,m,n,o,p,q,r⟩
def Ph {A1 B1 C1 D1 E1 F1 G1 H1 I1 J1 K1 L1 M1 N1 O1 P1 Q1 R1 S1:Prop} (a:A1) (b:B1) (c:C1) (d:D1) (e:E1) (f:F1) (g:G1) (h:H1) (i:I1) (j:J1) (k:K1) (l:L1) (m:M1) (n:N1) (o:O1) (p:P1) (q:Q1) (r:R1) (s:S1):A1/\B1/\C1/\D1/\E1/\F1/\G1/\H1/\I1/\J1/\K1/\L1/\M1/\N1/\O1/\P1/\Q1/\R1/\S1:=⟨a,b,c,d,e,f,g,h,i,j,k,l,m,n,o,p,q,r,s⟩
def QJ {A1 B1 C1 D1 E1 F1 G1 H1 I1 J1 K1 L1 M1 N1 O1 P1 Q1 R1 S1 T1:Prop} (a:A1) (b:B1) (c:C1) (d:D1) (e:E1) (f:F1) (g:G1) (h:H1) (i:I1) (j:J1) (k:K1) (l:L1) (m:M1) (n:N1) (o:O1) (p:P1) (q:Q1) (r:R1) (s:S1) (t:T1):A1/\B1/\C1/\D1/\E1/\F1/\G1/\H1/\I1/\J1/\K1/\L1/\M1/\N1/\O1/\P1/\Q1/\R1/\S1/\T1:=⟨a,b,c,d,e,f,g,h,i,j,k,l,m,n,o,p,q,r,s,t⟩
def QI {A1 B1 C1 D1 E1 F1 G1 H1 I1 J1 K1 L1 M1 N1 O1 P1 Q1 R1 S1 T1 U1:Prop} (a:A1) (b:B1) (c:C1) (d:D1) (e:E1) (f:F1) (g:G1) (h:H1) (i:I1) (j:J1) (k:K1) (l:L1) (m:M1) (n:N1) (o:O1) (p:P1) (q:Q1) (r:R1) (s:S1) (t:T1) (u:U1):A1/\B1/\C1/\D1/\E1/\F1/\G1/\H1/\I1/\J1/\K1/\L1/\M1/\N1/\O1/\P1/\Q1/\R1/\S1/\T1/\U1:=⟨a,b,c,d,e,f,g,h,i,j,k,l,m,n,o,p,q,r,s,t,u⟩
def Pg {A1 B1 C1 D1 E1 F1 G1 H1 I1 J1 K1 L1 M1 N1 O1 P1 Q1 R1 S1 T1 U1 V1:Prop} (a:A1) (b:B1) (c:C1) (d:D1) (e:E1) (f:F1) (g:G1) (h:H1) (i:I1) (j:J1) (k:K1) (l:L1) (m:M1) (n:N1) (o:O1) (p:P1) (q:Q1) (r:R1) (s:S1) (t:T1) (u:U1) (v:V1):A1/\B1/\C1/\D1/\E1/\F1/\G1/\H1/\I1/\J1/\K1/\L1/\M1/\N1/\O1/\P1/\Q1/\R1/\S1/\T1/\U1/\V1:=⟨a,b,c,d,e,f,g,h,i,j,k,l,m,n,o,p,q,r,s,t,u,v⟩
def sL:=mc (mc (mc (mc (mc (mc (@Lm) (@Lk)) (mc (@IN) (@IM))) (mc (mc (@ML) (@MK)) (mc (@J4) (@J5)))) (mc (mc (mc (@Lo) (@Ln)) (mc (@IP) (@DL))) (mc (mc (@L5) (@Jp)) (mc (@Jo) (mc (@Nd) (@Pj)))))) (mc (mc (mc (mc (@No) (@CV)) (mc (@Nl) (@Nk))) (mc (mc (@Pk) (@Kz)) (mc (@Ni) (@KA)))) (mc (mc (mc (@xL) (@BD)) (mc (@OT) (@Nh))) (mc (mc (@KI) (@Np)) (mc (@A0) (mc (@yX) (@EI))))))) (mc (mc (mc (mc (mc (@zu) (@Nf)) (mc (@Fg) (@QL))) (mc (mc (@Nm) (@Pn)) (mc (@Po) (@QN)))) (mc (mc (mc (@KE) (@Pp)) (mc (@KH) (@KB))) (mc (mc (@Ky) (@Nj)) (mc (@Uw) (mc (@Pr) (@QM)))))) (mc (mc (mc (mc (@Am) (@Pq)) (mc (@Pm) (@Pl))) (mc (mc (@Ff) (@Il)) (mc (@Lz) (mc (@Ly) (@Mi))))) (mc (mc (mc (@Mh) (@JE)) (mc (@JF) (@Ny))) (mc (mc (@Nx) (@KQ)) (mc (@KR) (mc (@KF) (@CU)))))))
def sK:=mc (mc (mc (mc (mc (mc (mc (@uH) (@A0)) (mc (@yX) (@EI))) (mc (mc (@zu) (@Gy)) (mc (@B4) (mc (@GT) (@Jy))))) (mc (mc (mc (@Qr) (@Rl)) (mc (@iD) (mc (@kP) (@V2)))) (mc (mc (@OH) (@OD)) (mc (@Ia) (mc (@OE) (@OF)))))) (mc (mc (mc (mc (@OG) (@Mx)) (mc (@Jc) (mc (@PJ) (@OJ)))) (mc (mc (@OI) (@Ci)) (mc (@tj) (mc (@QA) (@OC))))) (mc (mc (mc (@List.length_set.{0}) (mc (@if_true.{1}) (@if_true.{0}))) (mc (mc (@if_false.{1}) (@if_false.{0})) (mc (@List.length_cons.{0}) (@List.length_nil.{0})))) (mc (mc (@List.map_cons.{0,0}) (@List.map_nil.{0,0})) (mc (@List.append_nil.{0}) (mc (@List.nil_append.{0}) (@List.cons_append.{0}))))))) (mc (mc (mc (mc (mc (@Option.map_some.{0,0}) (@Option.map_none.{0,0})) (mc (@Yg) (mc (@YY) (@YJ)))) (mc (mc (@decide_eq_true_eq) (@V3)) (mc (@decide_eq_false_iff_not) (mc (@Vx) (@true_or))))) (mc (mc (mc (@or_true) (@true_and)) (mc (@and_true) (mc (@false_or) (@or_false)))) (mc (mc (@ne_eq.{1}) (@not_false_eq_true)) (mc (@not_true_eq_false) (mc (@eq_self.{1}) (@VB)))))) (mc (mc (mc (mc (@Wy) (@D7)) (mc (@Ge) (mc (@Gx) (@EC)))) (mc (mc (@QU) (@P4)) (mc (@Ol) (mc (@cZ) (@next_put))))) (mc (mc (mc (@next_kill) (@PY)) (mc (@PX) (mc (@PW) (@Lv)))) (mc (mc (@IU) (@LA)) (mc (@IB) (mc (@IA) (@Qf)))))))) (mc (mc (mc (mc (mc (mc (@Ju) (@Ql)) (mc (@au) (mc (@az) (@dg)))) (mc (mc (@PR) (@L6)) (mc (@Sd) (mc (@Sc) (@Sb))))) (mc (mc (mc (@RD) (@RC)) (mc (@Rk) (mc (@Rj) (@Qy)))) (mc (mc (@MI) (@O8)) (mc (@aQ) (mc (@bf) (@bp)))))) (mc (mc (mc (mc (@cz) (@bF)) (mc (@Nat.add_eq) (mc (@List.take_zero.{0}) (@List.drop_zero.{0})))) (mc (mc (@List.take_succ_cons.{0}) (@List.drop_succ_cons.{0})) (mc (@List.append_eq.{0}) (mc (@decide_true) (@decide_false))))) (mc (mc (mc (@Bool.and_true) (@Bool.and_false)) (mc (@Zo) (mc (@Y4) (@Int.lt_irrefl)))) (mc (mc (@RF) (@RE)) (mc (@Jl) (mc (@List.set_cons_zero.{0}) (@List.set_cons_succ.{0}))))))) (mc (mc (mc (mc (mc (@Int.ofNat_lt) (@Int.ofNat_le)) (mc (@Int.natCast_inj) (mc (@Int.natCast_pos) (@FI)))) (mc (mc (@IY) (@List.zip_cons_cons.{0,0})) (mc (@List.zip_nil_left.{0,0}) (mc (@List.zip_nil_right.{0,0}) (@RT))))) (mc (mc (mc (@RS) (@RR)) (mc (@Qq) (mc (@JH) (@N8)))) (mc (mc (@P9) (@Qm)) (mc (@Qo) (mc (@Qz) (@Qs)))))) (mc (mc (mc (mc (@PK) (@Kb)) (mc (@J6) (mc (@J8) (@Ka)))) (mc (mc (@vI) (@vH)) (mc (@GD) (mc (@J7) (@nz))))) (mc (mc (mc (@Js) (@BS)) (mc (@lH) (mc (@mj) (@Hu)))) (mc (mc (@Qk) (@Wo)) (mc (@RN) (mc (@RM) (@Ri))))))))
def QS:=mc (mc (mc (@PC) (mc (@NB) (@KS))) (mc (@NA) (mc (@PD) (@Ow)))) (mc (mc (@Qd) (mc (@Of) (@Oe))) (mc (mc (@Od) (@L3)) (mc (@Qg) (@Oi))))
def QR:=mc (mc (mc (mc (mc (@K0) (@KZ)) (mc (@KY) (@Fp))) (mc (mc (@KW) (@KX)) (mc (@qY) (mc (@oN) (@iF))))) (mc (mc (mc (@jG) (@List.length_replicate.{0})) (mc (@List.getD_cons_zero.{0}) (@List.getD_cons_succ.{0}))) (mc (mc (@List.getLastD_cons.{0}) (@List.getLastD_nil.{0})) (mc (@Pe) (mc (@Ks) (@Ii)))))) (mc (mc (mc (mc (@Ig) (@Nc)) (mc (@Pd) (@Kv))) (mc (mc (@Kt) (@If)) (mc (@Pf) (mc (@Ih) (@Na))))) (mc (mc (mc (@Nb) (@M9)) (mc (@Ku) (@M7))) (mc (mc (@M8) (@Jj)) (mc (@Ob) (mc (@Qb) (@LW))))))
def R9:=mc (mc (@Qi) (@Oj)) (mc (@Ra) (mc (@Qh) (@Ok)))
def Sa:=mc (@PB) (mc (@QQ) (@Nz))
def zW {F P Q:Prop} (f:F) (q:Q) (h:F->Q->P:=by intro h q; simp -dsimp (maxSteps:=1000000) (disch:=(first | omega | assumption | exact aQ _ | exact bf _ _ | exact bp | exact cz _ _ _ | exact bF _ _ | exact bo _ _ _ _ _ _ | exact cJ _ _ | exact bH _)) only [↓sL,sK,Nat.reduceLT,Nat.reduceEqDiff,Nat.reduceAdd,reduceIte,reduceCtorEq,Nat.reduceBEq,Int.reduceEq,Int.reduceLT,Int.reduceLE,Int.reduceAdd,Int.reduceSub,h]; exact q):P:=h f q
def uv {P Q:Prop} (q:Q) (h:Q->P:=by intro q; simp -dsimp (maxSteps:=1000000) (disch:=(first | omega | assumption | exact aQ _ | exact bf _ _ | exact bp | exact cz _ _ _ | exact bF _ _ | exact bo _ _ _ _ _ _ | exact cJ _ _ | exact bH _)) only [↓sL,sK,Nat.reduceLT,Nat.reduceEqDiff,Nat.reduceAdd,reduceIte,reduceCtorEq,Nat.reduceBEq,Int.reduceEq,Int.reduceLT,Int.reduceLE,Int.reduceAdd,Int.reduceSub]; exact q):P:=h q
def zV {F P:Prop} (f:F) (h:F->P:=by intro h; simp -dsimp (maxSteps:=1000000) (disch:=(first | omega | assumption | exact aQ _ | exact bf _ _ | exact bp | exact cz _ _ _ | exact bF _ _ | exact bo _ _ _ _ _ _ | exact cJ _ _ | exact bH _)) only [↓sL,sK,Nat.reduceLT,Nat.reduceEqDiff,Nat.reduceAdd,reduceIte,reduceCtorEq,Nat.reduceBEq,Int.reduceEq,Int.reduceLT,Int.reduceLE,Int.reduceAdd,Int.reduceSub,h]):P:=h f
def cR {P:Prop} (h:P:=by simp -dsimp (maxSteps:=1000000) (disch:=(first | omega | assumption | exact aQ _ | exact bf _ _ | exact bp | exact cz _ _ _ | exact bF _ _ | exact bo _ _ _ _ _ _ | exact cJ _ _ | exact bH _)) only [↓sL,sK,Nat.reduceLT,Nat.reduceEqDiff,Nat.reduceAdd,reduceIte,reduceCtorEq,Nat.reduceBEq,Int.reduceEq,Int.reduceLT,Int.reduceLE,Int.reduceAdd,Int.reduceSub]):P:=h
def zD {F P Q:Prop} (f:F) (q:Q) (h:F->Q->P:=by intro h q; simp -dsimp (maxSteps:=1000000) (disch:=(first | omega | assumption | exact aQ _ | exact bf _ _ | exact bp | exact cz _ _ _ | exact bF _ _ | exact bo _ _ _ _ _ _ | exact cJ _ _ | exact bH _)) only [↓sL,sK,↓QS,QR,Nat.reduceLT,Nat.reduceEqDiff,Nat.reduceAdd,reduceIte,reduceCtorEq,Nat.reduceBEq,Int.reduceEq,Int.reduceLT,Int.reduceLE,Int.reduceAdd,Int.reduceSub,h]; exact q):P:=h f q
def zE {F P:Prop} (f:F) (h:F->P:=by intro h; simp -dsimp (maxSteps:=1000000) (disch:=(first | omega | assumption | exact aQ _ | exact bf _ _ | exact bp | exact cz _ _ _ | exact bF _ _ | exact bo _ _ _ _ _ _ | exact cJ _ _ | exact bH _)) only [↓sL,sK,↓QS,QR,Nat.reduceLT,Nat.reduceEqDiff,Nat.reduceAdd,reduceIte,reduceCtorEq,Nat.reduceBEq,Int.reduceEq,Int.reduceLT,Int.reduceLE,Int.reduceAdd,Int.reduceSub,h]):P:=h f
def zK {P:Prop} (h:P:=by first | assumption | simp (disch:=(first | omega | assumption | (simp only [cZ,next_put,next_kill]; omega))) only [R9] <;> assumption):P:=h
def zF {P:Prop} (h:P:=by first | assumption | simp (disch:=(first | omega | assumption | (simp only [cZ,next_put,next_kill]; omega))) only [Sa] <;> assumption):P:=h
def zU {P:Prop} (h:P:=by decide):P:=h
def zG (A:Heap) {G:Heap} (h:Kp A G:=by first | assumption | simp (disch:=(first | omega | assumption | (simp only [cZ,next_put,next_kill]; omega))) only [R9] <;> assumption):Sub A G:=h.sub
def zT (A:Heap) {G C:Heap} (h:Kp A G) (h2:Kp G C):Kp A C/\A.next<=C.next/\Wf C:=⟨h.trans h2,(h.trans h2).le,h2.wf⟩
set_option maxRecDepth 100000
abbrev Su:Nat:=5
abbrev fy:Nat:=6
abbrev fT:Nat:=7
abbrev Sv:Nat:=8
abbrev dF:Nat:=9
abbrev SI:Nat:=17
abbrev qL:Nat:=18
abbrev SS:Nat:=19
abbrev SU:Nat:=20
abbrev iP:Nat:=21
abbrev Tb:Nat:=22
abbrev SV:Nat:=15
abbrev TI:Nat:=23
abbrev eN:Nat:=24
abbrev gu:Nat:=25
abbrev pB:Nat:=10
abbrev pC:Nat:=26
abbrev pE:Nat:=27
abbrev oh:Nat:=28
abbrev hZ:Nat:=29
abbrev nw:Nat:=30
abbrev fw:Nat:=31
abbrev fu:Nat:=32
abbrev oi:Nat:=33
abbrev l9:Nat:=45
abbrev Sx:Nat:=46
abbrev mL:Nat:=47
abbrev mJ:Nat:=49
abbrev uI:Nat:=48
abbrev SJ:Nat:=50
abbrev de:Nat:=51
abbrev TG:Nat:=52
abbrev pw:Nat:=53
abbrev SR:Nat:=42
abbrev nZ:Nat:=37
abbrev gO:Nat:=38
abbrev jS:Nat:=54
abbrev TH:Nat:=56
abbrev ST:Nat:=55
abbrev To:Nat:=57
abbrev yG:Nat:=58
abbrev cL:Nat:=34
abbrev lz:Nat:=36
abbrev cE:Nat:=60
abbrev pL:Nat:=59
abbrev cF:Nat:=61
abbrev rW:Nat:=62
abbrev fO:Nat:=14
abbrev fC:Nat:=63
abbrev eP:Nat:=64
abbrev jZ:Nat:=65
abbrev mX:Nat:=67
abbrev pJ:Nat:=66
abbrev fq:Nat:=11
abbrev pM:Nat:=68
abbrev Sq:Nat:=79
abbrev lu:Nat:=82
abbrev nU:Nat:=83
abbrev S8:Nat:=85
abbrev px:Nat:=84
abbrev jI:Nat:=86
abbrev nT:Nat:=88
abbrev pp:Nat:=87
abbrev pq:Nat:=89
abbrev nS:Nat:=90
abbrev fz:Nat:=74
abbrev eO:Nat:=75
abbrev lA:Nat:=76
abbrev pK:Nat:=77
abbrev S9:Nat:=69
abbrev mf:Nat:=91
abbrev bQ:Nat:=92
abbrev bR:Nat:=93
abbrev yI:Nat:=94
abbrev fP:Nat:=41
abbrev eB:Nat:=96
abbrev bO:Nat:=95
abbrev eA:Nat:=97
abbrev pI:Nat:=98
abbrev pO:Nat:=99
abbrev bM:Nat:=100
abbrev jJ:Nat:=101
abbrev ot:Nat:=102
abbrev ft:Nat:=35
abbrev gy:Nat:=103
abbrev gw:Nat:=105
abbrev aT:Nat:=106
abbrev aS:Nat:=107
abbrev cC:Nat:=116
abbrev kr:Nat:=118
abbrev uP:Nat:=119
abbrev uR:Nat:=120
abbrev uN:Nat:=121
abbrev uM:Nat:=122
abbrev eh:Nat:=114
abbrev bN:Nat:=113
abbrev ee:Nat:=115
abbrev rY:Nat:=104
abbrev oj:Nat:=123
abbrev d9:Nat:=72
abbrev dZ:Nat:=73
abbrev cd:Nat:=78
abbrev lB:Nat:=124
abbrev pN:Nat:=125
abbrev sr:Nat:=126
abbrev cV:Nat:=127
abbrev SO:Nat:=128
abbrev mR:Nat:=129
abbrev dw:Nat:=130
abbrev iV:Nat:=131
abbrev b9:Nat:=133
abbrev SF:Nat:=146
abbrev mU:Nat:=145
abbrev mY:Nat:=147
abbrev sj:Nat:=148
abbrev cw:Nat:=149
abbrev dE:Nat:=150
abbrev yH:Nat:=151
abbrev Sz:Nat:=152
abbrev SD:Nat:=153
abbrev gB:Nat:=154
abbrev sf:Nat:=156
abbrev r8:Nat:=155
abbrev mS:Nat:=157
abbrev ol:Nat:=158
abbrev iU:Nat:=159
abbrev iQ:Nat:=160
abbrev ca:Nat:=144
abbrev gQ:Nat:=134
abbrev cy:Nat:=161
abbrev fQ:Nat:=112
abbrev kE:Nat:=162
abbrev fV:Nat:=163
abbrev iz:Nat:=166
abbrev h9:Nat:=167
abbrev mP:Nat:=168
abbrev iy:Nat:=170
abbrev rX:Nat:=169
abbrev uK:Nat:=132
abbrev SW:Nat:=176
abbrev pH:Nat:=177
abbrev uO:Nat:=179
abbrev se:Nat:=178
abbrev yJ:Nat:=180
abbrev cO:Nat:=181
abbrev iT:Nat:=182
abbrev iS:Nat:=117
abbrev Ta:Nat:=183
abbrev iR:Nat:=184
abbrev pF:Nat:=185
abbrev fR:Nat:=143
abbrev oB:Nat:=165
abbrev j8:Nat:=164
abbrev eY:Nat:=186
abbrev mg:Nat:=187
abbrev SX:Nat:=189
abbrev oA:Nat:=188
abbrev l8:Nat:=190
abbrev cK:Nat:=192
abbrev cD:Nat:=191
abbrev fX:Nat:=193
abbrev py:Nat:=196
abbrev nY:Nat:=198
abbrev lv:Nat:=197
abbrev nV:Nat:=194
abbrev mM:Nat:=195
abbrev aX:Nat:=173
abbrev nX:Nat:=174
abbrev r9:Nat:=208
abbrev aY:Nat:=209
abbrev gt:Nat:=210
abbrev fS:Nat:=175
abbrev pz:Nat:=211
abbrev sq:Nat:=212
abbrev pt:Nat:=214
abbrev uJ:Nat:=213
abbrev lp:Nat:=215
abbrev mQ:Nat:=216
abbrev cB:Nat:=217
abbrev mN:Nat:=218
abbrev lq:Nat:=219
abbrev mO:Nat:=221
abbrev nW:Nat:=227
abbrev uQ:Nat:=230
abbrev mI:Nat:=220
abbrev fd:Nat:=231
abbrev mV:Nat:=234
abbrev fW:Nat:=3
abbrev af:Nat:=24
abbrev t_api_Con:Nat:=26
abbrev ak:Nat:=28
abbrev ah:Nat:=32
abbrev eF:Nat:=48
abbrev aG:Nat:=49
abbrev aa:Nat:=51
abbrev vQ:Nat:=56
abbrev rg:Nat:=82
abbrev vZ:Nat:=86
abbrev Ti:Nat:=88
abbrev ae:Nat:=94
abbrev S0:Nat:=100
abbrev fp:Nat:=110
abbrev fo:Nat:=117
abbrev rf:Nat:=118
abbrev BT:Nat:=125
abbrev aO:Nat:=164
abbrev Sy:Nat:=189
abbrev aF:Nat:=196
abbrev eE:Nat:=202
abbrev kY:Nat:=236
theorem RI (n:Nat):Int.ofNat n=(OfNat.ofNat n:Int):=rfl
theorem Q7:Int.negSucc 0 = -1:=rfl
theorem Q6:Int.negSucc 1 = -2:=rfl
theorem Rg (id id1 i n c k:Nat) (body:ACode):ACode.block id (.loop (.seq (.region [⟨some c,.bin .lss .int (.t i) (.t n),none⟩]) (.seq (.cond (.t c) .skip (.exit id)) (.seq (.block id1 body) (.region [⟨some k,.bin .add .int (.t i) (.c (.int .i64 1)),none⟩,⟨some i,.mv (.t k),none⟩])))))=Ot id id1 i n c k body:=rfl
theorem Rh (id:Nat) (c:ACode):ACode.block id (.loop c)=MJ id c:=rfl
set_option maxHeartbeats 8000000
def aj (f:Func) (a:aw) (_:Qw Tryz.prog f=some a:=by conv=>lhs; reduce; dsimp only [↓RI,↓Q7,↓Q6]; (try dsimp only [Rg]); (try dsimp only [Rh])):aw:=a
def c_facetroomlaw22_PolyBounds:aw:=aj Tryz.f5 _
def jf:aw:=aj Tryz.f6 _
def jx:aw:=aj Tryz.f7 _
def gJ:aw:=aj Tryz.f8 _
def gI:aw:=aj Tryz.f9 _
def Tk:aw:=aj Tryz.f17 _
def Bh:aw:=aj Tryz.f18 _
def Tj:aw:=aj Tryz.f19 _
def Tz:aw:=aj Tryz.f20 _
def tQ:aw:=aj Tryz.f21 _
def TM:aw:=aj Tryz.f22 _
def TR:aw:=aj Tryz.f15 _
def Ua:aw:=aj Tryz.f23 _
def il:aw:=aj Tryz.f24 _
def ka:aw:=aj Tryz.f25 _
def wU:aw:=aj Tryz.f10 _
def wV:aw:=aj Tryz.f26 _
def wX:aw:=aj Tryz.f27 _
def tZ:aw:=aj Tryz.f28 _
def kz:aw:=aj Tryz.f29 _
def Br:aw:=aj Tryz.f30 _
def je:aw:=aj Tryz.f31 _
def jd:aw:=aj Tryz.f32 _
def ui:aw:=aj Tryz.f33 _
def wR:aw:=aj Tryz.f45 _
def c_P_poly_bounds_take:aw:=aj Tryz.f46 _
def rv:aw:=aj Tryz.f47 _
def ru:aw:=aj Tryz.f49 _
def Bf:aw:=aj Tryz.f48 _
def SY:aw:=aj Tryz.f50 _
def fk:aw:=aj Tryz.f51 _
def TZ:aw:=aj Tryz.f52 _
def wN:aw:=aj Tryz.f53 _
def TN:aw:=aj Tryz.f42 _
def tY:aw:=aj Tryz.f37 _
def tX:aw:=aj Tryz.f38 _
def rt:aw:=aj Tryz.f54 _
def T9:aw:=aj Tryz.f56 _
def Tl:aw:=aj Tryz.f55 _
def TT:aw:=aj Tryz.f57 _
def EJ:aw:=aj Tryz.f58 _
def dW:aw:=aj Tryz.f34 _
def qi:aw:=aj Tryz.f36 _
def dQ:aw:=aj Tryz.f60 _
def xh:aw:=aj Tryz.f59 _
def dR:aw:=aj Tryz.f61 _
def zw:aw:=aj Tryz.f62 _
def js:aw:=aj Tryz.f14 _
def jh:aw:=aj Tryz.f63 _
def rI:aw:=aj Tryz.f64 _
def xf:aw:=aj Tryz.f65 _
def c_dual_points:aw:=aj Tryz.f67 _
def xg:aw:=aj Tryz.f66 _
def SG:aw:=aj Tryz.f11 _
def xl:aw:=aj Tryz.f68 _
def du:aw:=aj Tryz.f79 _
def qe:aw:=aj Tryz.f82 _
def tP:aw:=aj Tryz.f83 _
def wM:aw:=aj Tryz.f85 _
def wO:aw:=aj Tryz.f84 _
def nD:aw:=aj Tryz.f86 _
def tO:aw:=aj Tryz.f88 _
def wJ:aw:=aj Tryz.f87 _
def wK:aw:=aj Tryz.f89 _
def tN:aw:=aj Tryz.f90 _
def jg:aw:=aj Tryz.f74 _
def rH:aw:=aj Tryz.f75 _
def zJ:aw:=aj Tryz.f76 _
def c_dual_cons:aw:=aj Tryz.f77 _
def wS:aw:=aj Tryz.f69 _
def xc:aw:=aj Tryz.f91 _
def eH:aw:=aj Tryz.f92 _
def eI:aw:=aj Tryz.f93 _
def EL:aw:=aj Tryz.f94 _
def jt:aw:=aj Tryz.f41 _
def gY:aw:=aj Tryz.f96 _
def cU:aw:=aj Tryz.f95 _
def gX:aw:=aj Tryz.f97 _
def xe:aw:=aj Tryz.f98 _
def c_cone_Gens:aw:=aj Tryz.f99 _
def cS:aw:=aj Tryz.f100 _
def nF:aw:=aj Tryz.f101 _
def TB:aw:=aj Tryz.f102 _
def jc:aw:=aj Tryz.f35 _
def qm:aw:=aj Tryz.f103 _
def qk:aw:=aj Tryz.f105 _
def bB:aw:=aj Tryz.f106 _
def bA:aw:=aj Tryz.f107 _
def dM:aw:=aj Tryz.f116 _
def oW:aw:=aj Tryz.f118 _
def Bo:aw:=aj Tryz.f119 _
def Ub:aw:=aj Tryz.f120 _
def Bm:aw:=aj Tryz.f121 _
def Bk:aw:=aj Tryz.f122 _
def gW:aw:=aj Tryz.f114 _
def cT:aw:=aj Tryz.f113 _
def gV:aw:=aj Tryz.f115 _
def zz:aw:=aj Tryz.f104 _
def zA:aw:=aj Tryz.f123 _
def gU:aw:=aj Tryz.f72 _
def gT:aw:=aj Tryz.f73 _
def dt:aw:=aj Tryz.f78 _
def c_cone_checked:aw:=aj Tryz.f124 _
def xo:aw:=aj Tryz.f125 _
def zY:aw:=aj Tryz.f126 _
def c_P_cone_under_add:aw:=aj Tryz.f127 _
def qg:aw:=aj Tryz.f128 _
def rC:aw:=aj Tryz.f129 _
def dx:aw:=⟨2,2,[],.skip,(some (.sortF af [iV]))⟩
def qp:aw:=aj Tryz.f131 _
def dl:aw:=aj Tryz.f133 _
def ky:aw:=aj Tryz.f146 _
def rE:aw:=aj Tryz.f145 _
def rJ:aw:=aj Tryz.f147 _
def zM:aw:=aj Tryz.f148 _
def fl:aw:=aj Tryz.f149 _
def gH:aw:=aj Tryz.f150 _
def EK:aw:=aj Tryz.f151 _
def jy:aw:=aj Tryz.f152 _
def kb:aw:=aj Tryz.f153 _
def ke:aw:=aj Tryz.f154 _
def zL:aw:=aj Tryz.f156 _
def zC:aw:=aj Tryz.f155 _
def rD:aw:=aj Tryz.f157 _
def uj:aw:=aj Tryz.f158 _
def mz:aw:=⟨3,3,[],
 .skip,
 (some .add64)⟩
def mp:aw:=⟨3,3,[],
 .skip,
 (some .sub64)⟩
def dr:aw:=aj Tryz.f144 _
def bW:aw:=aj Tryz.f134 _
def fJ:aw:=aj Tryz.f161 _
def ju:aw:=aj Tryz.f112 _
def tW:aw:=aj Tryz.f162 _
def jA:aw:=aj Tryz.f163 _
def c_P_cone_under_cut:aw:=aj Tryz.f166 _
def c_P_cone_under_fold:aw:=aj Tryz.f167 _
def rA:aw:=aj Tryz.f168 _
def lW:aw:=aj Tryz.f170 _
def zy:aw:=aj Tryz.f169 _
def Bi:aw:=aj Tryz.f132 _
def uk:aw:=aj Tryz.f176 _
def xd:aw:=aj Tryz.f177 _
def Bn:aw:=aj Tryz.f179 _
def zI:aw:=aj Tryz.f178 _
def EM:aw:=aj Tryz.f180 _
def eJ:aw:=aj Tryz.f181 _
def my:aw:=aj Tryz.f182 _
def mw:aw:=⟨1,25,[(2,none)],
 .seq (.region [
 ⟨(some 2),.mv (.c (.int .i64 0)),none⟩]) <|
 .seq (.seq (.region [
 ⟨(some 3),.mv (.t 0),none⟩,
 ⟨(some 4),.bin .geq .int (.t 3) (.c (.int .u64 4294967296)),none⟩]) <|
 .cond (.t 4)
 (.seq (.region [
  ⟨(some 5),.mv (.t 0),none⟩,
  ⟨(some 6),.bin .shr .int (.t 5) (.c (.int .u64 32)),none⟩,
  ⟨(some 0),.mv (.t 6),none⟩]) <|
 .region [
  ⟨(some 2),.mv (.c (.int .i64 32)),none⟩])
 (.skip)) <|
 .seq (.seq (.region [
 ⟨(some 7),.mv (.t 0),none⟩,
 ⟨(some 8),.bin .geq .int (.t 7) (.c (.int .u64 65536)),none⟩]) <|
 .cond (.t 8)
 (.seq (.region [
  ⟨(some 9),.mv (.t 0),none⟩,
  ⟨(some 10),.bin .shr .int (.t 9) (.c (.int .u64 16)),none⟩,
  ⟨(some 0),.mv (.t 10),none⟩]) <|
 .region [
  ⟨(some 11),.mv (.t 2),none⟩,
  ⟨(some 12),.bin .add .int (.t 11) (.c (.int .i64 16)),none⟩,
  ⟨(some 2),.mv (.t 12),none⟩])
 (.skip)) <|
 .seq (.seq (.region [
 ⟨(some 13),.mv (.t 0),none⟩,
 ⟨(some 14),.bin .geq .int (.t 13) (.c (.int .u64 256)),none⟩]) <|
 .cond (.t 14)
 (.seq (.region [
  ⟨(some 15),.mv (.t 0),none⟩,
  ⟨(some 16),.bin .shr .int (.t 15) (.c (.int .u64 8)),none⟩,
  ⟨(some 0),.mv (.t 16),none⟩]) <|
 .region [
  ⟨(some 17),.mv (.t 2),none⟩,
  ⟨(some 18),.bin .add .int (.t 17) (.c (.int .i64 8)),none⟩,
  ⟨(some 2),.mv (.t 18),none⟩])
 (.skip)) <|
 .seq (.region [
 ⟨(some 19),.mv (.t 2),none⟩,
 ⟨(some 20),.mv (.t 0),none⟩,
 ⟨(some 21),.conv .u8 (.t 20),none⟩,
 ⟨(some 22),.indexStr (.c (.str ⟨#[0,1,2,2,3,3,3,3,4,4,4,4,4,4,4,4,5,5,5,5,5,5,5,5,5,5,5,5,5,5,5,5,6,6,6,6,6,6,6,6,6,6,6,6,6,6,6,6,6,6,6,6,6,6,6,6,6,6,6,6,6,6,6,6,7,7,7,7,7,7,7,7,7,7,7,7,7,7,7,7,7,7,7,7,7,7,7,7,7,7,7,7,7,7,7,7,7,7,7,7,7,7,7,7,7,7,7,7,7,7,7,7,7,7,7,7,7,7,7,7,7,7,7,7,7,7,7,7,8,8,8,8,8,8,8,8,8,8,8,8,8,8,8,8,8,8,8,8,8,8,8,8,8,8,8,8,8,8,8,8,8,8,8,8,8,8,8,8,8,8,8,8,8,8,8,8,8,8,8,8,8,8,8,8,8,8,8,8,8,8,8,8,8,8,8,8,8,8,8,8,8,8,8,8,8,8,8,8,8,8,8,8,8,8,8,8,8,8,8,8,8,8,8,8,8,8,8,8,8,8,8,8,8,8,8,8,8,8,8,8,8,8,8,8,8,8,8,8,8,8,8,8,8,8,8,8]⟩)) (.t 21),none⟩,
 ⟨(some 23),.conv .i64 (.t 22),none⟩,
 ⟨(some 24),.bin .add .int (.t 19) (.t 23),none⟩,
 ⟨(some 2),.mv (.t 24),none⟩]) <|
 .ret,
 none⟩
def wZ:aw:=aj Tryz.f183 _
def mr:aw:=aj Tryz.f184 _
def wY:aw:=aj Tryz.f185 _
def jv:aw:=aj Tryz.f143 _
def zR:aw:=aj Tryz.f165 _
def xm:aw:=aj Tryz.f164 _
def kC:aw:=aj Tryz.f186 _
def xn:aw:=aj Tryz.f187 _
def zN:aw:=aj Tryz.f189 _
def zP:aw:=aj Tryz.f188 _
def wP:aw:=aj Tryz.f190 _
def dV:aw:=aj Tryz.f192 _
def dO:aw:=aj Tryz.f191 _
def c_P_rows_form_put:aw:=aj Tryz.f193 _
def wQ:aw:=aj Tryz.f196 _
def tV:aw:=aj Tryz.f198 _
def qf:aw:=aj Tryz.f197 _
def zx:aw:=aj Tryz.f194 _
def rx:aw:=aj Tryz.f195 _
def bS:aw:=aj Tryz.f173 _
def TA:aw:=aj Tryz.f174 _
def zH:aw:=aj Tryz.f208 _
def dB:aw:=aj Tryz.f209 _
def qj:aw:=aj Tryz.f210 _
def jw:aw:=aj Tryz.f175 _
def c_sat_Signs:aw:=aj Tryz.f211 _
def zQ:aw:=aj Tryz.f212 _
def wL:aw:=aj Tryz.f214 _
def Bg:aw:=aj Tryz.f213 _
def Tf:aw:=aj Tryz.f215 _
def rB:aw:=aj Tryz.f216 _
def dL:aw:=⟨3,3,[],
 .skip,
 (some (.insert 1 24 af))⟩
def ry:aw:=aj Tryz.f218 _
def qc:aw:=aj Tryz.f219 _
def rz:aw:=aj Tryz.f221 _
def tT:aw:=aj Tryz.f227 _
def Bp:aw:=aj Tryz.f230 _
def rr:aw:=aj Tryz.f220 _
def nE:aw:=aj Tryz.f231 _
def rF:aw:=aj Tryz.f234 _
structure Code (tab:Nat->Option aw):Prop where
 q0:tab Su=some c_facetroomlaw22_PolyBounds
 q1:tab fy=some jf
 q2:tab fT=some jx
 q3:tab Sv=some gJ
 q4:tab dF=some gI
 q5:tab SI=some Tk
 q6:tab qL=some Bh
 q7:tab SS=some Tj
 q8:tab SU=some Tz
 q9:tab iP=some tQ
 q10:tab Tb=some TM
 q11:tab SV=some TR
 q12:tab TI=some Ua
 q13:tab eN=some il
 q14:tab gu=some ka
 q15:tab pB=some wU
 q16:tab pC=some wV
 q17:tab pE=some wX
 q18:tab oh=some tZ
 q19:tab hZ=some kz
 q20:tab nw=some Br
 q21:tab fw=some je
 q22:tab fu=some jd
 q23:tab oi=some ui
 q24:tab l9=some wR
 q25:tab Sx=some c_P_poly_bounds_take
 q26:tab mL=some rv
 q27:tab mJ=some ru
 q28:tab uI=some Bf
 q29:tab SJ=some SY
 q30:tab de=some fk
 q31:tab TG=some TZ
 q32:tab pw=some wN
 q33:tab SR=some TN
 q34:tab nZ=some tY
 q35:tab gO=some tX
 q36:tab jS=some rt
 q37:tab TH=some T9
 q38:tab ST=some Tl
 q39:tab To=some TT
 q40:tab yG=some EJ
 q41:tab cL=some dW
 q42:tab lz=some qi
 q43:tab cE=some dQ
 q44:tab pL=some xh
 q45:tab cF=some dR
 q46:tab rW=some zw
 q47:tab fO=some js
 q48:tab fC=some jh
 q49:tab eP=some rI
 q50:tab jZ=some xf
 q51:tab mX=some c_dual_points
 q52:tab pJ=some xg
 q53:tab fq=some SG
 q54:tab pM=some xl
 q55:tab Sq=some du
 q56:tab lu=some qe
 q57:tab nU=some tP
 q58:tab S8=some wM
 q59:tab px=some wO
 q60:tab jI=some nD
 q61:tab nT=some tO
 q62:tab pp=some wJ
 q63:tab pq=some wK
 q64:tab nS=some tN
 q65:tab fz=some jg
 q66:tab eO=some rH
 q67:tab lA=some zJ
 q68:tab pK=some c_dual_cons
 q69:tab S9=some wS
 q70:tab mf=some xc
 q71:tab bQ=some eH
 q72:tab bR=some eI
 q73:tab yI=some EL
 q74:tab fP=some jt
 q75:tab eB=some gY
 q76:tab bO=some cU
 q77:tab eA=some gX
 q78:tab pI=some xe
 q79:tab pO=some c_cone_Gens
 q80:tab bM=some cS
 q81:tab jJ=some nF
 q82:tab ot=some TB
 q83:tab ft=some jc
 q84:tab gy=some qm
 q85:tab gw=some qk
 q86:tab aT=some bB
 q87:tab aS=some bA
 q88:tab cC=some dM
 q89:tab kr=some oW
 q90:tab uP=some Bo
 q91:tab uR=some Ub
 q92:tab uN=some Bm
 q93:tab uM=some Bk
 q94:tab eh=some gW
 q95:tab bN=some cT
 q96:tab ee=some gV
 q97:tab rY=some zz
 q98:tab oj=some zA
 q99:tab d9=some gU
 q100:tab dZ=some gT
 q101:tab cd=some dt
 q102:tab lB=some c_cone_checked
 q103:tab pN=some xo
 q104:tab sr=some zY
 q105:tab cV=some c_P_cone_under_add
 q106:tab SO=some qg
 q107:tab mR=some rC
 q108:tab dw=some dx
 q109:tab iV=some qp
 q110:tab b9=some dl
 q111:tab SF=some ky
 q112:tab mU=some rE
 q113:tab mY=some rJ
 q114:tab sj=some zM
 q115:tab cw=some fl
 q116:tab dE=some gH
 q117:tab yH=some EK
 q118:tab Sz=some jy
 q119:tab SD=some kb
 q120:tab gB=some ke
 q121:tab sf=some zL
 q122:tab r8=some zC
 q123:tab mS=some rD
 q124:tab ol=some uj
 q125:tab iU=some mz
 q126:tab iQ=some mp
 q127:tab ca=some dr
 q128:tab gQ=some bW
 q129:tab cy=some fJ
 q130:tab fQ=some ju
 q131:tab kE=some tW
 q132:tab fV=some jA
 q133:tab iz=some c_P_cone_under_cut
 q134:tab h9=some c_P_cone_under_fold
 q135:tab mP=some rA
 q136:tab iy=some lW
 q137:tab rX=some zy
 q138:tab uK=some Bi
 q139:tab SW=some uk
 q140:tab pH=some xd
 q141:tab uO=some Bn
 q142:tab se=some zI
 q143:tab yJ=some EM
 q144:tab cO=some eJ
 q145:tab iT=some my
 q146:tab iS=some mw
 q147:tab Ta=some wZ
 q148:tab iR=some mr
 q149:tab pF=some wY
 q150:tab fR=some jv
 q151:tab oB=some zR
 q152:tab j8=some xm
 q153:tab eY=some kC
 q154:tab mg=some xn
 q155:tab SX=some zN
 q156:tab oA=some zP
 q157:tab l8=some wP
 q158:tab cK=some dV
 q159:tab cD=some dO
 q160:tab fX=some c_P_rows_form_put
 q161:tab py=some wQ
 q162:tab nY=some tV
 q163:tab lv=some qf
 q164:tab nV=some zx
 q165:tab mM=some rx
 q166:tab aX=some bS
 q167:tab nX=some TA
 q168:tab r9=some zH
 q169:tab aY=some dB
 q170:tab gt=some qj
 q171:tab fS=some jw
 q172:tab pz=some c_sat_Signs
 q173:tab sq=some zQ
 q174:tab pt=some wL
 q175:tab uJ=some Bg
 q176:tab lp=some Tf
 q177:tab mQ=some rB
 q178:tab cB=some dL
 q179:tab mN=some ry
 q180:tab lq=some qc
 q181:tab mO=some rz
 q182:tab nW=some tT
 q183:tab uQ=some Bp
 q184:tab mI=some rr
 q185:tab fd=some nE
 q186:tab mV=some rF
end Go.Proofs.YthjdfjlhjnihfaaGreat.Ev
namespace Go.Proofs.YthjdfjlhjnihfaaGreat.Nn
abbrev B:Nat:=18446744073709551616
def val:List Nat->Nat
 | []=>0
 | a :: l=>a+B*val l
def Lim (l:List Nat):Prop:=∀ a∈l,a<B
def Kq (l:List Nat):Prop:=l.getLast? ≠ some 0
def Lim.nil:Lim []:=fun a h=>by cases h
def Lim.cons {a:Nat} {l:List Nat} (h:a<B) (hl:Lim l):Lim (a :: l):=fun b hb=>by
 rcases Vt.1 hb with rfl | hb
 ·exact h
 ·exact hl b hb
def Lim.head {a:Nat} {l:List Nat} (h:Lim (a :: l)):a<B:=h a (N0 ..)
def Lim.tail {a:Nat} {l:List Nat} (h:Lim (a :: l)):Lim l:=fun b hb=>h b (Ct _ hb)
def Lim.append {l m:List Nat} (h:Lim l) (h':Lim m):Lim (l++m):=fun b hb=>by
 rcases Vf.1 hb with hb | hb
 ·exact h b hb
 ·exact h' b hb
def Lim.take {l:List Nat} (h:Lim l) (n:Nat):Lim (l.take n):=fun b hb=>h b (WR hb)
def Lim.drop {l:List Nat} (h:Lim l) (n:Nat):Lim (l.drop n):=fun b hb=>h b (XH hb)
def Lim.replicate (n:Nat):Lim (List.replicate n 0):=fun b hb=>by
 rw [Yi hb]; decide
def Lim.at {l:List Nat} (h:Lim l) (i:Nat):l.getD i 0<B:=by
 rw [dH];cases hi:l[i]? with
 | none=>show 0<B; decide
 | some a=>exact h a (Ve hi)
def nN:∀ (l m:List Nat),val (l++m)=val l+B^l.length*val m
 | [],m=>by simp [val]
 | a :: l,m=>by
  simp only [W8,val,nN l m,VV,VF];rw [VY,<- VJ,Vk (B^l.length) B];omega
def uy:∀ {l:List Nat},Lim l->val l<B^l.length
 | [],_=>by simp [val]
 | a :: l,h=>by
  have ih:=uy h.tail;have ha:=h.head;simp only [val,VV,VF]
  have:B*(val l+1)<=B*B^l.length:=Xg B ih
  rw [Vk (B^l.length) B];rw [VY] at this;omega
def fK (n:Nat):val (List.replicate n 0)=0:=by
 induction n with
 | zero=>rfl
 | succ n ih=>simp [Wm,val,ih]
def jD (l:List Nat) (a:Nat):val (l++[a])=val l+B^l.length*a:=by
 rw [nN]; simp [val]
def GS:∀ {l m:List Nat},Lim l->Lim m->l.length=m.length->val l=val m->l=m
 | [],[],_,_,_,_=>rfl
 | [],_ :: _,_,_,h,_=>by simp at h
 | _ :: _,[],_,_,h,_=>by simp at h
 | a :: l,b :: m,h1,h2,h,e=>by
  have ha:=h1.head;have hb:=h2.head;simp only [val] at e;have e1:a=b:=by
   have:(a+B*val l) % B=(b+B*val m) % B:=by rw [e]
   rw [XA,XA,VK ha,VK hb] at this;exact this
  subst e1;have e2:val l=val m:=Ze (by decide) (Nat.add_left_cancel e);rw [GS h1.tail h2.tail (by simpa using h) e2]
def xB {l:List Nat} (hn:Kq l) (hne:l≠[]):B^(l.length-1)<=val l:=by
 rcases W4 l with rfl | ⟨l',a,rfl⟩
 ·exact absurd rfl hne
 ·rw [W5] at *;rw [jD];have ha:a≠0:=fun e=>hn (by rw [e]; simp)
  have:B^l'.length*1<=B^l'.length*a:=Xg _ zO
  simp only [Vg,List.length_singleton,W7];omega
def N6 {l m:List Nat} (h1:Lim l) (h2:Lim m) (n1:Kq l) (n2:Kq m) (e:val l=val m):l=m:=by
 have key:∀ {l m:List Nat},Lim l->Kq m->val l=val m->m.length<=l.length:=by
  intro l m h1 n2 e;by_cases hm:m=[]
  ·subst hm; simp
  ·have g1:=uy h1;have g2:=xB n2 hm
   apply Xp
   intro hlt
   have:B^l.length<=B^(m.length-1):=VD (by decide) zO
   omega
 exact GS h1 h2 (Xl (key h2 n1 e.symm) (key h1 n2 e)) e
def ag (n:Nat):List Nat:=if h:n=0 then [] else n % B :: ag (n / B)
 termination_by n
 decreasing_by exact YQ zO (by decide)
theorem cP:ag 0=[]:=by unfold ag; rfl
def jL {n:Nat} (h:n≠0):ag n=n % B :: ag (n / B):=by rw [ag,dif_neg h]
def bI (n:Nat):val (ag n)=n:=by
 induction n using Nat.strongRecOn with
 | _ n ih =>
  by_cases h:n=0
  ·subst h; rw [cP]; rfl
  ·rw [jL h];simp only [val];rw [ih _ (YQ zO (by decide))]
   have:=YR n B
   omega
def bu (n:Nat):Lim (ag n):=by
 induction n using Nat.strongRecOn with
 | _ n ih =>
  by_cases h:n=0
  ·subst h; rw [cP]; exact Lim.nil
  ·rw [jL h];exact Lim.cons (VO _ (by decide)) (ih _ (YQ zO (by decide)))
def cW (n:Nat):Kq (ag n):=by
 induction n using Nat.strongRecOn with
 | _ n ih =>
  by_cases h:n=0
  ·subst h; rw [cP]; simp [Kq]
  ·rw [jL h];have ih:=ih _ (YQ zO (by decide:1<B));unfold Kq at ih ⊢;by_cases h2:n / B=0
   ·rw [h2,cP]
    have:n % B=n:=VK (by
     rcases YU n B with h | h
     ·exact h
     ·have:=Nat.div_pos h (by decide:0<B); omega)
    rw [this];simp [h]
   ·rw [jL h2] at ih ⊢;rw [List.getLast?_cons_cons]; exact ih
def uX {l:List Nat} (h:Lim l) (n:Kq l):ag (val l)=l:=N6 (bu _) h (cW _) n (bI _)
def gZ {n k:Nat} (h:n<B^k):(ag n).length<=k:=by
 by_cases h0:ag n=[]
 ·rw [h0]; simp
 ·have g:=xB (cW n) h0;rw [bI] at g
  apply Xp
  intro hlt
  have:B^k<=B^((ag n).length-1):=VD (by decide) zO
  omega
def ii (n:Nat):n<B^(ag n).length:=by
 have:=uy (bu n)
 rw [bI] at this; exact this
def limbs_nil {n:Nat}:ag n=[] ↔ n=0:=by
 constructor
 ·intro h
  have:=bI n
  rw [h] at this
  simpa [val] using this.symm
 ·rintro rfl; exact cP
def eQ (l:List Nat):List Nat:=(l.reverse.dropWhile (· == 0)).reverse
def eD (l:List Nat):eQ (l++[0])=eQ l:=by simp [eQ]
def iM {l:List Nat} {a:Nat} (h:a≠0):eQ (l++[a])=l++[a]:=by simp [eQ,h]
theorem uz:eQ []=[]:=rfl
def xX:∀ (n:Nat) (l:List Nat),l.length=n->Lim l->eQ l=ag (val l)
 | 0,l,hl,_=>by
  have:l=[]:=Vp hl
  subst this;rw [uz]; show []=ag 0; rw [cP]
 | n+1,l,hl,h=>by
  rcases W4 l with rfl | ⟨l',a,rfl⟩
  ·simp at hl
  ·rw [W5] at *;have hl':l'.length=n:=by simpa using hl
   have hlim:Lim l':=fun x hx=>h x (VU _ hx);by_cases ha:a=0
   ·subst ha;rw [eD,xX n l' hl' hlim,jD]; simp
   ·rw [iM ha,uX h];unfold Kq;simp [ha]
def eM {l:List Nat} (h:Lim l):eQ l=ag (val l):=xX _ l rfl h
end Go.Proofs.YthjdfjlhjnihfaaGreat.Nn
namespace Go.Proofs.YthjdfjlhjnihfaaGreat.Ev
open Go Nn
abbrev Lb (H:Heap) (v:AV) (l:List Nat):Prop:=xJ cm ae H v l
abbrev cp (H:Heap) (v:AV) (n:Nat):Prop:=Lb H v (ag n)
def Sm (n:Nat):Prop:=(ag n).length<1099511627776
section
variable {tab:Nat->Option aw} {H:Heap} {s:AV} {l:List Nat}
def eZ (hs:Lb H s l) {i:Nat} (hi:i<l.length):aW H none (ap s i)=some (.int .u64 (l.getD i 0:Nat)):=by
 obtain ⟨c,hc,h⟩:=SlV.at1 hs (i:=i) (a:=l.getD i 0) (by simp [hi,dH]);rw [h,hc]
def kR (C:Code tab) (hw:Wf H) (hs:Lb H s l) (hbig:l.length<4611686018427387904) :
  Ans tab (.fn mf [s]) H fun v H'=>v=.int .i64 (if l.getLast? = some 0 then 8 else 0)/\Kp H H':=by
 refine cQ C.q70 zU fun T hl g0=>?_;rcases W4 l with rfl | ⟨l',a,rfl⟩
 ·have hle:lenV s=some (.int .i64 0):=hs.lenV;refine zW (aC hl g0 hle) ?_;exact ⟨rfl,zK⟩
 ·rw [W5] at *;have hle:lenV s=some (.int .i64 ((l'.length:Int)+1)):=by have:=hs.lenV; simpa using this
  have hwr:IntKind.i64.wrap ((l'.length:Int)+1-1)=(l'.length:Int):=by rw [wrap_i64] <;> simp at hbig <;> omega
  have hpos:(0:Int)<(l'.length:Int)+1:=zO;have hi:=SlV.idx1 hs .i64 l'.length (by simp);have hld:aW H none (ap s l'.length)=some (.int .u64 (a:Nat)):=by rw [eZ hs (by simp)]; simp
  refine zW (gf hl g0 hle hwr hpos hi hld) ?_;refine iteH.split (fun h=>?_) fun h=>?_
  ·refine zW (aB hl g0) ?_;exact ⟨by rw [if_pos]; simp; omega,zK⟩
  ·refine zW (aB hl g0) ?_;exact ⟨by rw [if_neg]; simp; omega,zK⟩
def po (C:Code tab) (hw:Wf H) {ls:List (List Nat)} {ty:Nat} (hs:xJ (rl (bT cm) ae) ty H s ls) (hbig:ls.length<4611686018427387904) (hc:∀ c∈ls,c.length<4611686018427387904/\c.getLast? ≠ some 0) :
  Ans tab (.fn mS [s]) H fun v H'=>v=.int .i64 0/\Kp H H':=by
 refine cQ C.q123 zU fun T hl g0=>?_;refine zW (aC hl g0 hs.lenV) ?_;refine am H [] (fun _ _ _=>True) (a:=0) (N:=ls.length) rfl (by refine zW (aB hl g0) ?_; rfl) (zV (aB hl g0)) (II _) zO (by simp only [dj,hl]; rfl) rfl (fun _ _ _ _ h=>h) zK trivial ?_ ?_
 ·intro j T1 H1 _ hj hl1 hi1 hs1 hk1 _;have w1:=hk1.wf;have le_hk1:=hk1.le;have t6:ad T1 6=s:=(hs1.at_ 6 zU).trans (zV (aB hl g0));obtain ⟨c,hcr,hld⟩:=SlV.at1 (hs.mono hk1.sub) (pD hj);have hix:=SlV.idx1 hs .i64 j hj;have hcc:=hc _ (rZ hj);simp only [dj,hl] at hl1;refine zW (cr hl1 t6 hi1 hix hld) ?_;refine AnsH.eq (kR C zF hcr hcc.1) fun H2 h2=>?_;rw [if_neg hcc.2];refine zW hl1 ?_;have k2:Kp H H2:=Kp.trans zK h2;have le_k2:=k2.le;exact zK
 ·intro T1 H1 hl1 hs1 hk1 _;simp only [dj,hl] at hl1;refine zW hl1 ?_;exact zK
def oR (C:Code tab) (hw:Wf H) (hs:Lb H s l):Ans tab (.fn cy [s]) H fun v H'=>Lb H' v l/\Kp H H':=by
 refine cQ C.q129 zU fun T hl g0=>?_;obtain ⟨v',e,hr⟩:=hs.clip .i64 .i64;have e':bD 1 s none (some (.int .i64 (l.length:Int))) (some (.int .i64 (l.length:Int)))=some v':=e;refine zW (aV hl g0 hs.lenV e') ?_;exact ⟨hr.mono (Sub.bump H _),zK⟩
def Tu (C:Code tab) (hw:Wf H) (hs:Lb H s l) (hbig:l.length<4611686018427387904) :
  Ans tab (.fn oj [s]) H fun v H'=>Lb H' v (eQ l)/\Kp H H':=by
 refine cQ C.q98 zU fun T hl g0=>?_;refine zW (aB hl g0) ?_;refine bC H [0] (fun k vs H'=>∃ v,vs=[v]/\Lb H' v (l.take k)/\eQ (l.take k)=eQ l/\k<=l.length) l.length (by simp only [dj]; exact hl) rfl zK ⟨s,by exact zV (aB hl g0),by rw [Vo]; exact hs,by rw [Vo],wT _⟩ ?_;rintro k T1 H1 hl1 hs1 hk1 ⟨v,hv,hr,ht,hk⟩;have w1:=hk1.wf;have le_hk1:=hk1.le;simp only [wW,AO,zB,and_true] at hv;rcases W4 (l.take k) with h0 | ⟨l',a,h0⟩
 ·rw [h0] at hr ht;have hle:lenV v=some (.int .i64 0):=hr.lenV;refine zW (aC hl1 hv hle) ?_;refine AnsH.use (oR C zF (hr.mono (Sub.bump H1 _))) ?_;rintro v2 H2 ⟨h1,h2⟩;have k2:Kp H H2:=Kp.trans zK h2;have le_k2:=k2.le;rw [<- ht];refine zW hl1 ?_;exact ⟨h1,zK⟩
 ·rw [W5] at h0;have hk1':k=l'.length+1:=by have:=congrArg List.length h0; simp at this; omega
  have hl':l.take l'.length=l':=by
   have:=congrArg (List.take l'.length) h0
   rw [Xe,V7 zO] at this
   simpa using this
  rw [h0] at hr ht;have hle:lenV v=some (.int .i64 ((l'.length:Int)+1)):=by have:=hr.lenV; simpa using this
  have hpos:(0:Int)<(l'.length:Int)+1:=zO;have hix:=SlV.idx1 hr .i64 l'.length (by simp);have hld:aW H1 none (ap v l'.length)=some (.int .u64 (a:Nat)):=by rw [eZ hr (by simp)]; simp
  have hwr:IntKind.i64.wrap ((l'.length:Int)+1-1)=(l'.length:Int):=by rw [wrap_i64] <;> omega
  refine zW (gf hl1 hv hle hpos hix hld hwr) ?_;refine iteH.split (fun ha=>?_) fun ha=>?_
  ·obtain ⟨v',e,hr'⟩:=hr.hi .i64 l'.length (by simp);have e':bD 1 v none (some (.int .i64 (l'.length:Int))) none=some v':=e;have ha0:a=0:=zO;subst ha0;refine zW (cr hl1 hv hle hwr e') ?_;refine ⟨zK,l'.length,zO,v',rfl,?_,?_,zO⟩
   ·rw [hl'];have h3:Lb H1 v' l':=by simpa using hr'
    exact h3.mono (Sub.bump H1 _)
   ·rw [hl',<- ht,eD]
  ·have ha':a≠0:=zO;refine zW (aB hl1 hv) ?_;refine AnsH.use (oR C zF (hr.mono (Sub.bump H1 _))) ?_;rintro v2 H2 ⟨h1,h2⟩;have k2:Kp H H2:=Kp.trans zK h2;have le_k2:=k2.le;rw [iM ha'] at ht;rw [<- ht];refine zW hl1 ?_;exact ⟨h1,zK⟩
def FU (C:Code tab) (hw:Wf H) {n:Nat} (hn:n<B):Ans tab (.fn yI [.int .u64 (n:Int)]) H fun v H'=>cp H' v n/\Sm n/\Kp H H':=by
 refine cQ C.q73 zU fun T hl g0=>?_;refine zW (aB hl g0) ?_;have k1:Kp H ((H.up 5).put (H.next+2) (.cells [.int .u64 (n:Int)] ae true)):=zK;have le_k1:=k1.le;have hs:Lb ((H.up 5).put (H.next+2) (.cells [.int .u64 (n:Int)] ae true)) (.own (H.next+2) 0 1 1 1 true) [n] :=
  (show Own (bT cm) ae H _ _ true _ [n] from ⟨_,rfl,au _ _ _,Cells.one ⟨_,rfl,rfl⟩,zO⟩).sl
 refine AnsH.use (Tu C k1.wf hs (by simp)) ?_;rintro v H2 ⟨h1,h2⟩;have e:eQ [n]=ag n:=by rw [eM (Lim.cons hn Lim.nil)]; simp [val]
 rw [e] at h1;refine zW (aB hl g0) ?_;refine ⟨h1,?_,k1.trans h2⟩
 have:=gZ (n:=n) (k:=1) (by simpa using hn)
 unfold Sm; omega
def fm (C:Code tab) (hw:Wf H) (hs:Lb H s l) (b:Bool) :
  Ans tab (.fn nT [.bool b,s]) H fun v H'=>v=.agg [.bool (b && decide (0<l.length)),s]/\Kp H H':=by
 refine bz C.q61 zU fun T hl g0 g1=>?_;have o1:=hs.one;cases b
 ·refine zW (aV hl g0 g1 hs.lenV) ?_;exact zK
 ·refine zW (aV hl g0 g1 hs.lenV) ?_;exact zK
end
def dz (f:Nat->Nat->Nat->Nat × Nat) (a b:List Nat):Nat->List Nat × Nat
 | 0=>([],0)
 | k+1=>((dz f a b k).1++[(f (a.getD k 0) (b.getD k 0) (dz f a b k).2).1],(f (a.getD k 0) (b.getD k 0) (dz f a b k).2).2)
def gS (f:Nat->Nat->Nat->Nat × Nat) (a b:List Nat):∀ k,(dz f a b k).1.length=k
 | 0=>rfl
 | k+1=>by simp [dz,gS f a b k]
section
variable {tab:Nat->Option aw} {H:Heap}
def Jh (C:Code tab) (hw:Wf H) {sa sb:AV} (ha:One sa) (hb:One sb) :
  Ans tab (.fn pF [sa,sb]) H fun v H'=>v=.fn (.func gt) [] [.ptr H.next 0,.ptr (H.next+1) 0]/\H'.get H.next=some (.cells [sa] aG true)/\H'.get (H.next+1)=some (.cells [sb] aG true)/\H.next+2<=H'.next/\Kp H H':=by
 refine bz C.q149 zU fun T hl g0 g1=>?_;refine zW (aC hl g0 g1) ?_;exact ⟨zO,zK⟩
def Aq (C:Code tab) {H0:Heap} {lb ba bb:Nat} {a b:List Nat} {sa sb:AV} (J:Nat->Heap->Prop) (hla:a.length<4611686018427387904) (hlb:b.length<4611686018427387904) {M:Nat} (hM:M=max a.length b.length)
  (hk:Kp H0 H) (h0:J 0 H) (hup:∀ k H m,J k H->J k (H.up m)) (hA:∀ k H,J k H->H.get ba=some (.cells [sa] aG true)/\Lb H sa a/\H.get bb=some (.cells [sb] aG true)/\Lb H sb b)
  (hr:∀ k H,k<M->Kp H0 H->J k H->Ans tab (.round lb [.int .u64 (a.getD k 0:Nat),.int .u64 (b.getD k 0:Nat)]) H fun v H'=>v=.bool true/\Kp H0 H'/\J (k+1) H') :
  Ans tab (.ent gt [.loopv lb,.ptr ba 0,.ptr bb 0]) H fun _ H'=>Kp H0 H'/\J M H':=by
 refine RU C.q170 zU fun T hl g0 g1 g2=>?_;obtain ⟨q1,q2,q3,q4⟩:=hA _ _ h0;have hmax:Jk (.int .i64 (a.length:Int)) (.int .i64 (b.length:Int))=some (.int .i64 (M:Int)):=by rw [Ci]; congr 2; split <;> omega
 refine zW (kj hl g0 g1 g2 q1 q3 q2.lenV q4.lenV hmax) ?_;refine am H0 [] (fun j _ H'=>J j H') (a:=0) (N:=M) rfl (by refine zW (aV hl g0 g1 g2) ?_; rfl) (zV (aV hl g0 g1 g2)) (II _) zO (by simp only [dj,hl]; rfl) rfl (fun j _ H' m h=>hup _ _ _ h) zK (hup _ _ _ h0) ?_ ?_
 ·intro j T1 H1 _ hj hl1 hi1 hs1 hk1 hJ;simp only [dj,hl] at hl1;have t0:ad T1 0=.loopv lb:=(hs1.at_ 0 zU).trans (zV (aB hl g0));have t1:ad T1 1=.ptr ba 0:=(hs1.at_ 1 zU).trans (zV (cr hl g0 g1 g2 g1));have t2:ad T1 2=.ptr bb 0:=(hs1.at_ 2 zU).trans (zV (cr hl g0 g1 g2 g2));obtain ⟨q1,q2,q3,q4⟩:=hA _ _ hJ;have gz:∀ (l:List Nat),¬ j<l.length->l.getD j 0=0:=fun l h=>by rw [dH,VC zO]; rfl
  have hround:∀ m,Ans tab (.round lb [.int .u64 (a.getD j 0:Nat),.int .u64 (b.getD j 0:Nat)]) (H1.up m) fun v H'=>v=.bool true/\Kp H0 H'/\J (j+1) H':=fun m=>hr j _ hj (hk1.up m) (hup _ _ _ hJ);refine zW (kj hl1 t0 t1 t2 hi1 q1 q3 q2.lenV q4.lenV) ?_;refine iteH.split (fun h1=>?_) fun h1=>?_
  ·have x1:=SlV.idx1 q2 .i64 j h1;have d1:=eZ q2 h1;refine zW (rc hl1 t0 t1 t2 hi1 q1 q3 q2.lenV q4.lenV x1 d1) ?_;refine iteH.split (fun h2=>?_) fun h2=>?_
   ·have x2:=SlV.idx1 q4 .i64 j h2;have d2:=eZ q4 h2;refine zW (rc hl1 t0 t1 t2 hi1 q1 q3 q2.lenV q4.lenV x2 d2) ?_;refine AnsH.eq (hround _) fun H2 ⟨k2,j2⟩=>?_;refine zW hl1 ?_;exact ⟨zK,j2⟩
   ·rw [gz b h2] at hround;refine zW (gf hl1 t0 t1 t2 hi1 q1 q3) ?_;refine AnsH.eq (hround _) fun H2 ⟨k2,j2⟩=>?_;refine zW hl1 ?_;exact ⟨zK,j2⟩
  ·rw [gz a h1] at hround;refine zW (kj hl1 t0 t1 t2 hi1 q1 q3 q2.lenV q4.lenV) ?_;refine iteH.split (fun h2=>?_) fun h2=>?_
   ·have x2:=SlV.idx1 q4 .i64 j h2;have d2:=eZ q4 h2;refine zW (rc hl1 t0 t1 t2 hi1 q1 q3 q2.lenV q4.lenV x2 d2) ?_;refine AnsH.eq (hround _) fun H2 ⟨k2,j2⟩=>?_;refine zW hl1 ?_;exact ⟨zK,j2⟩
   ·rw [gz b h2] at hround;refine zW (gf hl1 t0 t1 t2 hi1 q1 q3) ?_;refine AnsH.eq (hround _) fun H2 ⟨k2,j2⟩=>?_;refine zW hl1 ?_;exact ⟨zK,j2⟩
 ·intro T1 H1 hl1 hs1 hk1 hJ;refine zW hl1 ?_;exact ⟨hk1,hJ⟩
def rT {f:Src} {ps:List Nat} {asg body:ACode} {T:Tm} {Q:Ex->Tm->Heap->Prop} {fi:Nat} {args:List AV} (hf:ir (f.ev T) [.loopv H.next]=some (.fn fi args))
  (h:Ans tab (.ent fi args) ((H.up 1).put H.next (.loop T ps asg body .ready none)) fun _ H2 =>
   (H2.get H.next=some (.loop T ps asg body .ready none)/\Q .nrm T (H2.kill H.next))\/(H2.get H.next=some (.loop T ps asg body .done (some .ret))/\Q .ret T (H2.kill H.next)) \/
   (∃ id,H2.get H.next=some (.loop T ps asg body .done (some (.exit id)))/\Q (.exit id) T (H2.kill H.next))):rangeH tab f ps asg body () () T H Q ():=rangeH.use hf h
def yF (C:Code tab) (hw:Wf H) {sa sb:AV} {a b:List Nat} (ha:Lb H sa a) (hb:Lb H sb b) (hla:a.length<4398046511104) (hlb:b.length<4398046511104) (la:Lim a) (lmb:Lim b) {fi:Nat} {f:Nat->Nat->Nat->Nat × Nat}
  (hg:∀ H x y c,x<B->y<B->c<=1->Ans tab (.fn fi [.int .u64 (x:Nat),.int .u64 (y:Nat),.int .u64 (c:Nat)]) H fun v H'=>v=.tup [.int .u64 ((f x y c).1:Nat),.int .u64 ((f x y c).2:Nat)]/\H'=H) (hc1:∀ x y c,x<B->y<B->c<=1->(f x y c).2<=1) :
  Ans tab (.fn ol [sa,sb,.fn (.func fi) [] []]) H fun v H'=>∃ o,v=.tup [o,.int .u64 ((dz f a b (max a.length b.length)).2:Nat)]/\Bl (bT cm) ae H H' o (dz f a b (max a.length b.length)).1/\Kp H H':=by
 refine lU C.q124 zU fun T hl g0 g1 g2=>?_;refine zW (aV hl g0 g1 g2) ?_;have k1:Kp H ((((H.up 6).put H.next (.cells [.fn (.func fi) [] []] aF true)).put (H.next+1) (.cells [.nilSl] aG true)).put (H.next+1+1) (.cells [.int .u64 0] ae true)):=zK;have le_k1:=k1.le;refine AnsH.use (Jh C k1.wf ha.one hb.one) ?_;rintro v H2 ⟨rfl,b1,b2,hn2,hk2⟩;have k2:=k1.trans hk2;have p5:H2.get H.next=some (.cells [.fn (.func fi) [] []] aF true):=hk2.get (cR)
 have p6:H2.get (H.next+1)=some (.cells [.nilSl] aG true):=hk2.get (cR);have p7:H2.get (H.next+1+1)=some (.cells [.int .u64 0] ae true):=hk2.get (cR);have hn1:((((H.up 6).put H.next (.cells [.fn (.func fi) [] []] aF true)).put (H.next+1) (.cells [.nilSl] aG true)).put (H.next+1+1) (.cells [.int .u64 0] ae true)).next=H.next+6:=rfl
 rw [hn1] at b1 b2 hn2 ⊢;refine zW (aV hl g0 g1 g2) ?_;refine rT (fi:=gt) (args:=[.loopv H2.next,.ptr (H.next+6) 0,.ptr (H.next+6+1) 0]) (by refine zW (aV hl g0 g1 g2) ?_; rfl) ?_
 generalize he:Ent.loop _ _ _ _ _ _=e0
 have k3:Kp H ((H2.up 1).put H2.next e0):=zK;have le_k3:=k3.le;refine (Aq C (H0:=H) (a:=a) (b:=b) (sa:=sa) (sb:=sb) (M:=max a.length b.length) (fun k H'=>H'.get H2.next=some e0/\H'.get H.next=some (.cells [.fn (.func fi) [] []] aF true) /\
   (∃ o,H'.get (H.next+1)=some (.cells [o] aG true)/\Bl (bT cm) ae H H' o (dz f a b k).1/\∀ n,o ≠ .own (H.next+1+1) 0 n n 1 false)/\H'.get (H.next+1+1)=some (.cells [.int .u64 ((dz f a b k).2:Nat)] ae true)/\(dz f a b k).2<=1 /\
   H'.get (H.next+6)=some (.cells [sa] aG true)/\H'.get (H.next+6+1)=some (.cells [sb] aG true)/\Lb H' sa a/\Lb H' sb b) zO zO rfl k3
  ⟨by exact cR,by exact zV p5,⟨.nilSl,by exact zV p6,Bl.nil,fun n h=>by cases h⟩,by refine zW p7 ?_; rfl,II _,by exact zV b1,by exact zV b2,ha.mono k3.sub,hb.mono k3.sub⟩ (fun _ _ _ h=>h) (fun k H' h=>⟨h.2.2.2.2.2.1,h.2.2.2.2.2.2.2.1,h.2.2.2.2.2.2.1,h.2.2.2.2.2.2.2.2⟩) ?_).mono ?_
 ·rintro k H1 hk hk1 ⟨j0,j5,⟨o,j6,jo,jn⟩,j7,j7',ja,jb,-,-⟩;rw [<- he] at j0;refine sE j0 rfl ?_;refine zW (ki hl g0 g1 g2 j0 j5 j6 j7) ?_;refine AnsH.eq (hg _ _ _ _ (la.at k) (lmb.at k) j7') fun H3 e3=>?_;subst e3;have hlt:=hk1.wf _ _ j0;have hle:=hk1.le;have hz:=hc1 _ _ _ (la.at k) (lmb.at k) j7';refine zW (ki hl g0 g1 g2 j0 j5 j6 j7) ?_
  generalize he2:Ent.loop _ _ _ _ LoopState.busy none=e2
  generalize hzz:f (a.getD k 0) (b.getD k 0) (dz f a b k).2=z
  have k4:Kp H (((H1.up 13).put H2.next e2).put (H.next+2) (.cells [.int .u64 (z.2:Nat)] ae true)):=zK;have le_k4:=k4.le;have q1:Bl (bT cm) ae H (((H1.up 13).put H2.next e2).put (H.next+2) (.cells [.int .u64 (z.2:Nat)] ae true)) o (dz f a b k).1 :=
   (Bl.put (show Bl _ _ _ (H1.up 13) _ _ from jo) (jo.ne j0 fun cs h=>by cases h) (SubT.nil _ _)).put jn (SubT.nil _ _)
  have hlen:=gS f a b k;obtain ⟨n,H4,e1,q2,k5,hn4,hp⟩:=q1.push (ty2:=ae) (bytes:=8) (id:=H1.next+16) (id2:=H1.next+15) (k:=5) (cs:=[.int .u64 (z.1:Nat)]) (a:=z.1) (fun h=>by cases h) k4 ⟨_,rfl,rfl⟩
   (by show H1.next+13<=_; omega) (by show _<H1.next+13+5; omega) (by show H1.next+13<=_; omega) (by show _<H1.next+13+5; omega) zO zO zO
  have e1':cN ((((H1.up 18).put H2.next e2).put (H.next+2) (.cells [.int .u64 (z.2:Nat)] ae true)).put (H1.next+15) (.cells [.int .u64 (z.1:Nat)] ae true)) (H1.next+16) 1 8 ae o (.own (H1.next+15) 0 1 1 1 true)=some (.own (H1.next+16) 0 n n 1 false,H4):=e1;have r6:H4.get (H.next+1)=some (.cells [o] aG true):=hp (H.next+1) (.cells [o] aG true) (zV j6) (q1.ne (e:=.cells [o] aG true) (zV j6) fun cs h=>by injection h with _ h2; exact absurd h2 zU);refine zW (eW hl g0 g1 g2 e1' r6) ?_;have ty1:∀ {o':AV} {cs:List AV},Ent.cells [o'] aG true ≠ .cells cs ae true:=fun h=>by injection h with _ h2; exact absurd h2 zU
  have r0:H4.get H2.next=some e2:=hp H2.next e2 (cR) (q1.ne (e:=e2) (cR) fun cs h=>by rw [<- he2] at h; cases h)
  have r5:H4.get H.next=some (.cells [.fn (.func fi) [] []] aF true):=hp H.next _ (zV j5) (q1.ne (e:=.cells [.fn (.func fi) [] []] aF true) (zV j5) fun cs h=>by injection h with _ h2; exact absurd h2 zU)
  have r7:H4.get (H.next+2)=some (.cells [.int .u64 (z.2:Nat)] ae true):=hp (H.next+2) _ (cR) jn;have ra:H4.get (H.next+6)=some (.cells [sa] aG true):=hp (H.next+6) (.cells [sa] aG true) (zV ja) (q1.ne (e:=.cells [sa] aG true) (zV ja) fun cs=>ty1);have rb:H4.get (H.next+7)=some (.cells [sb] aG true):=hp (H.next+7) (.cells [sb] aG true) (zV jb) (q1.ne (e:=.cells [sb] aG true) (zV jb) fun cs=>ty1);have hn4':H4.next=H1.next+18:=hn4
  have k6:Kp H ((H4.put (H.next+1) (.cells [.own (H1.next+16) 0 n n 1 false] aG true)).put H2.next e0):=zK;have le_k6:=k6.le;rw [yu];refine zW (gf he2 he r0 r5 r7 ra rb) ?_;refine ⟨k6,⟨_,rfl,?_,fun n' h=>by injection h; omega⟩,?_,?_,ha.mono k6.sub,hb.mono k6.sub⟩
  ·have:(dz f a b (k+1)).1=(dz f a b k).1++[z.1]:=by rw [<- hzz]; rfl
   rw [this];exact (q2.put (fun n' h=>by injection h; omega) (SubT.nil _ _)).put (fun n' h=>by injection h; omega) (SubT.nil _ _)
  ·rw [<- hzz]; rfl
  ·have:(dz f a b (k+1)).2=z.2:=by rw [<- hzz]; rfl
   rw [this,<- hzz]; exact hz
 ·rintro _ H' ⟨hk',j0,j5,⟨o,j6,jo,jn⟩,j7,j7',-⟩;have hlt:=hk'.wf _ _ j0;refine .inl ⟨j0,?_⟩;refine zW (eW hl g0 g1 g2 j6 j7) ?_;exact ⟨o,rfl,jo.kill (jo.ne j0 fun cs h=>by rw [<- he] at h; cases h) (SubT.nil _ _),zK⟩
end
def cY (l:List Nat) (k:Nat):val (l.take (k+1))=val (l.take k)+B^k*l.getD k 0:=by
 by_cases h:k<l.length
 ·rw [Bj h,jD,Vu,V7 (WW h)];simp [dH,h]
 ·rw [Vl zO,Vl zO,dH,VC zO]
  simp
def fg (x y c:Nat):Nat × Nat:=((x+y+c) % B,(x+y+c) / B)
def iZ (x y c:Nat):Nat × Nat:=((x+B-y-c) % B,if x<y+c then 1 else 0)
def xE (x y c:Nat) (hx:x<B) (hy:y<B) (hc:c<=1):(fg x y c).2<=1:=by
 simp only [fg,B] at *; omega
def tE (x y c:Nat):(iZ x y c).2<=1:=by
 unfold iZ; simp only; split <;> omega
def xC {f:Nat->Nat->Nat->Nat × Nat} {a b:List Nat} (la:Lim a) (lb:Lim b) (h:∀ x y c,x<B->y<B->c<=1->(f x y c).2<=1):∀ k,(dz f a b k).2<=1
 | 0=>II _
 | k+1=>h _ _ _ (la.at k) (lb.at k) (xC la lb h k)
def yU {f:Nat->Nat->Nat->Nat × Nat} {a b:List Nat} (h:∀ x y c,(f x y c).1<B):∀ k,Lim (dz f a b k).1
 | 0=>Lim.nil
 | k+1=>(yU h k).append (Lim.cons (h _ _ _) Lim.nil)
def Ic {a b:List Nat}:∀ k,val (dz fg a b k).1+B^k*(dz fg a b k).2=val (a.take k)+val (b.take k)
 | 0=>by simp [dz,val]
 | k+1=>by
  have ih:=Ic (a:=a) (b:=b) k;rw [cY,cY];simp only [dz,jD,gS]
  generalize dz fg a b k=r at ih ⊢
  generalize a.getD k 0=x
  generalize b.getD k 0=y
  simp only [fg];have e:=VX (x+y+r.2) B
  have:B^(k+1)*((x+y+r.2) / B)=B^k*(B*((x+y+r.2) / B)):=by rw [VF,VJ]
  rw [this]
  generalize B*((x+y+r.2) / B)=q at *
  generalize (x+y+r.2) % B=m at *
  have:B^k*(x+y+r.2)=B^k*q+B^k*m:=by rw [<- e,VY]
  rw [VY,VY] at this;omega
def GX {a b:List Nat} (la:Lim a) (lb:Lim b):∀ k,val (dz iZ a b k).1+val (b.take k)=val (a.take k)+B^k*(dz iZ a b k).2
 | 0=>by simp [dz,val]
 | k+1=>by
  have ih:=GX la lb k;have hc:(dz iZ a b k).2<=1:=xC la lb (fun x y c _ _ _=>tE x y c) k;rw [cY,cY];simp only [dz,jD,gS];have hx:=la.at k;have hy:=lb.at k
  generalize dz iZ a b k=r at ih hc ⊢
  generalize a.getD k 0=x at *
  generalize b.getD k 0=y at *
  have key:(iZ x y r.2).1+y+r.2=x+B*(iZ x y r.2).2:=by
   clear ih;simp only [iZ,B] at *;split <;> omega
  have:B^(k+1)*(iZ x y r.2).2=B^k*(B*(iZ x y r.2).2):=by rw [VF,VJ]
  rw [this]
  have:=congrArg (B^k * ·) key
  simp only [VY] at this
  generalize B^k*(B*(iZ x y r.2).2)=q at *
  generalize B^k*(iZ x y r.2).1=m at *
  omega
section
variable {tab:Nat->Option aw} {H:Heap}
def iJ (C:Code tab) (H:Heap) (x y c:Nat) (_:x<B) (_:y<B) (hc:c<=1):Ans tab (.fn iU [.int .u64 (x:Nat),.int .u64 (y:Nat),.int .u64 (c:Nat)]) H fun v H'=>v=.tup [.int .u64 ((fg x y c).1:Nat),.int .u64 ((fg x y c).2:Nat)]/\H'=H :=
 xG C.q125 rfl rfl (v:=.tup [.int .u64 ((fg x y c).1:Nat),.int .u64 ((fg x y c).2:Nat)]) (H':=H) (by
  show (if c<=1 then _ else _)=_;rw [if_pos hc]; rfl) ⟨rfl,rfl⟩
def vL (C:Code tab) (H:Heap) (x y c:Nat) (_:x<B) (_:y<B) (hc:c<=1):Ans tab (.fn iQ [.int .u64 (x:Nat),.int .u64 (y:Nat),.int .u64 (c:Nat)]) H fun v H'=>v=.tup [.int .u64 ((iZ x y c).1:Nat),.int .u64 ((iZ x y c).2:Nat)]/\H'=H :=
 xG C.q126 rfl rfl (v:=.tup [.int .u64 ((iZ x y c).1:Nat),.int .u64 ((iZ x y c).2:Nat)]) (H':=H) (by
  show (if c<=1 then _ else _)=_;rw [if_pos hc]; rfl) ⟨rfl,rfl⟩
def Ar {H H1:Heap} {b ty t1:Nat} {α:Type} {E:fh α} {x y:AV} {l m:List α} (hx:SlV E t1 H x l) (hy:SlV E t1 H y m) (hs:Sub H H1) (hg:H1.get b=some (.cells [x,y] ty true)):xJ (rl E t1) ty H1 (.own b 0 2 2 1 true) [l,m] :=
 ⟨[x,y],Rd.own hg rfl (wT _),fun _ _ _ _ _ _ e=>by cases e; exact ⟨_,_,hg⟩,rfl,fun i a hi=>by
  match i with
  | 0=>simp at hi; subst hi; exact ⟨x,rfl,hx.mono hs⟩
  | 1=>simp at hi; subst hi; exact ⟨y,rfl,hy.mono hs⟩
  | i+2=>simp at hi⟩
def Qe {H H1:Heap} {b ty t1:Nat} {α:Type} {E:fh α} {x:AV} {l:List α} (hx:SlV E t1 H x l) (hs:Sub H H1) (hg:H1.get b=some (.cells [x] ty true)):xJ (rl E t1) ty H1 (.own b 0 1 1 1 true) [l] :=
 ⟨[x],Rd.own hg rfl (wT _),fun _ _ _ _ _ _ e=>by cases e; exact ⟨_,_,hg⟩,rfl,fun i a hi=>by
  match i with
  | 0=>simp at hi; subst hi; exact ⟨x,rfl,hx.mono hs⟩
  | i+1=>simp at hi⟩
def rk (a b:List Nat):a.take (max a.length b.length)=a:=Vl zO
def pb (a b:List Nat):b.take (max a.length b.length)=b:=Vl zO
def Hl (C:Code tab) (hw:Wf H) {sa sb:AV} {x y:Nat} (ha:cp H sa x) (hb:cp H sb y) (hx:Sm x) (hy:Sm y) :
  Ans tab (.fn uN [sa,sb]) H fun v H'=>∃ o,v=.tup [o,.int .i64 0]/\cp H' o (x+y)/\Kp H H':=by
 refine bz C.q92 zU fun T hl g0 g1=>?_;have oa:=ha.one;have ob:=hb.one;unfold Sm at hx hy;refine zW (aC hl g0 g1) ?_;have k1:Kp H ((H.up 7).put (H.next+4) (.cells [sa,sb] aG true)):=zK;have le_k1:=k1.le;refine AnsH.eq (po C k1.wf (Ar ha hb k1.sub (au _ _ _)) (by simp) fun c hc=>?_) fun H2 hk2=>?_
 ·simp at hc;rcases hc with rfl | rfl
  ·exact ⟨zO,cW x⟩
  ·exact ⟨zO,cW y⟩
 have k2:=k1.trans hk2;have w2:=k2.wf;refine zW (aC hl g0 g1) ?_;refine AnsH.use (yF C zF (ha.mono (k2.up _).sub) (hb.mono (k2.up _).sub) zO zO (bu x) (bu y) (f:=fg) (iJ C) xE) ?_;rintro v H3 ⟨o,rfl,ho,hk3⟩;obtain ⟨k3,_,w3⟩:=zT H zK hk3;have hlen:=gS fg (ag x) (ag y) (max (ag x).length (ag y).length);have hval:=Ic (a:=ag x) (b:=ag y) (max (ag x).length (ag y).length);rw [rk,pb,bI,bI] at hval;have hlim:Lim (dz fg (ag x) (ag y) (max (ag x).length (ag y).length)).1:=yU (fun x y c=>VO _ zU) _;have hle:=xC (bu x) (bu y) xE (max (ag x).length (ag y).length)
 generalize dz fg (ag x) (ag y) (max (ag x).length (ag y).length)=r at *
 refine zW (aC hl g0 g1) ?_;obtain ⟨n,H4,e1,q2,k5,hn4,-⟩:=ho.push (ty2:=ae) (bytes:=8) (id:=H3.next+3) (id2:=H3.next+2) (k:=7) (cs:=[.int .u64 (r.2:Nat)]) (a:=r.2) (fun h=>by cases h) hk3 ⟨_,rfl,rfl⟩ zO zO zO zO zO zO zO;have e1':cN ((H3.up 7).put (H3.next+2) (.cells [.int .u64 (r.2:Nat)] ae true)) (H3.next+3) 1 8 ae o (.own (H3.next+2) 0 1 1 1 true)=some (.own (H3.next+3) 0 n n 1 false,H4):=e1;refine zW (aV hl g0 g1 e1') ?_;have w4:=k5.wf;refine AnsH.use (Tu C zF q2.sl zS) ?_;rintro v H5 ⟨h5,hk5⟩;have k7:Kp H H5:=((k2.up _).trans k5).trans hk5;have le_k7:=k7.le;have e:eQ (r.1++[r.2])=ag (x+y):=by
  rw [eM (hlim.append (Lim.cons (by unfold B; omega) Lim.nil)),jD,hlen,hval]
 rw [e] at h5;refine zW (aC hl g0 g1) ?_;exact ⟨v,rfl,h5,k7⟩
def Ce (C:Code tab) (hw:Wf H) {sa sb:AV} {x y:Nat} (ha:cp H sa x) (hb:cp H sb y) (hx:Sm x) (hy:Sm y) :
  Ans tab (.fn uM [sa,sb]) H fun v H'=>Kp H H'/\if y<=x then ∃ o,v=.tup [o,.int .i64 0]/\cp H' o (x-y) else v=.tup [.nilSl,.int .i64 10]:=by
 refine bz C.q93 zU fun T hl g0 g1=>?_;have oa:=ha.one;have ob:=hb.one;unfold Sm at hx hy;refine zW (aC hl g0 g1) ?_;have k1:Kp H ((H.up 7).put (H.next+4) (.cells [sa,sb] aG true)):=zK;have le_k1:=k1.le;refine AnsH.eq (po C k1.wf (Ar ha hb k1.sub (au _ _ _)) (by simp) fun c hc=>?_) fun H2 hk2=>?_
 ·simp at hc;rcases hc with rfl | rfl
  ·exact ⟨zO,cW x⟩
  ·exact ⟨zO,cW y⟩
 have k2:=k1.trans hk2;have w2:=k2.wf;refine zW (aC hl g0 g1) ?_;refine AnsH.use (yF C zF (ha.mono (k2.up _).sub) (hb.mono (k2.up _).sub) zO zO (bu x) (bu y) (f:=iZ) (vL C) fun x y c _ _ _=>tE x y c) ?_;rintro v H3 ⟨o,rfl,ho,hk3⟩;obtain ⟨k3,_,w3⟩:=zT H zK hk3;have hlen:=gS iZ (ag x) (ag y) (max (ag x).length (ag y).length);have hval:=GX (bu x) (bu y) (max (ag x).length (ag y).length);rw [rk,pb,bI,bI] at hval;have hlim:Lim (dz iZ (ag x) (ag y) (max (ag x).length (ag y).length)).1:=yU (fun x y c=>VO _ zU) _;have hle:=xC (bu x) (bu y) (fun x y c _ _ _=>tE x y c) (max (ag x).length (ag y).length);have hlt:=uy hlim;rw [hlen] at hlt
 generalize dz iZ (ag x) (ag y) (max (ag x).length (ag y).length)=r at *
 refine zW (aC hl g0 g1) ?_;refine iteH.split (fun h=>?_) fun h=>?_
 ·have h1:r.2=1:=zO;rw [h1] at hval
  have:¬ y<=x:=zO
  refine zW (aV hl g0 g1 this) ?_;exact zK
 ·have h1:r.2=0:=zO;rw [h1] at hval;have hyx:y<=x:=zO;refine zW (aC hl g0 g1) ?_;refine AnsH.use (Tu C zF (ho.sl.mono (Sub.bump H3 _)) zO) ?_;rintro v H5 ⟨h5,hk5⟩;obtain ⟨k7,_,_⟩:=zT H zK hk5;have e:eQ r.1=ag (x-y):=by
   rw [eM hlim]; congr 1; omega
  rw [e] at h5;refine zW (aC hl g0 g1) ?_;exact ⟨k7,by rw [if_pos hyx]; exact ⟨v,rfl,h5⟩⟩
end
section
variable {tab:Nat->Option aw} {H:Heap} {s:AV} {l:List Nat}
def jE (C:Code tab) (hw:Wf H) (hs:Lb H s l) (hbig:l.length<1099511627776):Ans tab (.fn cw [s]) H fun v H'=>Lb H' v l/\Kp H H':=by
 refine cQ C.q115 zU fun T hl g0=>?_;rcases hs.nilcase with ⟨rfl,rfl⟩ | hne
 ·have e:bX .eql .sl .nilSl .nilSl=some (.bool true):=rfl;refine zW (aC hl g0 e) ?_;exact ⟨SlV.nil _ _ _,zK⟩
 ·have ef:cX ([]:List AV) []=some []:=rfl;refine zW (aV hl g0 hne ef) ?_;have k1:Kp H ((H.up 7).put (H.next+3) (.cells [] ae true)):=zK;have le_k1:=k1.le;have h0:SlV (bT cm) ae ((H.up 7).put (H.next+3) (.cells [] ae true)) (.own (H.next+3) 0 0 0 1 true) ([]:List Nat) :=
   (show Own (bT cm) ae H _ (H.next+3) true _ [] from ⟨_,rfl,au _ _ _,Cells.nil _ _,zO⟩).sl
  obtain ⟨v',H2,e1,h2,hk2,hn2,hs2,-⟩:=SlV.app (l:=[]) (id:=H.next+5) (bytes:=8) h0 k1 (hs.mono k1.sub) zO (by show _<H.next+7; omega) (by rw [az zO]; exact hw.fresh (b:=H.next+5) zO) zS zS;have e1':cN ((H.up 7).put (H.next+3) (.cells [] ae true)) (H.next+5) 1 8 ae (.own (H.next+3) 0 0 0 1 true) s=some (v',H2):=e1;refine zW (aC hl g0 e1') ?_;exact ⟨h2,hk2⟩
def intE:fh Int where
 sz:=2
 tys:=[ae]
 R H cs z:=∃ v,cs=[.bool (decide (z<0)),v]/\cp H v z.natAbs
 pos:=zO
 len:=by rintro H cs z ⟨v,rfl,h⟩; exact ⟨rfl,by simp [h.one.2]; rfl⟩
 mono:=by rintro H H' cs z hs ⟨v,rfl,h⟩; exact ⟨v,rfl,h.monoT hs⟩
def IntV (H:Heap) (v:AV) (z:Int):Prop:=∃ w,v=.agg [.bool (decide (z<0)),w]/\cp H w z.natAbs
def St (z:Int):Prop:=Sm z.natAbs
def IntV.mono {H H':Heap} (hs:Sub H H') {v:AV} {z:Int} (h:IntV H v z):IntV H' v z:=by
 obtain ⟨w,rfl,h⟩:=h; exact ⟨w,rfl,h.mono hs⟩
def bZ (n:Nat):(0<(ag n).length) ↔ n≠0:=by
 rw [List.length_pos_iff];exact not_congr limbs_nil
def fc (C:Code tab) (hw:Wf H) {v:AV} {z:Int} (hv:IntV H v z) (hz:St z):Ans tab (.fn jS [v]) H fun v H'=>v=.int .i64 0/\Kp H H':=by
 obtain ⟨w,rfl,hn⟩:=hv;unfold St Sm at hz;have ow:=hn.one;refine cQ C.q36 zU fun T hl g0=>?_;refine zW (aB hl g0) ?_;have k1:Kp H ((H.up 16).put H.next (.cells [.bool (decide (z<0)),w] aa true)):=zK;have le_k1:=k1.le;refine AnsH.eq (kR C k1.wf (hn.mono k1.sub) zO) fun H2 hk2=>?_;rw [if_neg (cW _)];have k2:=k1.trans hk2;have b0:H2.get H.next=some (.cells [.bool (decide (z<0)),w] aa true):=hk2.get (au _ _ _)
 refine zW (aC hl g0 @b0) ?_;refine iteH.split (fun h=>?_) fun h=>?_
 ·have:¬ (ag z.natAbs).length=0:=by have:=(bZ z.natAbs).2 zO; omega
  have e:decide (((ag z.natAbs).length:Int)=0)=false:=by simp; intro h; rw [h] at this; exact this rfl
  refine zW (eW hl g0 @b0 hn.lenV h e) ?_;exact zK
 ·refine zW (aV hl g0 @b0 h) ?_;exact zK
def jM {ty:Nat} {v:AV} {l:List Int} (hs:SlV intE ty H v l) {i:Nat} (hi:i<l.length):∃ w,cp H w (l[i]).natAbs/\aW H (some 2) (ap v (i*2))=some (.agg [.bool (decide (l[i]<0)),w])/\aW H none (ap v (i*2))=some (.bool (decide (l[i]<0)))/\aW H none (ap v (i*2+1))=some w:=by
 obtain ⟨cs,⟨w,rfl,hn⟩,-,h1,h2⟩:=hs.at (pD hi);exact ⟨w,hn,h2,h1 0 _ rfl,h1 1 _ rfl⟩
def DO {H1:Heap} {b ty:Nat} {x y:Int} {p q:AV} (hx:cp H p x.natAbs) (hy:cp H q y.natAbs) (hs:Sub H H1) (hg:H1.get b=some (.cells [.bool (decide (x<0)),p,.bool (decide (y<0)),q] ty true)):SlV intE ty H1 (.own b 0 2 2 2 true) [x,y] :=
 ⟨_,Rd.own hg rfl (wT _),fun _ _ _ _ _ _ e=>by cases e; exact ⟨_,_,hg⟩,rfl,fun i a hi=>by
  match i with
  | 0=>simp at hi; subst hi; exact ⟨p,rfl,hx.mono hs⟩
  | 1=>simp at hi; subst hi; exact ⟨q,rfl,hy.mono hs⟩
  | i+2=>simp at hi⟩
def gL (C:Code tab) (hw:Wf H) {v:AV} {ls:List Int} {ty:Nat} (hs:SlV intE ty H v ls) (hbig:ls.length<4611686018427387904) (hc:∀ z∈ls,St z) :
  Ans tab (.fn kr [v]) H fun v H'=>v=.int .i64 0/\Kp H H':=by
 refine cQ C.q89 zU fun T hl g0=>?_;refine zW (aC hl g0 hs.lenV) ?_;refine am H [] (fun _ _ _=>True) (a:=0) (N:=ls.length) rfl (by refine zW (aB hl g0) ?_; rfl) (zV (aB hl g0)) (II _) zO (by simp only [dj,hl]; rfl) rfl (fun _ _ _ _ h=>h) zK trivial ?_ ?_
 ·intro j T1 H1 _ hj hl1 hi1 hs1 hk1 _;have w1:=hk1.wf;have le_hk1:=hk1.le;have t6:ad T1 6=v:=(hs1.at_ 6 zU).trans (zV (aB hl g0));obtain ⟨w,hn,hld,-,-⟩:=jM (hs.mono hk1.sub) hj;have hix:co 2 v (.int .i64 (j:Int))=some (ap v (j*2)):=SlV.idx hs .i64 j hj;have hcc:=hc _ (rZ hj);have ow:=hn.one;simp only [dj,hl] at hl1;refine zW (cr hl1 t6 hi1 hix hld) ?_;have hle:=hk1.le;refine AnsH.eq (fc C zF ⟨w,rfl,hn.mono (zG H1)⟩ hcc) fun H2 hk2=>?_;obtain ⟨k2,_,_⟩:=zT H zK hk2;refine zW hl1 ?_;exact zK
 ·intro T1 H1 hl1 hs1 hk1 _;simp only [dj,hl] at hl1;refine zW hl1 ?_;exact zK
def ny {w:AV} {n:Nat} (b:Bool) (h:cp H w n):IntV H (.agg [.bool (b && decide (0<(ag n).length)),w]) (if b then -(n:Int) else n):=by
 refine ⟨w,?_,?_⟩
 ·have:=bZ n
  congr 3;cases b
  ·simp
  ·simp only [Zo,if_true];by_cases h0:n=0
   ·simp [h0,cP]
   ·have h1:=this.2 h0;simp [h1]; omega
 ·cases b
  ·simpa using h
  ·simpa using h
def AF (C:Code tab) (hw:Wf H) {v:AV} {z:Int} (hv:IntV H v z) (hz:St z):Ans tab (.fn pt [v]) H fun v H'=>∃ r,v=.tup [r,.int .i64 0]/\IntV H' r (-z)/\Kp H H':=by
 obtain ⟨w,rfl,hn⟩:=hv;have ow:=hn.one;refine cQ C.q174 zU fun T hl g0=>?_;refine zW (aB hl g0) ?_;refine AnsH.eq (fc C zF ⟨w,rfl,hn.mono (zG H)⟩ hz) fun H2 hk2=>?_;obtain ⟨k2,_,_⟩:=zT H zK hk2;have b0:H2.get H.next=some (.cells [.bool (decide (z<0)),w] aa true):=hk2.get (cR)
 have b1:H2.get (H.next+1)=some (.cells [.bool false,.nilSl] aa true):=hk2.get (cR);refine zW (aB hl g0) ?_;refine aH ?_;refine zD (aV hl g0 @b0 b1) ?_;unfold St Sm at hz;have w2:=k2.wf;refine AnsH.use (jE C zF (hn.mono (zG H)) zO) ?_;rintro v3 H3 ⟨h3,hk3⟩;obtain ⟨k3,_,w3⟩:=zT H zK hk3;refine zD (aV hl g0 @b0 b1) ?_;refine AnsH.use (fm C zF h3 _) ?_;rintro v4 H4 ⟨rfl,hk4⟩;obtain ⟨k4,_,_⟩:=zT H zK hk4;have o3:=h3.one;have c0:H3.get H.next=some (.cells [.bool (decide (z<0)),w] aa true):=hk3.get b0
 have d1:H4.get (H.next+1)=some (.cells [.bool false,.nilSl] aa true):=hk4.get (hk3.get b1);refine zD (eW hl g0 @b0 b1 c0 d1) ?_;have lt1:=k4.wf _ _ d1;refine ⟨_,rfl,?_,zK⟩;have hm:=ny (!decide (z<0)) ((h3.mono (Kp.sub (H:=H3) (Kp.trans zK hk4))).monoT (SubT.put_ty (e:=.cells [.bool (!decide (z<0) && decide (0<(ag z.natAbs).length)),v3] aa true) d1 zU));have e:(if (!decide (z<0))=true then -((z.natAbs:Nat):Int) else ((z.natAbs:Nat):Int)) = -z:=by
  by_cases h:z<0 <;> simp [h] <;> omega
 rw [e] at hm;exact hm
end
section
variable {tab:Nat->Option aw} {H:Heap}
def Mt (x y:Int):(decide (x<0) == decide (y<0))=decide ((x<0)=(y<0)):=by
 by_cases hx:x<0 <;> by_cases hy:y<0 <;> simp [hx,hy]
def AE (C:Code tab) (hw:Wf H) {a b:AV} {x y:Int} (ha:IntV H a x) (hb:IntV H b y) (hx:St x) (hy:St y):Ans tab (.fn pp [a,b]) H fun v H'=>IntV H' v (x+y)/\Kp H H':=by
 obtain ⟨p,rfl,hp⟩:=ha;obtain ⟨q,rfl,hq⟩:=hb;have op:=hp.one;have oq:=hq.one;refine bz C.q62 zU fun T hl g0 g1=>?_;refine zW (aC hl g0 g1) ?_;have fin:∀ (H3:Heap) (k3:Kp H H3) (bb:Bool) (o:AV) (n:Nat) (z:Int),H3.get (H.next+2)=some (.cells [.bool false,.nilSl] aa true)->Lb H3 o (ag n)->(if bb then -(n:Int) else n)=z ->
   IntV (H3.put (H.next+2) (.cells [.bool (bb && decide (0<(ag n).length)),o] aa true)) (.agg [.bool (bb && decide (0<(ag n).length)),o]) z/\Kp H (H3.put (H.next+2) (.cells [.bool (bb && decide (0<(ag n).length)),o] aa true)):=by
  intro H3 k3 bb o n z d1 ho hz;have lt1:=k3.wf _ _ d1;refine ⟨?_,zK⟩;rw [<- hz];exact ny bb (ho.monoT (SubT.put_ty d1 zU))
 refine iteH.split (fun h=>?_) fun h=>?_
 ·rw [Mt] at h;simp only [decide_eq_true_eq,eq_iff_iff] at h;refine zW (aC hl g0 g1) ?_;refine AnsH.use (Hl C zF (hp.mono (zG H)) (hq.mono (zG H)) hx hy) ?_;rintro v H2 ⟨o,rfl,ho,hk2⟩;obtain ⟨k2,_,w2⟩:=zT H zK hk2;have b0:H2.get H.next=some (.cells [.bool (decide (x<0)),p] aa true):=hk2.get (cR)
  have b2:H2.get (H.next+2)=some (.cells [.bool false,.nilSl] aa true):=hk2.get (cR);refine zW (aV hl g0 g1 @b0) ?_;refine AnsH.use (fm C zF (ho.mono (zG H2)) _) ?_;rintro v3 H3 ⟨rfl,hk3⟩;obtain ⟨k3,_,_⟩:=zT H zK hk3;have o3:=ho.one;have d1:=hk3.get (b:=H.next+2) b2;refine zW (aV hl g0 g1 d1) ?_;refine fin H3 k3 _ _ _ _ d1 (ho.mono (Kp.sub (H:=H2) (Kp.trans zK hk3))) ?_;by_cases h1:x<0 <;> simp [h1] <;> omega
 ·rw [Mt] at h;simp only [decide_eq_true_eq,eq_iff_iff] at h;refine zW (aC hl g0 g1) ?_;refine AnsH.use (Ce C zF (hp.mono (zG H)) (hq.mono (zG H)) hx hy) ?_;rintro v H2 ⟨hk2,hr⟩;obtain ⟨k2,_,w2⟩:=zT H zK hk2;have b0:H2.get H.next=some (.cells [.bool (decide (x<0)),p] aa true):=hk2.get (cR)
  have b1:H2.get (H.next+1)=some (.cells [.bool (decide (y<0)),q] aa true):=hk2.get (cR);have b2:H2.get (H.next+2)=some (.cells [.bool false,.nilSl] aa true):=hk2.get (cR);by_cases hle:y.natAbs<=x.natAbs
  ·rw [if_pos hle] at hr;obtain ⟨o,rfl,ho⟩:=hr;refine zW (aV hl g0 g1 @b0) ?_;refine AnsH.use (fm C zF (ho.mono (zG H2)) _) ?_;rintro v3 H3 ⟨rfl,hk3⟩;obtain ⟨k3,_,_⟩:=zT H zK hk3;have o3:=ho.one;have d1:=hk3.get (b:=H.next+2) b2;refine zW (aV hl g0 g1 d1) ?_;refine fin H3 k3 _ _ _ _ d1 (ho.mono (Kp.sub (H:=H2) (Kp.trans zK hk3))) ?_;by_cases h1:x<0 <;> simp [h1] <;> omega
  ·rw [if_neg hle] at hr;subst hr;refine zW (cr hl g0 g1 @b0 b1) ?_;refine AnsH.use (Ce C zF (hq.mono (zG H)) (hp.mono (zG H)) hy hx) ?_;rintro v H3 ⟨hk3,hr⟩;rw [if_pos zO] at hr;obtain ⟨o,rfl,ho⟩:=hr;obtain ⟨k3,_,w3⟩:=zT H zK hk3;have c1:=hk3.get (b:=H.next+1) b1;have c2:=hk3.get (b:=H.next+2) b2;refine zW (aV hl g0 g1 @c1) ?_;refine AnsH.use (fm C zF (ho.mono (zG H3)) _) ?_;rintro v4 H4 ⟨rfl,hk4⟩;obtain ⟨k4,_,_⟩:=zT H zK hk4;have o3:=ho.one;have d1:=hk4.get (b:=H.next+2) c2;refine zW (aV hl g0 g1 d1) ?_;refine fin H4 k4 _ _ _ _ d1 (ho.mono (Kp.sub (H:=H3) (Kp.trans zK hk4))) ?_;by_cases h1:y<0 <;> simp [h1] <;> omega
def iv (x:Int):Int:=if x<0 then -1 else if x=0 then 0 else 1
def xM (C:Code tab) (hw:Wf H) {a:AV} {x:Int} (ha:IntV H a x):Ans tab (.fn nS [a]) H fun v H'=>v=.int .i64 (iv x)/\Kp H H':=by
 obtain ⟨p,rfl,hp⟩:=ha;have op:=hp.one;refine cQ C.q64 zU fun T hl g0=>?_;have hlen:decide (((ag x.natAbs).length:Int)=0)=decide (x=0):=by
  have:=bZ x.natAbs
  by_cases h:x=0
  ·subst h; simp [cP]
  ·have h1:=this.2 zO; simp [h]; intro h2; rw [h2] at h1; simp at h1
 refine zW (aV hl g0 hp.lenV hlen) ?_;refine iteH.split (fun h=>?_) fun h=>?_
 ·have hx:x=0:=by
   by_cases h1:x=0
   ·exact h1
   ·simp [h1] at h
  subst hx;refine zW (aB hl g0) ?_;exact ⟨rfl,zK⟩
 ·have hx:x≠0:=fun h1=>by subst h1; simp at h
  refine zW (aB hl g0) ?_;refine iteH.split (fun h=>?_) fun h=>?_
  ·refine zW (aB hl g0) ?_;exact ⟨by simp [iv,h],zK⟩
  ·refine zW (aB hl g0) ?_;exact ⟨by simp [iv,h,hx],zK⟩
def nM (C:Code tab) (hw:Wf H) {a:AV} {x:Int} (ha:IntV H a x) (hx:St x):Ans tab (.fn nU [a]) H fun v H'=>v=.tup [.int .i64 (iv x),.int .i64 0]/\Kp H H':=by
 obtain ⟨p,rfl,hp⟩:=ha;have op:=hp.one;refine cQ C.q57 zU fun T hl g0=>?_;refine zW (aB hl g0) ?_;refine AnsH.eq (fc C zF ⟨p,rfl,hp.mono (zG H)⟩ hx) fun H2 hk2=>?_;obtain ⟨k2,_,w2⟩:=zT H zK hk2;have b0:=hk2.get (b:=H.next) (e:=.cells [.bool (decide (x<0)),p] aa true) (cR);refine zW (aC hl g0 @b0) ?_;refine AnsH.eq (xM C zF ⟨p,rfl,hp.mono (zG H)⟩) fun H3 hk3=>?_;obtain ⟨k3,_,_⟩:=zT H zK hk3;refine zW (aB hl g0) ?_;exact zK
def Iw (C:Code tab) (hw:Wf H) {a b:AV} {x y:Int} (ha:IntV H a x) (hb:IntV H b y) (hx:St x) (hy:St y):Ans tab (.fn px [a,b]) H fun v H'=>∃ r,v=.tup [r,.int .i64 0]/\IntV H' r (x+y)/\Kp H H':=by
 obtain ⟨p,rfl,hp⟩:=ha;obtain ⟨q,rfl,hq⟩:=hb;have op:=hp.one;have oq:=hq.one;refine bz C.q59 zU fun T hl g0 g1=>?_;refine zW (aC hl g0 g1) ?_;refine AnsH.eq (gL C zF (DO (x:=x) (y:=y) (H:=H) hp hq (zG H) (by refine uv ?_; rfl)) (by simp) fun z hz=>?_) fun H2 hk2=>?_
 ·simp at hz; rcases hz with rfl | rfl <;> assumption
 obtain ⟨k2,_,w2⟩:=zT H zK hk2;have b0:=hk2.get (b:=H.next) (e:=.cells [.bool (decide (x<0)),p] aa true) (cR);have b1:=hk2.get (b:=H.next+1) (e:=.cells [.bool (decide (y<0)),q] aa true) (cR);have b2:=hk2.get (b:=H.next+2) (e:=.cells [.bool false,.nilSl] aa true) (cR);refine zW (cr hl g0 g1 @b0 b1) ?_;refine AnsH.use (AE C zF ⟨p,rfl,hp.mono (zG H)⟩ ⟨q,rfl,hq.mono (zG H)⟩ hx hy) ?_;rintro v H3 ⟨⟨r,rfl,hr⟩,hk3⟩;obtain ⟨k3,_,_⟩:=zT H zK hk3;have o3:=hr.one;have d2:=hk3.get (b:=H.next+2) b2;have lt2:=k3.wf _ _ d2;refine zW (aV hl g0 g1 d2) ?_;exact ⟨_,rfl,⟨r,rfl,hr.monoT (SubT.put_ty d2 zU)⟩,zK⟩
def It (C:Code tab) (hw:Wf H) {a b:AV} {x y:Int} (ha:IntV H a x) (hb:IntV H b y) (hx:St x) (hy:St y):Ans tab (.fn pq [a,b]) H fun v H'=>∃ r,v=.tup [r,.int .i64 0]/\IntV H' r (x-y)/\Kp H H':=by
 obtain ⟨p,rfl,hp⟩:=ha;obtain ⟨q,rfl,hq⟩:=hb;have op:=hp.one;have oq:=hq.one;refine bz C.q63 zU fun T hl g0 g1=>?_;refine zW (aC hl g0 g1) ?_;refine AnsH.eq (gL C zF (DO (x:=x) (y:=y) (H:=H) hp hq (zG H) (by refine uv ?_; rfl)) (by simp) fun z hz=>?_) fun H2 hk2=>?_
 ·simp at hz; rcases hz with rfl | rfl <;> assumption
 obtain ⟨k2,_,w2⟩:=zT H zK hk2;have b0:=hk2.get (b:=H.next) (e:=.cells [.bool (decide (x<0)),p] aa true) (cR);have b1:=hk2.get (b:=H.next+1) (e:=.cells [.bool (decide (y<0)),q] aa true) (cR);have b2:=hk2.get (b:=H.next+2) (e:=.cells [.bool false,.nilSl] aa true) (cR);refine zW (aC hl g0 g1) ?_;refine aH ?_;refine zD (cr hl g0 g1 @b0 b1) ?_;refine AnsH.use (fm C zF (hq.mono (zG H)) _) ?_;rintro v3 H3 ⟨rfl,hk3⟩;obtain ⟨k3,_,w3⟩:=zT H zK hk3;have hm:=ny (!decide (y<0)) (hq.mono k3.sub);have e:(if (!decide (y<0))=true then -((y.natAbs:Nat):Int) else ((y.natAbs:Nat):Int)) = -y:=by
  by_cases h:y<0 <;> simp [h] <;> omega
 rw [e] at hm;have hny:St (-y):=by unfold St at *; rwa [WL]
 refine zD (cr hl g0 g1 @b0 b1) ?_;refine AnsH.use (AE C zF ⟨p,rfl,hp.mono (zG H)⟩ hm hx hny) ?_;rintro v H4 ⟨⟨r,rfl,hr⟩,hk4⟩;obtain ⟨k4,_,_⟩:=zT H zK hk4;have o3:=hr.one;have c0:=hk3.get (b:=H.next) b0;have d2:=hk4.get (b:=H.next+2) (hk3.get (b:=H.next+2) b2);have lt2:=k4.wf _ _ d2;refine zD (gf hl g0 g1 @b0 b1 c0 d2) ?_;refine ⟨_,rfl,⟨r,?_,hr.monoT (SubT.put_ty d2 zU)⟩,zK⟩;rw [Int.sub_eq_add_neg]
def LU (x y:Nat) (hx:x<B) (hy:y<B) :
  ((x / 4294967296*(y / 4294967296) % B+((x / 4294967296*(y % 4294967296) % B+(x % 4294967296*(y % 4294967296) % B) / 4294967296) % B) / 4294967296) % B+((((x / 4294967296*(y % 4294967296) % B+(x % 4294967296*(y % 4294967296) % B) / 4294967296) % B) % 4294967296+x % 4294967296*(y / 4294967296) % B) % B) / 4294967296) % B=x*y / B:=by
 have e:x*y=(x / 4294967296*4294967296+x % 4294967296)*(y / 4294967296*4294967296+y % 4294967296):=by
  rw [Yf,Yf]
 have h1:x / 4294967296<4294967296:=by unfold B at hx; omega
 have h2:y / 4294967296<4294967296:=by unfold B at hy; omega
 have h3:x % 4294967296<4294967296:=zO;have h4:y % 4294967296<4294967296:=zO
 generalize x / 4294967296=x1 at *
 generalize y / 4294967296=y1 at *
 generalize x % 4294967296=x0 at *
 generalize y % 4294967296=y0 at *
 have b1:x1*y1<=4294967295*4294967295:=Wq zO zO;have b2:x1*y0<=4294967295*4294967295:=Wq zO zO;have b3:x0*y1<=4294967295*4294967295:=Wq zO zO;have b4:x0*y0<=4294967295*4294967295:=Wq zO zO;have e2:x*y=x1*y1*18446744073709551616+(x1*y0)*4294967296+(x0*y1)*4294967296+x0*y0:=by rw [e]; grind
 rw [e2];clear e e2 hx hy h1 h2 h3 h4
 generalize x1*y1=p at *
 generalize x1*y0=q at *
 generalize x0*y1=r at *
 generalize x0*y0=t at *
 simp only [B];omega
def oK (C:Code tab) (hw:Wf H) {x y:Nat} (hx:x<B) (hy:y<B):Ans tab (.fn iR [.int .u64 (x:Nat),.int .u64 (y:Nat)]) H fun v H'=>v=.tup [.int .u64 ((x*y / B:Nat):Int),.int .u64 ((x*y % B:Nat):Int)]/\Kp H H':=by
 refine bz C.q148 zU fun T hl g0 g1=>?_;have e:=LU x y hx hy;simp only [B] at e;refine zW (aV hl g0 g1 e) ?_;exact zK
end
end Go.Proofs.YthjdfjlhjnihfaaGreat.Ev
