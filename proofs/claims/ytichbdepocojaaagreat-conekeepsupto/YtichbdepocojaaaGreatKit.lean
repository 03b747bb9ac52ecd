/- A part. -/
import Derived.Test.YtichbdepocojaaaGreatEvDraw5
namespace Go.Proofs.YtichbdepocojaaaGreat.Ev
open Go
set_option linter.all false
def Heap.up (H:Heap) (k:Nat):Heap:={ H with next:=H.next+k }
theorem Mi (H:Heap) (a b:Nat):(H.up a).up b=H.up (a+b):=by simp [Heap.up,Nat.add_assoc]
theorem KS (H:Heap) (b k:Nat) (e:Ent):(H.put b e).up k=(H.up k).put b e:=rfl
theorem IZ (H:Heap) (b k:Nat):(H.kill b).up k=(H.up k).kill b:=rfl
theorem fG (H:Heap) (k:Nat):(H.up k).next=H.next+k:=rfl
theorem next_put (H:Heap) (b:Nat) (e:Ent):(H.put b e).next=H.next:=rfl
theorem next_kill (H:Heap) (b:Nat):(H.kill b).next=H.next:=rfl
theorem K7 (H:Heap) (k b:Nat):(H.up k).get b=H.get b:=rfl
theorem aG (H:Heap) (b:Nat) (e:Ent):(H.put b e).get b=some e:=by rw [zQ,if_pos rfl]
theorem au {H:Heap} {b c:Nat} {e:Ent} (h:c≠b):(H.put b e).get c=H.get c:=by rw [zQ,if_neg h]
theorem cL {H:Heap} {b c:Nat} (h:c≠b):(H.kill b).get c=H.get c:=by rw [Ef,if_neg h]
structure Kp (H H':Heap):Prop where
 wf0:Wf H
 wf:Wf H'
 le:H.next<=H'.next
 same:∀ b,b<H.next->H'.get b=H.get b
theorem Kp.sub {H H':Heap} (h:Kp H H'):Sub H H':=⟨h.le,fun b e hb=>(h.same b (h.wf0 b e hb)).trans hb⟩
theorem Kp.refl {H:Heap} (h:Wf H):Kp H H:=⟨h,h,Nat.le_refl _,fun _ _=>rfl⟩
theorem Kp.up {H H':Heap} (h:Kp H H') (k:Nat):Kp H (H'.up k):=⟨h.wf0,h.wf.bump k,Nat.le_trans h.le (Nat.le_add_right _ _),h.same⟩
theorem Kp.trans {H H' H'':Heap} (h:Kp H H') (h':Kp H' H''):Kp H H'':=⟨h.wf0,h'.wf,Nat.le_trans h.le h'.le,fun b hb=>(h'.same b (Nat.lt_of_lt_of_le hb h.le)).trans (h.same b hb)⟩
theorem Kp.get {H H':Heap} (h:Kp H H') {b:Nat} {e:Ent} (hb:H.get b=some e):H'.get b=some e:=h.sub.get b e hb
theorem Kp.put {H H':Heap} (h:Kp H H') {b:Nat} {e:Ent} (h1:H.next<=b) (h2:b<H'.next):Kp H (H'.put b e):=⟨h.wf0,h.wf.put h2 e,h.le,fun c hc=>by rw [au (by omega)]; exact h.same c hc⟩
theorem Kp.kill {H H':Heap} (h:Kp H H') {b:Nat} (h1:H.next<=b):Kp H (H'.kill b):=⟨h.wf0,h.wf.kill b,h.le,fun c hc=>by rw [cL (by omega)]; exact h.same c hc⟩
theorem Kp.old {H H':Heap} (h:Kp H H') {b:Nat} {e:Ent} (hb:H.get b=some e):b<H.next:=h.wf0 b e hb
theorem Kp.free {H H':Heap} (h:Kp H H') {b:Nat} (h1:b<H.next) (h2:H.get b=none):H'.get b=none:=(h.same b h1).trans h2
def CL (os:List cC):List Nat:=os.filterMap (·.dst)
def eQ:ACode->List Nat
 | .region os=>CL os
 | .draw ds _=>ds.filterMap (·.dst)
 | .drawF ds _ l _=>(ds++[l]).filterMap (·.dst)
 | .seq a b=>eQ a++eQ b
 | .cond _ a b=>eQ a++eQ b
 | .block _ a=>eQ a
 | .loop a=>eQ a
 | .scope a=>eQ a
 | _=>[]
def rp (res:List (Nat × Option (Option Nat))) (Q:AV->Heap->Prop) (x:Ex) (T:Tm) (H:Heap):Prop:=(x=.nrm\/x=.ret)/\∃ v,bZ T H res=some v/\Q v H
theorem Gg {res:List (Nat × Option (Option Nat))} {Q:AV->Heap->Prop} {T:Tm} {H:Heap}:rp res Q .nrm T H=fF (bZ T H res) (fun v=>Q v H) ():=by
 unfold rp fF fR
 cases bZ T H res <;> simp
theorem Gf {res:List (Nat × Option (Option Nat))} {Q:AV->Heap->Prop} {T:Tm} {H:Heap}:rp res Q .ret T H=fF (bZ T H res) (fun v=>Q v H) ():=by
 unfold rp fF fR
 cases bZ T H res <;> simp
def qx (H:Heap) (v:AV):Option (Option Nat)->Option AV
 | none=>some v
 | some k=>match v with
  | .ptr b o=>cq H k (.ptr b o)
  | _=>none
theorem DG (H:Heap) (v:AV):qx H v none=some v:=rfl
theorem Gh (H:Heap) (b o:Nat) (k:Option Nat):qx H (.ptr b o) (some k)=cq H k (.ptr b o):=rfl
theorem iV (T:Tm) (H:Heap) (r:Nat × Option (Option Nat)):l9 T H r=qx H (af T r.1) r.2:=by
 obtain ⟨n,k⟩:=r
 cases k with
 | none=>rfl
 | some k=>simp only [l9,qx]; cases af T n <;> rfl
def KE (a b:Option AV):Option AV:=a.bind fun a=>b.bind fun b=>some (.tup [a,b])
def KC (a b c:Option AV):Option AV:=a.bind fun a=>b.bind fun b=>c.bind fun c=>some (.tup [a,b,c])
theorem Dp (a b:AV):KE (some a) (some b)=some (.tup [a,b]):=rfl
theorem Do (a b c:AV):KC (some a) (some b) (some c)=some (.tup [a,b,c]):=rfl
theorem KO (T:Tm) (H:Heap):bZ T H []=some (.tup []):=rfl
theorem KN (T:Tm) (H:Heap) (r:Nat) (k:Option (Option Nat)):bZ T H [(r,k)]=qx H (af T r) k:=by
 show (List.mapM (l9 T H) [(r,k)]).bind _=_
 rw [<- iV T H (r,k)]
 simp only [List.mapM_cons,List.mapM_nil]
 cases l9 T H (r,k) <;> rfl
theorem KM (T:Tm) (H:Heap) (r s:Nat) (k l:Option (Option Nat)):bZ T H [(r,k),(s,l)]=KE (qx H (af T r) k) (qx H (af T s) l):=by
 show (List.mapM (l9 T H) [(r,k),(s,l)]).bind _=_
 rw [<- iV T H (r,k),<- iV T H (s,l)]
 simp only [List.mapM_cons,List.mapM_nil,KE]
 cases l9 T H (r,k) <;> cases l9 T H (s,l) <;> rfl
theorem Ga (T:Tm) (H:Heap) (r s t:Nat) (k l m:Option (Option Nat)):bZ T H [(r,k),(s,l),(t,m)]=KC (qx H (af T r) k) (qx H (af T s) l) (qx H (af T t) m):=by
 show (List.mapM (l9 T H) [(r,k),(s,l),(t,m)]).bind _=_
 rw [<- iV T H (r,k),<- iV T H (s,l),<- iV T H (t,m)]
 simp only [List.mapM_cons,List.mapM_nil,KC]
 cases l9 T H (r,k) <;> cases l9 T H (s,l) <;> cases l9 T H (t,m) <;> rfl
section
variable {tab:Nat->Option aq} {f n:Nat} {res:List (Nat × Option (Option Nat))} {body:ACode} {H:Heap} {Q:AV->Heap->Prop}
theorem Nm (hf:tab f=some ⟨0,n,res,body,none⟩) (h:∀ T:Tm,T.length=n->WC tab false body T H (rp res Q)):Ans tab (.fn f []) H Q :=
 mE hf rfl rfl (Nat.zero_le _) fun T hl g=>h T hl
theorem d9 {a:AV} (hf:tab f=some ⟨1,n,res,body,none⟩) (hn:1<=n) (h:∀ T:Tm,T.length=n->af T 0=a->WC tab false body T H (rp res Q)):Ans tab (.fn f [a]) H Q :=
 mE hf rfl rfl hn fun T hl g=>h T hl (g 0 (by simp))
theorem cD {a b:AV} (hf:tab f=some ⟨2,n,res,body,none⟩) (hn:2<=n) (h:∀ T:Tm,T.length=n->af T 0=a->af T 1=b->WC tab false body T H (rp res Q)):Ans tab (.fn f [a,b]) H Q :=
 mE hf rfl rfl hn fun T hl g=>h T hl (g 0 (by simp)) (g 1 (by simp))
theorem jP {a b c:AV} (hf:tab f=some ⟨3,n,res,body,none⟩) (hn:3<=n) (h:∀ T:Tm,T.length=n->af T 0=a->af T 1=b->af T 2=c->WC tab false body T H (rp res Q)):Ans tab (.fn f [a,b,c]) H Q :=
 mE hf rfl rfl hn fun T hl g=>h T hl (g 0 (by simp)) (g 1 (by simp)) (g 2 (by simp))
theorem I6 {a b c d:AV} (hf:tab f=some ⟨4,n,res,body,none⟩) (hn:4<=n) (h:∀ T:Tm,T.length=n->af T 0=a->af T 1=b->af T 2=c->af T 3=d->WC tab false body T H (rp res Q)):Ans tab (.fn f [a,b,c,d]) H Q :=
 mE hf rfl rfl hn fun T hl g=>h T hl (g 0 (by simp)) (g 1 (by simp)) (g 2 (by simp)) (g 3 (by simp))
theorem ME {a b:AV} (hf:tab f=some ⟨2,n,res,body,none⟩) (hn:2<=n) (h:∀ T:Tm,T.length=n->af T 0=a->af T 1=b->WC tab false body T H (rp res Q)):Ans tab (.ent f [a,b]) H Q :=
 vU hf rfl rfl hn fun T hl g=>h T hl (g 0 (by simp)) (g 1 (by simp))
theorem Nt {a b c:AV} (hf:tab f=some ⟨3,n,res,body,none⟩) (hn:3<=n) (h:∀ T:Tm,T.length=n->af T 0=a->af T 1=b->af T 2=c->WC tab false body T H (rp res Q)):Ans tab (.ent f [a,b,c]) H Q :=
 vU hf rfl rfl hn fun T hl g=>h T hl (g 0 (by simp)) (g 1 (by simp)) (g 2 (by simp))
end
theorem Ns (a:AV) (l:List AV):BJ 0 (.tup (a :: l))=some a:=rfl
theorem Nr (a b:AV) (l:List AV):BJ 1 (.tup (a :: b :: l))=some b:=rfl
theorem Np (a b c:AV) (l:List AV):BJ 2 (.tup (a :: b :: c :: l))=some c:=rfl
theorem Lc (off b o:Nat):E4 off (.ptr b o)=some (.ptr b (o+off)):=rfl
theorem En (k:Option Nat) (off:Nat) (cs:List AV):yz k off (.agg cs)=bu cs off k:=rfl
theorem IO (b o:Nat):uA (.ptr b o)=some (.ptr b o):=rfl
theorem KV (f:Nat) (a c:List AV):uA (.fn (.func f) a c)=some (.fn (.func f) a c):=rfl
def BM (neg:Bool) (n:Nat):AV->AV->Option AV
 | .agg a,.agg b=>(match n with | 0=>Ab a b | n+1=>nZ (n+1) a b).map fun r=>.bool (if neg then !r else r)
 | _,_=>none
theorem Fl {tab:Nat->Option aq} (ev:Src->AV) (H:Heap) (id:Nat) (Q:AV->Heap->Prop) (neg:Bool) (n:Nat) (x y:Src):kP tab ev H id (.eqAgg neg n x y) Q=fF (BM neg n (ev x) (ev y)) (fun v=>Q v H) ():=by
 rw [bX,dN tab ev H id Q (o:=.eqAgg neg n x y) (v:=BM neg n (ev x) (ev y)) (fun f a e=>by cases e) (by simp only [aJ]; cases ev x <;> cases ev y <;> rfl) rfl]; rfl
def Mz (len size:Nat) (k:Option Nat) (v i:AV):Option AV:=aJ (fun s=>match s with | .t 0=>v | _=>i) (.indexAgg len size k (.t 0) (.t 1))
theorem yQ {tab:Nat->Option aq} (ev:Src->AV) (H:Heap) (id:Nat) (Q:AV->Heap->Prop) (len size:Nat) (k:Option Nat) (x i:Src):kP tab ev H id (.indexAgg len size k x i) Q=fF (Mz len size k (ev x) (ev i)) (fun v=>Q v H) ():=by
 rw [bX,dN tab ev H id Q (o:=.indexAgg len size k x i) (v:=Mz len size k (ev x) (ev i)) (fun f a e=>by cases e) (by simp only [aJ,Mz]) rfl]; rfl
theorem Nk (k:IntKind) (a b:AV):Mz 2 1 none (.agg [a,b]) (.int k 0)=some a:=rfl
theorem Nj (k:IntKind) (a b:AV):Mz 2 1 none (.agg [a,b]) (.int k 1)=some b:=rfl
theorem Le (a b c d:Bool):BM false 0 (.agg [.bool a,.bool b]) (.agg [.bool c,.bool d])=some (.bool (a == c && b == d)):=rfl
theorem Kz (k:IntKind) (n:Int):KA .neg (.int k n)=some (.int k (k.wrap (0-n))):=rfl
section
variable (a b:Nat)
theorem EO (x y:Int):bP .add .int (.int .i64 x) (.int .i64 y)=some (.int .i64 (IntKind.i64.wrap (x+y))):=yG _ _ _
theorem EJ (x y:Int):bP .sub .int (.int .i64 x) (.int .i64 y)=some (.int .i64 (IntKind.i64.wrap (x-y))):=CX _ _ _
theorem EL (x y:Int):bP .mul .int (.int .i64 x) (.int .i64 y)=some (.int .i64 (IntKind.i64.wrap (x*y))):=CY _ _ _
theorem EN:bP .add .int (.int .u64 (a:Int)) (.int .u64 (b:Int))=some (.int .u64 (((a+b) % 18446744073709551616:Nat):Int)):=by
 rw [yG,ji]; congr 2
theorem rU:bP .mul .int (.int .u64 (a:Int)) (.int .u64 (b:Int))=some (.int .u64 (((a*b) % 18446744073709551616:Nat):Int)):=by
 rw [CY,ji]; congr 2
theorem rT (h:b<=18446744073709551616):bP .sub .int (.int .u64 (a:Int)) (.int .u64 (b:Int))=some (.int .u64 (((a+18446744073709551616-b) % 18446744073709551616:Nat):Int)):=by
 rw [CX,ji]; congr 2; omega
theorem BX:bP .and .int (.int .u64 (a:Int)) (.int .u64 4294967295)=some (.int .u64 ((a % 4294967296:Nat):Int)):=by
 have e:(BitVec.ofInt 64 (a:Int) &&& BitVec.ofInt 64 4294967295).toNat=a % 4294967296:=by
  rw [BitVec.toNat_and]
  have h1:(BitVec.ofInt 64 (a:Int)).toNat=a % 2^64:=by simp
  have h2:(BitVec.ofInt 64 4294967295).toNat=2^32-1:=by decide
  rw [h1,h2,Nat.and_two_pow_sub_one_eq_mod]
  omega
 show some (AV.int .u64 (IntKind.u64.wrap ((BitVec.ofInt 64 (a:Int) &&& BitVec.ofInt 64 4294967295).toNat:Nat)))=_
 rw [e,fc (by omega) (by omega)]
theorem pd {k:IntKind} (hb:b<64):bP .shr .int (.int .u64 (a:Int)) (.int k (b:Int))=some (.int .u64 ((a / 2^b:Nat):Int)):=by
 show jB .shr .u64 (a:Int) (b:Int)=_
 unfold jB
 rw [if_neg (by omega)]
 have h1:Nat.min (b:Int).toNat IntKind.u64.bits=b:=by
  have:IntKind.u64.bits=64:=rfl
  rw [this,Int.toNat_natCast]; exact Nat.min_eq_left (by omega)
 simp only [h1]
 congr 2
 rw [Int.fdiv_eq_ediv_of_nonneg _ (Int.le_of_lt (Int.pow_pos (by omega)))]
 simp
theorem EK:bP .shr .int (.int .u64 (a:Int)) (.int .u64 32)=some (.int .u64 ((a / 4294967296:Nat):Int)):=pd a 32 (by omega)
end
theorem Be (T:Tm) (t:Nat) (v:AV) (r:List (Nat × AV)):mc T ((t,v) :: r)=mc (T.set t v) r:=rfl
theorem DJ (T:Tm):mc T []=T:=rfl
def kJ (v:AV) (w:Bool) (P Q:Prop) (_:AJ P) (_:AJ Q):Prop:=match v with
 | .bool b=>if b=w then P else Q
 | .tup []=>Q
 | _=>False
theorem zP (b w:Bool) (P Q:Prop):kJ (.bool b) w P Q () ()=iteH (b=w) P Q () ():=rfl
theorem BC (w:Bool) (P Q:Prop):kJ (.tup []) w P Q () ()=Q:=rfl
section
variable {tab:Nat->Option aq} {rd:Bool} {T:Tm} {H:Heap}
theorem C9 {Q:Tm->Heap->Prop} {id:Nat} (d:Option Nat) (o:AOp) (t:Nat) (w:Bool) (os:List cC):yL tab id (⟨d,o,some (t,w)⟩ :: os) T H Q =
  kJ (af T t) w (kP tab (Src.ev T) H id o fun v H'=>yL tab (id+1) os (putT T d v) H' Q) (yL tab (id+1) os (putT T d (.tup [])) H Q) () ():=by
 rw [tE,bX]
 have hw:bS T (some (t,w))=match af T t with | .bool b=>some (b == w) | .tup []=>some false | _=>none:=by
  unfold af
  rw [List.getD_eq_getElem?_getD]
  cases h:T[t]? with
  | none=>simp only [bS,h]; rfl
  | some v =>
   simp only [bS,h,Option.getD_some]
   cases v with
   | tup vs=>cases vs <;> rfl
   | _=>rfl
 conv=>lhs; unfold rZ
 simp only [hw,kJ]
 cases af T t with
 | bool b=>cases b <;> cases w <;> rfl
 | tup vs=>cases vs <;> rfl
 | _=>rfl
theorem AL {Q:Ex->Tm->Heap->Prop} (ops:List cC):WC tab rd (.region ops) T H Q=KQ H.next (H.up ops.length) (fun id H'=>yL tab id ops T H' (Q .nrm)) ():=Da ops
theorem BT (P Q:Prop):CR (.bool true) P Q () ()=P:=rfl
theorem Al (P Q:Prop):CR (.bool false) P Q () ()=Q:=rfl
end
def dJ (id id1 i n c k:Nat) (body:ACode):ACode :=
 .block id (.loop (.seq (.region [⟨some c,.bin .lss .int (.t i) (.t n),none⟩]) (.seq (.cond (.t c) .skip (.exit id)) (.seq (.block id1 body)
  (.region [⟨some k,.bin .add .int (.t i) (.c (.int .i64 1)),none⟩,⟨some i,.mv (.t k),none⟩])))))
def ir (id:Nat) (c:ACode):ACode:=.block id (.loop c)
def gy:ACode->Bool
 | .rangeM ..=>false
 | .scopeL ..=>false
 | .seq a b=>gy a && gy b
 | .cond _ a b=>gy a && gy b
 | .block _ a=>gy a
 | .loop a=>gy a
 | .scope a=>gy a
 | _=>true
structure Same (D:List Nat) (T T':Tm):Prop where
 len:T'.length=T.length
 at_:∀ s,s ∉ D->af T' s=af T s
theorem Same.refl (D:List Nat) (T:Tm):Same D T T:=⟨rfl,fun _ _=>rfl⟩
theorem Same.trans {D D':List Nat} {T T' T'':Tm} (h:Same D T T') (h':Same D' T' T''):Same (D++D') T T'' :=
 ⟨h'.len.trans h.len,fun s hs=>(h'.at_ s fun h1=>hs (List.mem_append_right _ h1)).trans (h.at_ s fun h1=>hs (List.mem_append_left _ h1))⟩
theorem Same.wide {D D':List Nat} {T T':Tm} (h:Same D T T') (hd:∀ s,s∈D->s∈D'):Same D' T T':=⟨h.len,fun s hs=>h.at_ s fun h1=>hs (hd s h1)⟩
theorem ke (T:Tm) (i j:Nat) (v:AV) (h:i≠j):af (T.set i v) j=af T j:=by
 unfold af
 rw [List.getD_eq_getElem?_getD,List.getD_eq_getElem?_getD,List.getElem?_set]
 rw [if_neg h]
theorem Eg (T:Tm) (i j:Nat) (v:AV):af (T.set i v) j=if i=j then (if i<T.length then v else .undef) else af T j:=by
 by_cases h:i<T.length
 ·rw [qJ T i j v h]; simp [h]
 ·unfold af
  rw [List.set_eq_of_length_le (by omega)]
  by_cases hij:i=j
  ·subst hij; rw [List.getD_eq_getElem?_getD,List.getElem?_eq_none (by omega)]; simp [h]
  ·simp [hij]
theorem G7:((0:Nat):Int)=0:=rfl
theorem Same.put (T:Tm) (d:Option Nat) (v:AV):Same d.toList T (putT T d v):=by
 cases d with
 | none=>exact Same.refl _ _
 | some d=>exact ⟨by simp [putT],fun s hs=>ke T d s v fun e=>hs (by simp [e])⟩
theorem wM {cal:lV}:∀ (os:List cC) (id:Nat) (T:Tm) (H:Heap) (T':Tm) (H':Heap),tf cal id os T H=some (T',H')->Same (CL os) T T'
 | [],id,T,H,T',H',h=>by cases h; exact Same.refl _ _
 | o :: os,id,T,H,T',H',h=>by
  have key:∀ v H1,tf cal (id+1) os (putT T o.dst v) H1=some (T',H')->Same (CL (o :: os)) T T':=fun v H1 h1=>by
   refine ((Same.put T o.dst v).trans (wM os _ _ _ _ _ h1)).wide fun s hs=>?_
   unfold CL at hs ⊢
   cases hd:o.dst with
   | none=>rw [List.filterMap_cons_none hd]; simpa [hd] using hs
   | some d=>rw [List.filterMap_cons_some hd]; simpa [hd] using hs
  unfold tf at h
  split at h
  ·split at h
   ·exact key _ _ h
   ·cases h
  ·exact key _ _ h
  ·cases h
theorem so:∀ (ds:List e9) (vs:List AV) (T:Tm),Same (ds.filterMap (·.dst)) T (fh T ds vs)
 | [],vs,T=>by cases vs <;> exact Same.refl _ _
 | d :: ds,[],T=>⟨rfl,fun _ _=>rfl⟩
 | d :: ds,v :: vs,T=>by
  refine ((Same.put T d.dst v).trans (so ds vs _)).wide fun s hs=>?_
  cases hd:d.dst with
  | none=>rw [List.filterMap_cons_none hd]; simpa [hd] using hs
  | some d'=>rw [List.filterMap_cons_some hd]; simpa [hd] using hs
theorem wT {D:List Nat} {body:Tm->Heap->Option (Ex × Tm × Heap)} (hb:∀ T H x T' H',body T H=some (x,T',H')->Same D T T') :
  ∀ (n:Nat) (T:Tm) (H:Heap) (x:Ex) (T':Tm) (H':Heap),uN body n T H=some (x,T',H')->Same D T T'
 | 0,_,_,_,_,_,h=>by cases h
 | n+1,T,H,x,T',H',h=>by
  unfold uN at h
  split at h
  ·rename_i T1 H1 h1
   exact ((hb _ _ _ _ _ h1).trans (wT hb n _ _ _ _ _ h)).wide fun s hs=>by simpa using hs
  ·exact hb _ _ _ _ _ h
theorem dz {cal:lV} {m:Nat} {rd:Bool}:∀ (c:ACode) (T:Tm) (H:Heap) (x:Ex) (T':Tm) (H':Heap),gy c=true->aA cal m rd c T H=some (x,T',H')->Same (eQ c) T T'
 | .skip,T,H,x,T',H',_,h=>by cases h; exact Same.refl _ _
 | .exit _,T,H,x,T',H',_,h=>by cases h; exact Same.refl _ _
 | .goto _,T,H,x,T',H',_,h=>by cases h; exact Same.refl _ _
 | .ret,T,H,x,T',H',_,h=>by cases h; exact Same.refl _ _
 | .region os,T,H,x,T',H',_,h=>by
  simp only [aA] at h
  split at h
  ·rename_i h1; cases h; exact wM _ _ _ _ _ _ h1
  ·cases h
 | .draw ds late,T,H,x,T',H',_,h=>by
  simp only [aA] at h
  split at h
  ·rename_i h1
   cases h
   unfold Ad at h1
   split at h1
   ·cases h1
   ·split at h1
    ·cases h1; exact so _ _ _
    ·cases h1
  ·cases h
 | .drawF ..,T,H,x,T',H',_,h=>by cases h
 | .seq a b,T,H,x,T',H',hp,h=>by
  simp only [gy,Bool.and_eq_true] at hp
  simp only [aA] at h
  split at h
  ·rename_i T1 H1 h1
   exact (dz a _ _ _ _ _ hp.1 h1).trans (dz b _ _ _ _ _ hp.2 h)
  ·exact (dz a _ _ _ _ _ hp.1 h).wide fun s hs=>List.mem_append_left _ hs
 | .cond c a b,T,H,x,T',H',hp,h=>by
  simp only [gy,Bool.and_eq_true] at hp
  simp only [aA] at h
  split at h
  ·exact (dz a _ _ _ _ _ hp.1 h).wide fun s hs=>List.mem_append_left _ hs
  ·exact (dz b _ _ _ _ _ hp.2 h).wide fun s hs=>List.mem_append_right _ hs
  ·cases h
 | .block id a,T,H,x,T',H',hp,h=>by
  simp only [aA] at h
  split at h
  ·rename_i h1
   split at h
   ·cases h; exact dz a _ _ _ _ _ hp h1
   ·cases h; exact dz a _ _ _ _ _ hp h1
  ·exact dz a _ _ _ _ _ hp h
 | .loop a,T,H,x,T',H',hp,h=>by
  simp only [aA] at h
  exact wT (fun T H x T' H' h1=>dz a _ _ _ _ _ hp h1) _ _ _ _ _ _ h
 | .scope a,T,H,x,T',H',hp,h=>by
  simp only [aA] at h
  split at h
  ·cases h
  ·exact dz a _ _ _ _ _ hp h
 | .rangeFunc f ps asg body,T,H,x,T',H',_,h=>by
  have:T'=T:=by
   simp only [aA] at h
   split at h
   ·cases h
   ·split at h
    ·split at h
     ·split at h
      ·cases h; rfl
      ·split at h <;> first | (cases h; rfl) | cases h
      ·cases h
     ·cases h
    ·cases h
  subst this; exact Same.refl _ _
 | .rangeM ..,T,H,x,T',H',hp,h=>by cases hp
 | .scopeL ..,T,H,x,T',H',hp,h=>by cases hp
def WB (tab:Nat->Option aq) (rd:Bool) (c:ACode) (T:Tm) (H:Heap) (Q:Ex->Tm->Heap->Prop):Prop:=∃ x T' H',Hv tab rd c T H x T' H'/\Q x T' H'
section
variable {tab:Nat->Option aq} {rd:Bool}
theorem WC.wb {c:ACode} {T:Tm} {H:Heap} {Q:Ex->Tm->Heap->Prop} (h:WC tab rd c T H Q):WB tab rd c T H Q:=dM c T H Q h.run
theorem WB.same {c:ACode} {T:Tm} {H:Heap} {Q:Ex->Tm->Heap->Prop} (h:WB tab rd c T H Q) (hp:gy c=true):WB tab rd c T H fun x T' H'=>Same (eQ c) T T'/\Q x T' H':=by
 obtain ⟨x,T',H',⟨N,g⟩,hq⟩:=h
 exact ⟨x,T',H',⟨N,g⟩,dz c _ _ _ _ _ hp (g N N (Nat.le_refl _) (Nat.le_refl _)),hq⟩
theorem WB.mono {c:ACode} {T:Tm} {H:Heap} {Q Q':Ex->Tm->Heap->Prop} (h:WB tab rd c T H Q) (hq:∀ x T' H',Q x T' H'->Q' x T' H'):WB tab rd c T H Q':=by
 obtain ⟨x,T',H',hb,h⟩:=h
 exact ⟨x,T',H',hb,hq _ _ _ h⟩
theorem tH {a b:ACode} {T:Tm} {H:Heap} {Q:Ex->Tm->Heap->Prop} (h:WB tab rd a T H fun x T' H'=>match x with | .nrm=>WB tab rd b T' H' Q | x=>Q x T' H'):WB tab rd (.seq a b) T H Q:=by
 obtain ⟨x,T1,H1,⟨N1,g1⟩,h1⟩:=h
 by_cases hx:x=.nrm
 ·subst hx
  obtain ⟨y,T2,H2,⟨N2,g2⟩,h2⟩:=h1
  refine ⟨y,T2,H2,⟨N1+N2,fun m n hm hn=>?_⟩,h2⟩
  simp only [aA,g1 m n (by omega) (by omega)]
  exact g2 m n (by omega) (by omega)
 ·refine ⟨x,T1,H1,⟨N1,fun m n hm hn=>?_⟩,?_⟩
  ·simp only [aA,g1 m n hm hn]
   all_goals (cases x <;> first | rfl | exact absurd rfl hx)
  ·cases x <;> first | exact h1 | exact absurd rfl hx
theorem Im {c:Src} {a b:ACode} {T:Tm} {H:Heap} {Q:Ex->Tm->Heap->Prop} {v:Bool} (hc:c.ev T=.bool v) (h:if v=true then WB tab rd a T H Q else WB tab rd b T H Q):WB tab rd (.cond c a b) T H Q:=by
 cases v with
 | true =>
  obtain ⟨x,T1,H1,⟨N1,g1⟩,h1⟩:=h
  exact ⟨x,T1,H1,⟨N1,fun m n hm hn=>by simp only [aA,hc]; exact g1 m n hm hn⟩,h1⟩
 | false =>
  obtain ⟨x,T1,H1,⟨N1,g1⟩,h1⟩:=h
  exact ⟨x,T1,H1,⟨N1,fun m n hm hn=>by simp only [aA,hc]; exact g1 m n hm hn⟩,h1⟩
theorem FC {id:Nat} {a:ACode} {T:Tm} {H:Heap} {Q:Ex->Tm->Heap->Prop} (h:WB tab rd a T H (p9 id Q)):WB tab rd (.block id a) T H Q:=by
 obtain ⟨x,T1,H1,⟨N1,g1⟩,h1⟩:=h
 cases x with
 | exit id' =>
  simp only [p9] at h1
  by_cases hi:id'=id
  ·rw [if_pos hi] at h1
   exact ⟨.nrm,T1,H1,⟨N1,fun m n hm hn=>by simp only [aA,g1 m n hm hn,if_pos hi]⟩,h1⟩
  ·rw [if_neg hi] at h1
   exact ⟨.exit id',T1,H1,⟨N1,fun m n hm hn=>by simp only [aA,g1 m n hm hn,if_neg hi]⟩,h1⟩
 | nrm=>exact ⟨_,T1,H1,⟨N1,fun m n hm hn=>by simp only [aA,g1 m n hm hn]⟩,h1⟩
 | goto l=>exact ⟨_,T1,H1,⟨N1,fun m n hm hn=>by simp only [aA,g1 m n hm hn]⟩,h1⟩
 | ret=>exact ⟨_,T1,H1,⟨N1,fun m n hm hn=>by simp only [aA,g1 m n hm hn]⟩,h1⟩
theorem Ik {T:Tm} {H:Heap} {Q:Ex->Tm->Heap->Prop} (h:Q .nrm T H):WB tab rd .skip T H Q:=⟨.nrm,T,H,⟨0,fun _ _ _ _=>rfl⟩,h⟩
theorem Il {i:Nat} {T:Tm} {H:Heap} {Q:Ex->Tm->Heap->Prop} (h:Q (.exit i) T H):WB tab rd (.exit i) T H Q:=⟨.exit i,T,H,⟨0,fun _ _ _ _=>rfl⟩,h⟩
theorem xK {body:ACode} {Q:Ex->Tm->Heap->Prop} (Inv:Nat->Tm->Heap->Prop)
  (hr:∀ k T H,Inv k T H->WB tab rd body T H (Bv Inv k Q)):∀ (k:Nat) (T:Tm) (H:Heap),Inv k T H->WB tab rd (.loop body) T H Q:=by
 have key:∀ (k:Nat) (T:Tm) (H:Heap),Inv k T H->∃ x T' H',Q x T' H'/\∃ N,∀ m n j,N<=m->N<=n->N<=j->uN (aA (jG tab ea m n) m rd body) j T H=some (x,T',H'):=by
  intro k
  induction k using Nat.strongRecOn with
  | _ k ih =>
   intro T H hI
   obtain ⟨x,T1,H1,⟨N1,g1⟩,h1⟩:=hr k T H hI
   by_cases hx:x=.nrm
   ·subst hx
    obtain ⟨k',hk,hI'⟩:=h1
    obtain ⟨y,T2,H2,hq,N2,g2⟩:=ih k' hk T1 H1 hI'
    refine ⟨y,T2,H2,hq,N1+N2+1,fun m n j hm hn hj=>?_⟩
    obtain ⟨j',rfl⟩:∃ j',j=j'+1:=⟨j-1,by omega⟩
    unfold uN
    rw [g1 m n (by omega) (by omega)]
    exact g2 m n j' (by omega) (by omega) (by omega)
   ·refine ⟨x,T1,H1,by cases x <;> first | exact h1 | exact absurd rfl hx,N1+1,fun m n j hm hn hj=>?_⟩
    obtain ⟨j',rfl⟩:∃ j',j=j'+1:=⟨j-1,by omega⟩
    unfold uN
    rw [g1 m n (by omega) (by omega)]
    cases x <;> first | rfl | exact absurd rfl hx
 intro k T H hI
 obtain ⟨x,T',H',hq,N,g⟩:=key k T H hI
 exact ⟨x,T',H',⟨N,fun m n hm hn=>g m n m hm hn hm⟩,hq⟩
theorem WB.wcLoop {id:Nat} {body:ACode} {T:Tm} {H:Heap} {Q:Ex->Tm->Heap->Prop} (h:WB tab rd (.loop body) T H (p9 id Q)):WC tab rd (.block id (.loop body)) T H Q:=by
 rw [yR]
 exact ⟨h⟩
def Em (id id1:Nat) (P:Tm->Heap->Prop) (Q:Ex->Tm->Heap->Prop) (x:Ex) (T:Tm) (H:Heap):Prop:=match x with
 | .nrm=>P T H
 | .exit e=>if e=id1 then P T H else if e=id then Q .nrm T H else Q (.exit e) T H
 | x=>Q x T H
section
variable {id id1:Nat} {P:Tm->Heap->Prop} {Q:Ex->Tm->Heap->Prop} {T:Tm} {H:Heap}
theorem GP:Em id id1 P Q .nrm T H=P T H:=rfl
theorem GO:Em id id1 P Q .ret T H=Q .ret T H:=rfl
theorem Ek (l:Nat):Em id id1 P Q (.goto l) T H=Q (.goto l) T H:=rfl
theorem El (e:Nat):Em id id1 P Q (.exit e) T H=iteH (e=id1) (P T H) (iteH (e=id) (Q .nrm T H) (Q (.exit e) T H) () ()) () ():=rfl
end
def JG (L i n c k:Nat) (D live:List Nat):Bool :=
 decide (i<L) && decide (n<L) && decide (c<L) && decide (k<L) && i != n && i != c && i != k && n != c && n != k && c != k && !D.contains i && !D.contains n && live.all fun s=>s != i && s != c && s != k
theorem al {id id1 i n c k:Nat} {body:ACode} {T:Tm} {H:Heap} {Q:Ex->Tm->Heap->Prop} {L a N:Nat} (H0:Heap) (live:List Nat) (P:Nat->List AV->Heap->Prop)
  (hl:T.length=L) (ha:af T i=.int .i64 (a:Int)) (hn:af T n=.int .i64 (N:Int)) (haN:a<=N) (hN:N<9223372036854775807) (hok:JG L i n c k (eQ body) live=true) (hp:gy body=true)
  (hup:∀ j vs H m,P j vs H->P j vs (H.up m))
  (hk0:Kp H0 H) (h0:P a (live.map (af T)) H)
  (hb:∀ j T1 H1,a<=j->j<N->T1.length=L->af T1 i=.int .i64 (j:Int)->Same (i :: c :: k :: eQ body) T T1->Kp H0 H1->P j (live.map (af T1)) H1 ->
   WC tab rd body T1 H1 (Em id id1 (fun T2 H2=>Kp H0 H2/\P (j+1) (live.map (af T2)) H2) Q))
  (he:∀ T1 H1,T1.length=L->Same (i :: c :: k :: eQ body) T T1->Kp H0 H1->P N (live.map (af T1)) H1->Q .nrm T1 H1) :
  WC tab rd (dJ id id1 i n c k body) T H Q:=by
 have hok':=hok
 simp only [JG,Bool.and_eq_true,decide_eq_true_eq,bne_iff_ne,ne_eq,Bool.not_eq_true',List.all_eq_true] at hok
 obtain ⟨⟨⟨⟨⟨⟨⟨⟨⟨⟨⟨⟨o1,o2⟩,o3⟩,o4⟩,o5⟩,o6⟩,o7⟩,o8⟩,o9⟩,o10⟩,o11⟩,o12⟩,o13⟩:=hok
 have hDi:i ∉ eQ body:=fun h=>by rw [List.contains_iff_mem.2 h] at o11; cases o11
 have hDn:n ∉ eQ body:=fun h=>by rw [List.contains_iff_mem.2 h] at o12; cases o12
 have hnS:n ∉ i :: c :: k :: eQ body:=by
  simp only [List.mem_cons,not_or]; exact ⟨fun h=>o5 h.symm,o8,o9,hDn⟩
 have hlive:∀ {T1 T2:Tm},(∀ s,s≠i->s≠c->s≠k->af T2 s=af T1 s)->live.map (af T2)=live.map (af T1):=fun h=>by
  refine List.map_congr_left fun s hs=>?_
  obtain ⟨⟨q1,q2⟩,q3⟩:=o13 s hs
  exact h s q1 q2 q3
 unfold dJ
 refine WB.wcLoop ?_
 refine xK (fun r T1 H1=>∃ j,r=N-j/\a<=j/\j<=N/\T1.length=L/\af T1 i=.int .i64 (j:Int)/\Same (i :: c :: k :: eQ body) T T1/\Kp H0 H1/\P j (live.map (af T1)) H1) ?_ (N-a) T H ⟨a,rfl,Nat.le_refl _,haN,hl,ha,Same.refl _ _,hk0,h0⟩
 rintro r T1 H1 ⟨j,rfl,haj,hjN,hl1,hi1,hs1,hk1,hP1⟩
 have hn1:af T1 n=.int .i64 (N:Int):=(hs1.at_ n hnS).trans hn
 refine tH (WC.wb ?_)
 rw [AL]
 simp only [xX,tF,xE,AM,Ld,hi1,hn1,CZ,rv,gH]
 have hk2:Kp H0 (H1.up 1):=hk1.up 1
 have hP2:P j (live.map (af (T1.set c (.bool (decide ((j:Int)<(N:Int))))))) (H1.up 1):=by
  rw [hlive (T1:=T1) fun s q1 q2 q3=>ke _ _ _ _ (Ne.symm q2)]
  exact hup _ _ _ _ hP1
 have hs2:Same (i :: c :: k :: eQ body) T (T1.set c (.bool (decide ((j:Int)<(N:Int))))) :=
  (hs1.trans (Same.put T1 (some c) (.bool (decide ((j:Int)<(N:Int)))))).wide fun s hs=>by
   rcases List.mem_append.1 hs with hs | hs
   ·exact hs
   ·simp only [Option.toList_some,List.mem_singleton] at hs; subst hs; simp
 have hl2:(T1.set c (.bool (decide ((j:Int)<(N:Int))))).length=L:=by simp [hl1]
 have hi2:af (T1.set c (.bool (decide ((j:Int)<(N:Int))))) i=.int .i64 (j:Int):=by rw [ke _ _ _ _ (Ne.symm o6)]; exact hi1
 have hc2:af (T1.set c (.bool (decide ((j:Int)<(N:Int))))) c=.bool (decide ((j:Int)<(N:Int))):=by
  rw [qJ _ _ _ _ (by omega),if_pos rfl]
 generalize hT2:T1.set c (.bool (decide ((j:Int)<(N:Int))))=T2 at hP2 hs2 hl2 hi2 hc2 ⊢
 refine tH (Im (v:=decide ((j:Int)<(N:Int))) hc2 ?_)
 by_cases hj:j<N
 ·have e1:decide ((j:Int)<(N:Int))=true:=by simp; omega
  rw [if_pos e1]
  refine Ik ?_
  refine tH (FC ?_)
  refine (((hb j T2 (H1.up 1) haj hj hl2 hi2 hs2 hk2 hP2).wb).same hp).mono ?_
  rintro x T3 H3 ⟨hs3,hq⟩
  have fin:Kp H0 H3/\P (j+1) (live.map (af T3)) H3->WB tab rd (.region [⟨some k,.bin .add .int (.t i) (.c (.int .i64 1)),none⟩,⟨some i,.mv (.t k),none⟩]) T3 H3 (Bv (fun r T1 H1=>∃ j,r=N-j/\a<=j/\j<=N/\T1.length=L/\af T1 i=.int .i64 (j:Int)/\Same (i :: c :: k :: eQ body) T T1/\Kp H0 H1/\P j (live.map (af T1)) H1) (N-j) (p9 id Q)):=by
   rintro ⟨hk3,hP3⟩
   have hi3:af T3 i=.int .i64 (j:Int):=(hs3.at_ i hDi).trans hi2
   have hl3:T3.length=L:=hs3.len.trans hl2
   have hwr:IntKind.i64.wrap ((j:Int)+1)=((j+1:Nat):Int):=by rw [wrap_i64 (by omega) (by omega)]; simp
   refine WC.wb ?_
   rw [AL]
   simp only [xX,tF,xE,AM,Jw,Ca,Ld,MD,hi3,yG,rv,gH,hwr]
   rw [qJ _ _ _ _ (by omega),if_pos rfl,zB]
   refine ⟨N-(j+1),by omega,j+1,rfl,by omega,by omega,by simp [hl3],?_,?_,hk3.up _,?_⟩
   ·rw [qJ _ _ _ _ (by simp; omega),if_pos rfl]
   ·refine ((hs2.trans hs3).trans ((Same.put T3 (some k) _).trans (Same.put _ (some i) _))).wide fun s hs=>?_
    rcases List.mem_append.1 hs with hs | hs
    ·rcases List.mem_append.1 hs with hs | hs
     ·exact hs
     ·exact List.mem_cons_of_mem _ (List.mem_cons_of_mem _ (List.mem_cons_of_mem _ hs))
    ·rcases List.mem_append.1 hs with hs | hs
     ·simp only [Option.toList_some,List.mem_singleton] at hs; subst hs; simp
     ·simp only [Option.toList_some,List.mem_singleton] at hs; subst hs; simp
   ·rw [hlive (T1:=T3) fun s q1 q2 q3=>by rw [ke _ _ _ _ (Ne.symm q1),ke _ _ _ _ (Ne.symm q3)]]
    exact hup _ _ _ _ hP3
  cases x with
  | nrm=>exact fin hq
  | exit e =>
   simp only [Em] at hq
   simp only [p9]
   by_cases h1:e=id1
   ·rw [if_pos h1] at hq ⊢; exact fin hq
   ·rw [if_neg h1] at hq ⊢
    simp only [Bv,p9]; exact hq
  | goto l=>exact hq
  | ret=>exact hq
 ·have e1:decide ((j:Int)<(N:Int))=false:=by simp; omega
  have:j=N:=by omega
  subst this
  rw [if_neg (by rw [e1]; simp)]
  refine Il ?_
  show p9 id Q (.exit id) T2 (H1.up 1)
  simp only [p9,if_pos]
  exact he T2 (H1.up 1) hl2 hs2 hk2 hP2
def J9 (id:Nat) (P:Tm->Heap->Prop) (Q:Ex->Tm->Heap->Prop) (x:Ex) (T:Tm) (H:Heap):Prop:=match x with
 | .nrm=>P T H
 | .exit e=>if e=id then Q .nrm T H else Q (.exit e) T H
 | x=>Q x T H
section
variable {id:Nat} {P:Tm->Heap->Prop} {Q:Ex->Tm->Heap->Prop} {T:Tm} {H:Heap}
theorem Ig:J9 id P Q .nrm T H=P T H:=rfl
theorem If:J9 id P Q .ret T H=Q .ret T H:=rfl
theorem Fy (l:Nat):J9 id P Q (.goto l) T H=Q (.goto l) T H:=rfl
theorem Fz (e:Nat):J9 id P Q (.exit e) T H=iteH (e=id) (Q .nrm T H) (Q (.exit e) T H) () ():=rfl
end
theorem bK {id:Nat} {c:ACode} {T:Tm} {H:Heap} {Q:Ex->Tm->Heap->Prop} {L:Nat} (H0:Heap) (live:List Nat) (P:Nat->List AV->Heap->Prop) (k0:Nat)
  (hl:T.length=L) (hp:gy c=true) (hk0:Kp H0 H) (h0:P k0 (live.map (af T)) H)
  (hb:∀ k T1 H1,T1.length=L->Same (eQ c) T T1->Kp H0 H1->P k (live.map (af T1)) H1->WC tab rd c T1 H1 (J9 id (fun T2 H2=>Kp H0 H2/\∃ k',k'<k/\P k' (live.map (af T2)) H2) Q)):WC tab rd (ir id c) T H Q:=by
 unfold ir
 refine WB.wcLoop ?_
 refine xK (fun k T1 H1=>T1.length=L/\Same (eQ c) T T1/\Kp H0 H1/\P k (live.map (af T1)) H1) ?_ k0 T H ⟨hl,Same.refl _ _,hk0,h0⟩
 rintro k T1 H1 ⟨hl1,hs1,hk1,hP1⟩
 refine ((hb k T1 H1 hl1 hs1 hk1 hP1).wb.same hp).mono ?_
 rintro x T2 H2 ⟨hs2,hq⟩
 cases x with
 | nrm =>
  obtain ⟨hk2,k',hk',hP2⟩:=hq
  exact ⟨k',hk',hs2.len.trans hl1,(hs1.trans hs2).wide fun s hs=>by simpa using hs,hk2,hP2⟩
 | exit e=>exact hq
 | goto l=>exact hq
 | ret=>exact hq
end
def Ni (e:Option Ent) (k:Option Nat) (o:Nat):Option AV:=match e with
 | some (.cells cs _ _)=>bu cs o k
 | _=>none
theorem K0 (H:Heap) (k:Option Nat) (b o:Nat):cq H k (.ptr b o)=Ni (H.get b) k o:=by
 simp only [cq,Ni]
 cases H.get b with
 | none=>rfl
 | some e=>cases e <;> rfl
theorem Eb (cs:List AV) (ty:Nat) (rw:Bool) (k:Option Nat) (o:Nat):Ni (some (.cells cs ty rw)) k o=bu cs o k:=rfl
def Cf (e:Option Ent) (n o:Nat) (v:AV):Option Ent:=match e with
 | some (.cells cs ty true)=>if v.cells.length=n/\o+n<=cs.length/\v.cells.all AV.one=true then some (.cells (cs.take o++v.cells++cs.drop (o+n)) ty true) else none
 | _=>none
theorem KI (H:Heap) (n b o:Nat) (v:AV):nL H n (.ptr b o) v=(Cf (H.get b) n o v).map fun e=>H.put b e:=by
 simp only [nL,Cf]
 split
 ·rename_i cs ty h
  simp only [h]
  split <;> rfl
 ·rename_i h
  split
  ·rename_i cs ty hg
   exact absurd hg (h cs ty)
  ·rfl
def fits (v:AV) (n:Nat) (cs:List AV):Prop:=v.cells=cs/\cs.length=n/\cs.all AV.one=true
theorem l5 {cs vs:List AV} {ty n o:Nat} {v:AV} (h:fits v n vs) (ho:o+n<=cs.length):Cf (some (.cells cs ty true)) n o v=some (.cells (cs.take o++vs++cs.drop (o+n)) ty true):=by
 obtain ⟨rfl,h2,h3⟩:=h
 simp only [Cf]
 rw [if_pos ⟨h2,ho,h3⟩]
theorem DV {α β:Type} (f:α->β) (a:α):(some a).map f=some (f a):=rfl
theorem NF (a:AV) (l:List AV):bu (a :: l) 0 none=some a:=rfl
theorem NE (a b:AV) (l:List AV):bu (a :: b :: l) 1 none=some b:=rfl
theorem ND (a b c:AV) (l:List AV):bu (a :: b :: c :: l) 2 none=some c:=rfl
theorem Nb (a b:AV):bu [a,b] 0 (some 2)=some (.agg [a,b]):=rfl
theorem Na (a b c:AV):bu [a,b,c] 0 (some 3)=some (.agg [a,b,c]):=rfl
def One (v:AV):Prop:=v.cells=[v]/\v.one=true
theorem One.fits {v:AV} (h:One v):fits v 1 [v]:=⟨h.1,rfl,by simp [h.2]⟩
theorem aW (b:Bool):One (.bool b):=⟨rfl,rfl⟩
theorem bJ (k:IntKind) (n:Int):One (.int k n):=⟨rfl,rfl⟩
theorem cK (f:Fn) (a b:List AV):One (.fn f a b):=⟨rfl,rfl⟩
theorem cj (b o:Nat):One (.ptr b o):=⟨rfl,rfl⟩
theorem ck:One .nilSl:=⟨rfl,rfl⟩
theorem bV (b o n c z:Nat) (x:Bool):One (.own b o n c z x):=⟨rfl,rfl⟩
theorem cQ (cs:List AV) (n:Nat):One (.sl cs n):=⟨rfl,rfl⟩
theorem cr (b:Nat):One (.map b):=⟨rfl,rfl⟩
theorem Rd.one {H:Heap} {sz:Nat} {v:AV} {cells:List AV} (h:Rd H sz v cells):One v:=by
 obtain ⟨-,h1,n,hn,-⟩:=h
 cases v <;> first | exact ⟨rfl,rfl⟩ | exact absurd rfl (h1 _) | (simp [fL] at hn; done)
theorem Hb {v:AV} (h:One v):tg v=some [v]:=by
 unfold tg; rw [h.1]; simp [h.2]
theorem GQ {a b:AV} (ha:One a) (hb:One b):fits (.agg [a,b]) 2 [a,b]:=⟨rfl,rfl,by simp [ha.2,hb.2]⟩
theorem MJ {a b:AV} (ha:One a) (hb:One b):tg (.agg [a,b])=some [a,b]:=by
 simp [tg,AV.cells,ha.2,hb.2]
theorem Li {x y a b:AV} (ha:One a) (hb:One b):kL [x,y] [((0,1),a),((1,1),b)]=some (.agg [a,b]):=by
 simp [kL,dj,ha.1,ha.2,hb.1,hb.2]
theorem MC {x a:AV} (ha:One a):dj [x] [((0,1),a)]=some [a]:=by simp [dj,ha.1,ha.2]
theorem MB {x y a b:AV} (ha:One a) (hb:One b):dj [x,y] [((0,1),a),((1,1),b)]=some [a,b]:=by simp [dj,ha.1,ha.2,hb.1,hb.2]
theorem Nd {cs:List AV} {ty o:Nat} {v:AV} (h:One v):Cf (some (.cells cs ty true)) 1 o v=if o<cs.length then some (.cells (cs.set o v) ty true) else none:=by
 simp only [Cf,h.1]
 by_cases ho:o<cs.length
 ·rw [if_pos ⟨rfl,by omega,by simp [h.2]⟩,if_pos ho]
  congr 2
  rw [List.set_eq_take_append_cons_drop,if_pos ho]
  simp
 ·rw [if_neg (fun h=>ho (by have:=h.2.1; omega)),if_neg ho]
theorem Nc {x y a b:AV} {ty:Nat} (ha:One a) (hb:One b):Cf (some (.cells [x,y] ty true)) 2 0 (.agg [a,b])=some (.cells [a,b] ty true):=by
 simp [Cf,AV.cells,ha.2,hb.2]
theorem MA {x y z a b c:AV} (ha:One a) (hb:One b) (hc:One c):dj [x,y,z] [((0,1),a),((1,1),b),((2,1),c)]=some [a,b,c]:=by simp [dj,ha.1,ha.2,hb.1,hb.2,hc.1,hc.2]
theorem K8 {p q r t a b c d:AV} (ha:One a) (hb:One b) (hc:One c) (hd:One d):dj [p,q,r,t] [((0,2),.agg [a,b]),((2,2),.agg [c,d])]=some [a,b,c,d]:=by
 simp [dj,AV.cells,ha.2,hb.2,hc.2,hd.2]
theorem K9 {p q a b:AV} (ha:One a) (hb:One b):dj [p,q] [((0,2),.agg [a,b])]=some [a,b]:=by
 simp [dj,AV.cells,ha.2,hb.2]
theorem Lj (z:List AV):kL z []=some (.agg z):=rfl
theorem K4 {H H':Heap} {b:Nat} {e:Ent} (h1:H.next<=b) (h2:b<H'.next):Kp H (H'.put b e) ↔ Kp H H':=by
 refine ⟨fun h=>⟨h.wf0,fun c e' hc=>?_,h.le,fun c hc=>?_⟩,fun h=>h.put h1 h2⟩
 ·by_cases hb:c=b
  ·rw [hb]; exact h2
  ·exact h.wf c e' (by rw [au hb]; exact hc)
 ·have:=h.same c hc
  rwa [au (by omega)] at this
theorem bB {H:Heap} {b:Nat} {e:Ent} (h:H.get b=none):Sub H (H.put b e):=(Sub.refl H).put h e
theorem IY {H H':Heap} {b:Nat} (h1:H.next<=b) (h:Kp H H'):Kp H (H'.kill b) ↔ True:=⟨fun _=>trivial,fun _=>h.kill h1⟩
theorem Mt {H H':Heap} {k:Nat} (h:Kp H H'):Kp H (H'.up k) ↔ True:=⟨fun _=>trivial,fun _=>h.up k⟩
theorem K3 {H:Heap} {k:Nat} (h:Wf H):Kp H (H.up k) ↔ True:=⟨fun _=>trivial,fun _=>(Kp.refl h).up k⟩
theorem IX {H:Heap} (h:Wf H):Kp H H ↔ True:=⟨fun _=>trivial,fun _=>Kp.refl h⟩
theorem Ka {H:Heap} {b:Nat} {e:Ent} (h2:b<H.next):Wf (H.put b e) ↔ Wf H:=by
 refine ⟨fun h c e' hc=>?_,fun h=>h.put h2 e⟩
 by_cases hb:c=b
 ·rw [hb]; exact h2
 ·exact h c e' (by rw [au hb]; exact hc)
theorem LQ {H:Heap} {k:Nat} (h:Wf H):Wf (H.up k) ↔ True:=⟨fun _=>trivial,fun _=>h.bump k⟩
theorem Ih {H:Heap} {b:Nat} (h:Wf H):Wf (H.kill b) ↔ True:=⟨fun _=>trivial,fun _=>h.kill b⟩
structure Ldd (H:Heap) (k:Option Nat) (p w:AV):Prop where
 ld:cq H k p=some w
 put:∀ H' b e,H.next<=b->cq (H'.put b e) k p=cq H' k p
 kill:∀ H' b,H.next<=b->cq (H'.kill b) k p=cq H' k p
theorem GD (H:Heap) (m:Nat) (k:Option Nat) (p:AV):cq (H.up m) k p=cq H k p:=rfl
theorem dq {H H':Heap} (h:Sub H H') {k:Option Nat} {p w:AV} (hl:cq H k p=some w):cq H' k p=some w:=by
 unfold cq at hl ⊢
 split at hl
 ·split at hl
  ·rename_i hb
   rw [h.get _ _ hb]; exact hl
  ·cases hl
 ·exact hl
 ·cases hl
theorem Ldd.of {H:Heap} (hw:Wf H) {k:Option Nat} {p w:AV} (h:cq H k p=some w):Ldd H k p w:=by
 refine ⟨h,fun H' b e hb=>?_,fun H' b hb=>?_⟩
 all_goals
  cases p with
  | ptr c o =>
   have:c<H.next:=by
    simp only [cq] at h
    split at h
    ·rename_i hc; exact hw c _ hc
    ·cases h
   simp only [cq]
   first | rw [au (by omega)] | rw [cL (by omega)]
  | _=>rfl
theorem Ldd.mono {H H':Heap} (h:Kp H H') {k:Option Nat} {p w:AV} (hl:Ldd H k p w):Ldd H' k p w:=Ldd.of h.wf (dq h.sub hl.ld)
def SubT (tys:List Nat) (H H':Heap):Prop:=∀ b cs t r,t∈tys->H.get b=some (.cells cs t r)->H'.get b=some (.cells cs t r)
theorem Sub.t {H H':Heap} (h:Sub H H') (tys:List Nat):SubT tys H H':=fun b cs t r _ hb=>h.get b _ hb
theorem SubT.of {tys tys':List Nat} {H H':Heap} (h:SubT tys H H') (hs:∀ t,t∈tys'->t∈tys):SubT tys' H H':=fun b cs t r ht hb=>h b cs t r (hs t ht) hb
def Nu (H:Heap) (ty:Nat) (v:AV):Prop:=∀ b off n c z x,v=.own b off n c z x->∃ cs r,H.get b=some (.cells cs ty r)
structure gR (α:Type) where
 sz:Nat
 tys:List Nat
 R:Heap->List AV->α->Prop
 pos:0<sz
 len:∀ {H cs a},R H cs a->cs.length=sz/\cs.all AV.one=true
 mono:∀ {H H' cs a},SubT tys H H'->R H cs a->R H' cs a
variable {α:Type}
def Cells (E:gR α) (H:Heap) (cells:List AV) (l:List α):Prop:=cells.length=l.length*E.sz/\∀ i a,l[i]? = some a->E.R H ((cells.drop (i*E.sz)).take E.sz) a
def SlV (E:gR α) (ty:Nat) (H:Heap) (v:AV) (l:List α):Prop:=∃ cells,Rd H E.sz v cells/\Nu H ty v/\Cells E H cells l
theorem Cells.mono {E:gR α} {H H':Heap} (h:SubT E.tys H H') {cells:List AV} {l:List α} (hc:Cells E H cells l):Cells E H' cells l:=⟨hc.1,fun i a hi=>E.mono h (hc.2 i a hi)⟩
theorem SlV.monoT {E:gR α} {ty:Nat} {H H':Heap} (h:SubT (ty :: E.tys) H H') {v:AV} {l:List α} (hs:SlV E ty H v l):SlV E ty H' v l:=by
 obtain ⟨cells,⟨h0,h1,n,h2,h3⟩,ht,hc⟩:=hs
 refine ⟨cells,⟨h0,h1,n,h2,?_⟩,fun b off n c z x e=>?_,hc.mono (h.of fun t ht=>List.mem_cons_of_mem _ ht)⟩
 ·unfold aH at h3 ⊢
  split at h3
  ·rename_i b off n' c sz ex
   obtain ⟨cs,r,hb⟩:=ht b off _ c sz ex rfl
   rw [hb] at h3
   rw [h b cs ty r (List.mem_cons_self ..) hb]; exact h3
  ·exact h3
  ·exact h3
  ·exact h3
  ·cases h3
 ·obtain ⟨cs,r,hb⟩:=ht b off n c z x e
  exact ⟨cs,r,h b cs ty r (List.mem_cons_self ..) hb⟩
theorem SlV.mono {E:gR α} {ty:Nat} {H H':Heap} (h:Sub H H') {v:AV} {l:List α} (hs:SlV E ty H v l):SlV E ty H' v l:=hs.monoT (h.t _)
theorem SlV.one {E:gR α} {ty:Nat} {H:Heap} {v:AV} {l:List α} (hs:SlV E ty H v l):One v:=by
 obtain ⟨cells,h1,h2⟩:=hs; exact h1.one
theorem SlV.nil (E:gR α) (ty:Nat) (H:Heap):SlV E ty H .nilSl []:=⟨[],Rd.nil H E.sz,(fun _ _ _ _ _ _ e=>by cases e),by simp,fun i a h=>by simp at h⟩
theorem SlV.lenV {E:gR α} {ty:Nat} {H:Heap} {v:AV} {l:List α} (hs:SlV E ty H v l):lenV v=some (.int .i64 (l.length:Int)):=by
 obtain ⟨cells,h1,-,h2⟩:=hs
 exact Cz h1 h2.1 E.pos
theorem SlV.idx {E:gR α} {ty:Nat} {H:Heap} {v:AV} {l:List α} (hs:SlV E ty H v l) (k:IntKind) (i:Nat) (hi:i<l.length):fO E.sz v (.int k (i:Int))=some (aV v (i*E.sz)):=by
 obtain ⟨cells,h1,-,h2⟩:=hs
 have:=E.pos
 refine I5 h1 ?_ E.pos
 rw [h2.1,<- Nat.succ_mul]
 exact Nat.mul_le_mul_right _ hi
theorem Eo {H:Heap} {sz:Nat} {v:AV} {cells:List AV} (h:Rd H sz v cells) (hne:cells≠[]) (off o:Nat):E4 off (aV v o)=some (aV v (o+off)):=by
 obtain ⟨-,h1,n,hn,hf⟩:=h
 cases v with
 | own b f m c s e=>simp [aV,E4,Nat.add_assoc]
 | sl cs m=>simp [aV,E4]
 | nilSl =>
  simp only [aH] at hf
  split at hf
  ·cases hf; exact absurd rfl hne
  ·cases hf
 | str s=>exact absurd rfl (h1 _)
 | _=>simp [fL] at hn
theorem SlV.fa {E:gR α} {ty:Nat} {H:Heap} {v:AV} {l:List α} (hs:SlV E ty H v l) (hne:0<l.length) (off o:Nat):E4 off (aV v o)=some (aV v (o+off)):=by
 obtain ⟨cells,h1,-,h2⟩:=hs
 refine Eo h1 (fun h=>?_) off o
 have:=h2.1
 rw [h] at this
 have:=Nat.mul_pos hne E.pos
 simp at *
 omega
theorem SlV.at {E:gR α} {ty:Nat} {H:Heap} {v:AV} {l:List α} (hs:SlV E ty H v l) {i:Nat} {a:α} (hi:l[i]? = some a):∃ cs,E.R H cs a/\cs.length=E.sz/\(∀ j c,cs[j]? = some c->cq H none (aV v (i*E.sz+j))=some c)/\cq H (some E.sz) (aV v (i*E.sz))=some (.agg cs):=by
 obtain ⟨cells,h1,-,h2⟩:=hs
 have hlt:i<l.length:=(List.getElem?_eq_some_iff.1 hi).1
 have hle:i*E.sz+E.sz<=cells.length:=by rw [h2.1,<- Nat.succ_mul]; exact Nat.mul_le_mul_right _ hlt
 have:=E.pos
 refine ⟨_,h2.2 i a hi,by simp; omega,fun j c hj=>?_,?_⟩
 ·refine h1.load (by simp) ?_
  rw [List.getElem?_take] at hj
  split at hj
  ·rw [List.getElem?_drop] at hj
   simpa [bu] using hj
  ·cases hj
 ·refine h1.load (by simp; omega) ?_
  simp only [bu]
  rw [if_pos hle]
structure Jv (α:Type) where
 tys:List Nat
 R:Heap->AV->α->Prop
 one:∀ {H v a},R H v a->One v
 mono:∀ {H H' v a},SubT tys H H'->R H v a->R H' v a
def bz (e:Jv α):gR α where
 sz:=1
 tys:=e.tys
 R H cs a:=∃ v,cs=[v]/\e.R H v a
 pos:=by omega
 len:=by rintro H cs a ⟨v,rfl,h⟩; exact ⟨rfl,by simp [(e.one h).2]⟩
 mono:=by rintro H H' cs a hs ⟨v,rfl,h⟩; exact ⟨v,rfl,e.mono hs h⟩
abbrev tk (e:Jv α) (ty:Nat) (H:Heap) (v:AV) (l:List α):Prop:=SlV (bz e) ty H v l
theorem SlV.at1 {e:Jv α} {ty:Nat} {H:Heap} {v:AV} {l:List α} (hs:tk e ty H v l) {i:Nat} {a:α} (hi:l[i]? = some a):∃ c,e.R H c a/\cq H none (aV v i)=some c:=by
 obtain ⟨cs,⟨c,rfl,hr⟩,-,h2,-⟩:=hs.at hi
 refine ⟨c,hr,?_⟩
 have:=h2 0 c rfl
 simpa [bz] using this
theorem SlV.idx1 {e:Jv α} {ty:Nat} {H:Heap} {v:AV} {l:List α} (hs:tk e ty H v l) (k:IntKind) (i:Nat) (hi:i<l.length):fO 1 v (.int k (i:Int))=some (aV v i):=by
 have:=SlV.idx hs k i hi
 simpa [bz] using this
def Ed (k:IntKind):Jv Int:=⟨[],fun _ v a=>v=.int k a,fun h=>h ▸ bJ _ _,fun _ h=>h⟩
def b7:Jv Nat:=⟨[],fun _ v a=>v=.int .u64 (a:Int),fun h=>h ▸ bJ _ _,fun _ h=>h⟩
def nD (E:gR α) (ty:Nat):Jv (List α):=⟨ty :: E.tys,SlV E ty,fun h=>h.one,fun h hs=>hs.monoT h⟩
theorem Cells.take {E:gR α} {H:Heap} {cells:List AV} {l:List α} (h:Cells E H cells l) {n:Nat} (hn:n<=l.length):Cells E H (cells.take (n*E.sz)) (l.take n):=by
 have hm:=Nat.mul_le_mul_right E.sz hn
 refine ⟨by rw [List.length_take,List.length_take,h.1,Nat.min_eq_left hm,Nat.min_eq_left hn],fun i a hi=>?_⟩
 rw [List.getElem?_take] at hi
 split at hi
 ·rename_i hin
  have:=h.2 i a hi
  have h1:i*E.sz+E.sz<=n*E.sz:=by rw [<- Nat.succ_mul]; exact Nat.mul_le_mul_right _ hin
  rw [List.drop_take,List.take_take,Nat.min_eq_left (by omega)]
  exact this
 ·cases hi
theorem Cells.drop {E:gR α} {H:Heap} {cells:List AV} {l:List α} (h:Cells E H cells l) (n:Nat):Cells E H (cells.drop (n*E.sz)) (l.drop n):=by
 refine ⟨by rw [List.length_drop,List.length_drop,h.1,Nat.sub_mul],fun i a hi=>?_⟩
 rw [List.getElem?_drop] at hi
 have:=h.2 _ a hi
 rw [List.drop_drop,<- Nat.add_mul]
 exact this
theorem Cells.append {E:gR α} {H:Heap} {c1 c2:List AV} {l1 l2:List α} (h1:Cells E H c1 l1) (h2:Cells E H c2 l2):Cells E H (c1++c2) (l1++l2):=by
 refine ⟨by rw [List.length_append,List.length_append,h1.1,h2.1,Nat.add_mul],fun i a hi=>?_⟩
 by_cases hlt:i<l1.length
 ·rw [List.getElem?_append_left hlt] at hi
  have:=h1.2 i a hi
  have hle:i*E.sz+E.sz<=c1.length:=by rw [h1.1,<- Nat.succ_mul]; exact Nat.mul_le_mul_right _ hlt
  rw [List.drop_append_of_le_length (by omega),List.take_append_of_le_length (by rw [List.length_drop]; omega)]
  exact this
 ·rw [List.getElem?_append_right (by omega)] at hi
  have:=h2.2 _ a hi
  have e:i*E.sz=c1.length+(i-l1.length)*E.sz:=by rw [h1.1,<- Nat.add_mul]; congr 1; omega
  rw [e,List.drop_append,List.drop_eq_nil_of_le (by omega),List.nil_append,Nat.add_sub_cancel_left]
  exact this
theorem Cells.nil (E:gR α) (H:Heap):Cells E H [] []:=⟨by simp,fun i a h=>by simp at h⟩
theorem Cells.one {E:gR α} {H:Heap} {cs:List AV} {a:α} (h:E.R H cs a):Cells E H cs [a]:=by
 refine ⟨by simp [(E.len h).1],fun i b hi=>?_⟩
 cases i with
 | zero=>simp at hi; subst hi; simp [<- (E.len h).1]; exact h
 | succ i=>simp at hi
theorem Cells.set {E:gR α} {H:Heap} {cells cs:List AV} {l:List α} (h:Cells E H cells l) {i:Nat} {a:α} (hi:i<l.length) (hr:E.R H cs a):Cells E H (cells.take (i*E.sz)++cs++cells.drop (i*E.sz+E.sz)) (l.set i a):=by
 have e:l.set i a=l.take i++[a]++l.drop (i+1):=by rw [List.set_eq_take_append_cons_drop,if_pos hi]; simp
 rw [e]
 have:=h.drop (i+1)
 rw [Nat.succ_mul] at this
 exact ((h.take (Nat.le_of_lt hi)).append (Cells.one hr)).append this
theorem Cells.ones {E:gR α} {H:Heap} {cells:List AV} {l:List α} (h:Cells E H cells l):cells.all AV.one=true:=by
 rw [List.all_eq_true]
 intro c hc
 obtain ⟨j,hj,rfl⟩:=List.getElem_of_mem hc
 have hp:=E.pos
 have hlt:j / E.sz<l.length:=by
  apply Nat.div_lt_of_lt_mul
  rw [Nat.mul_comm,<- h.1]; exact hj
 have:=(E.len (h.2 (j / E.sz) _ (List.getElem?_eq_getElem hlt))).2
 rw [List.all_eq_true] at this
 refine this _ ?_
 have hm:j % E.sz<E.sz:=Nat.mod_lt _ hp
 have e:=Nat.div_add_mod j E.sz
 refine List.mem_of_getElem? (i:=j % E.sz) ?_
 rw [List.getElem?_take,if_pos hm,List.getElem?_drop]
 rw [Nat.mul_comm,e,List.getElem?_eq_getElem hj]
theorem oN {H:Heap} {ty sz:Nat} {v v':AV} {lo hi mx:Option AV} (ht:Nu H ty v) (h:cp sz v lo hi mx=some v'):Nu H ty v':=by
 intro b off n c z x e
 subst e
 cases v with
 | own b' off' n' c' z' x' =>
  have hb:b=b':=by
   simp only [cp,bF] at h
   split at h
   ·cases h
   ·split at h
    ·simp only [Option.bind_eq_bind,Option.bind_eq_some_iff] at h
     obtain ⟨m,-,h',-,l,-,h⟩:=h
     split at h
     ·split at h <;> (cases h; rfl)
     ·cases h
    ·simp only [Option.bind_eq_bind,Option.bind_eq_some_iff] at h
     obtain ⟨h',-,l,-,h⟩:=h
     split at h
     ·split at h
      ·cases h; rfl
      ·split at h
       ·cases h; rfl
       ·cases h
     ·cases h
    ·cases h
  subst hb
  exact ht _ _ _ _ _ _ rfl
 | sl cs n' =>
  exfalso
  simp only [cp,bF] at h
  split at h
  ·simp only [Option.bind_eq_bind,Option.bind_eq_some_iff] at h
   obtain ⟨h',-,l,-,h⟩:=h
   split at h <;> cases h
  ·simp only [Option.bind_eq_bind,Option.bind_eq_some_iff] at h
   obtain ⟨m,-,h',-,l,-,h⟩:=h
   split at h <;> cases h
  ·cases h
 | nilSl =>
  exfalso
  simp only [cp,bF] at h
  split at h
  ·split at h <;> cases h
  ·split at h <;> cases h
  ·cases h
 | str s=>cases h
 | _=>cases h
theorem SlV.hi {E:gR α} {ty:Nat} {H:Heap} {v:AV} {l:List α} (hs:SlV E ty H v l) (k:IntKind) (n:Nat) (hn:n<=l.length):∃ v',cp E.sz v none (some (.int k (n:Int))) none=some v'/\SlV E ty H v' (l.take n):=by
 obtain ⟨cells,h1,ht,h2⟩:=hs
 obtain ⟨v',e,h⟩:=h1.hi (k:=k) (hi:=n) (by rw [h2.1]; exact Nat.mul_le_mul_right _ hn) E.pos
 exact ⟨v',e,_,h,oN ht e,h2.take hn⟩
theorem SlV.lo {E:gR α} {ty:Nat} {H:Heap} {v:AV} {l:List α} (hs:SlV E ty H v l) (k:IntKind) (n:Nat) (hn:n<=l.length):∃ v',cp E.sz v (some (.int k (n:Int))) none none=some v'/\SlV E ty H v' (l.drop n):=by
 obtain ⟨cells,h1,ht,h2⟩:=hs
 obtain ⟨v',e,h⟩:=h1.lo (k:=k) (lo:=n) (by rw [h2.1]; exact Nat.mul_le_mul_right _ hn) E.pos
 exact ⟨v',e,_,h,oN ht e,h2.drop n⟩
theorem SlV.clip {E:gR α} {ty:Nat} {H:Heap} {v:AV} {l:List α} (hs:SlV E ty H v l) (k j:IntKind):∃ v',cp E.sz v none (some (.int k (l.length:Int))) (some (.int j (l.length:Int)))=some v'/\SlV E ty H v' l:=by
 obtain ⟨cells,h1,ht,h2⟩:=hs
 obtain ⟨v',e,h⟩:=h1.clip (k:=k) (j:=j) h2.1 E.pos
 exact ⟨v',e,_,h,oN ht e,h2⟩
def Own (E:gR α) (ty:Nat) (H0 H:Heap) (b:Nat) (ex:Bool) (v:AV) (l:List α):Prop :=
 ∃ cells,v=.own b 0 l.length l.length E.sz ex/\H.get b=some (.cells cells ty true)/\Cells E H cells l/\H0.next<=b
theorem Own.sl {E:gR α} {ty:Nat} {H0 H:Heap} {b:Nat} {ex:Bool} {v:AV} {l:List α} (h:Own E ty H0 H b ex v l):SlV E ty H v l:=by
 obtain ⟨cells,rfl,hb,hc,-⟩:=h
 exact ⟨cells,Rd.own hb hc.1 (Nat.le_refl _),fun _ _ _ _ _ _ e=>by cases e; exact ⟨_,_,hb⟩,hc⟩
def Bl (E:gR α) (ty:Nat) (H0 H:Heap) (v:AV) (l:List α):Prop:=(v=.nilSl/\l=[])\/∃ b,Own E ty H0 H b false v l
theorem Bl.nil {E:gR α} {ty:Nat} {H0 H:Heap}:Bl E ty H0 H .nilSl []:=.inl ⟨rfl,rfl⟩
theorem Bl.sl {E:gR α} {ty:Nat} {H0 H:Heap} {v:AV} {l:List α} (h:Bl E ty H0 H v l):SlV E ty H v l:=by
 rcases h with ⟨rfl,rfl⟩ | ⟨b,h⟩
 ·exact SlV.nil E ty H
 ·exact h.sl
theorem Own.monoT {E:gR α} {ty:Nat} {H0 H H':Heap} (hs:SubT (ty :: E.tys) H H') {b:Nat} {ex:Bool} {v:AV} {l:List α} (h:Own E ty H0 H b ex v l):Own E ty H0 H' b ex v l:=by
 obtain ⟨cells,rfl,hb,hc,h0⟩:=h
 exact ⟨cells,rfl,hs b _ _ _ (List.mem_cons_self ..) hb,hc.mono (hs.of fun t ht=>List.mem_cons_of_mem _ ht),h0⟩
theorem Own.mono {E:gR α} {ty:Nat} {H0 H H':Heap} (hs:Sub H H') {b:Nat} {ex:Bool} {v:AV} {l:List α} (h:Own E ty H0 H b ex v l):Own E ty H0 H' b ex v l:=h.monoT (hs.t _)
theorem Bl.monoT {E:gR α} {ty:Nat} {H0 H H':Heap} (hs:SubT (ty :: E.tys) H H') {v:AV} {l:List α} (h:Bl E ty H0 H v l):Bl E ty H0 H' v l:=by
 rcases h with h | ⟨b,h⟩
 ·exact .inl h
 ·exact .inr ⟨b,h.monoT hs⟩
theorem Bl.mono {E:gR α} {ty:Nat} {H0 H H':Heap} (hs:Sub H H') {v:AV} {l:List α} (h:Bl E ty H0 H v l):Bl E ty H0 H' v l:=h.monoT (hs.t _)
theorem Bl.put {E:gR α} {ty:Nat} {H0 H:Heap} {v:AV} {l:List α} (h:Bl E ty H0 H v l) {b:Nat} {e:Ent} (hne:∀ n,v ≠ .own b 0 n n E.sz false) (hs:SubT E.tys H (H.put b e)):Bl E ty H0 (H.put b e) v l:=by
 rcases h with h | ⟨b',cells,rfl,hb,hc,h0⟩
 ·exact .inl h
 ·exact .inr ⟨b',cells,rfl,by rw [au (fun e1=>hne _ (by rw [e1]))]; exact hb,hc.mono hs,h0⟩
theorem Bl.kill {E:gR α} {ty:Nat} {H0 H:Heap} {v:AV} {l:List α} (h:Bl E ty H0 H v l) {b:Nat} (hne:∀ n,v ≠ .own b 0 n n E.sz false) (hs:SubT E.tys H (H.kill b)):Bl E ty H0 (H.kill b) v l:=by
 rcases h with h | ⟨b',cells,rfl,hb,hc,h0⟩
 ·exact .inl h
 ·exact .inr ⟨b',cells,rfl,by rw [cL (fun e1=>hne _ (by rw [e1]))]; exact hb,hc.mono hs,h0⟩
theorem SubT.nil (H H':Heap):SubT [] H H':=fun _ _ _ _ h=>by cases h
theorem SubT.put {tys:List Nat} {H:Heap} {b:Nat} {e:Ent} (h:∀ cs t r,t∈tys->H.get b≠some (.cells cs t r)):SubT tys H (H.put b e):=fun c cs t r ht hc=>by
 rw [au (fun e1=>h cs t r ht (by rw [<- e1]; exact hc))]; exact hc
theorem SubT.put_ty {tys:List Nat} {H:Heap} {b ty:Nat} {e:Ent} {cs:List AV} {r:Bool} (hb:H.get b=some (.cells cs ty r)) (hty:ty ∉ tys):SubT tys H (H.put b e):=SubT.put fun cs' t r' ht h=>by
 rw [hb] at h; cases h; exact hty ht
theorem Bl.base {E:gR α} {ty:Nat} {H0 H1 H:Heap} (hs:H0.next<=H1.next) {v:AV} {l:List α} (h:Bl E ty H1 H v l):Bl E ty H0 H v l:=by
 rcases h with h | ⟨b,cells,h1,h2,h3,h4⟩
 ·exact .inl h
 ·exact .inr ⟨b,cells,h1,h2,h3,Nat.le_trans hs h4⟩
def eP (H:Heap) (id size bytes ty:Nat) (x y:AV):Option (AV × Heap):=match fL y with
 | none=>none
 | some m=>match aH H size m y with
  | none=>none
  | some news=>cB H id size bytes ty x m news (match y with | .own b _ _ _ _ _=>some b | _=>none)
theorem JY {tab:Nat->Option aq} (ev:Src->AV) (H:Heap) (id:Nat) (Q:AV->Heap->Prop) (size bytes ty:Nat) (z:List AV) (x y:Src) :
  kP tab ev H id (.append size bytes ty z x y) Q=fF (eP H id size bytes ty (ev x) (ev y)) (fun r=>Q r.1 r.2) ():=by rw [Dc]; rfl
def E0 (H:Heap) (id ty size bytes:Nat) (z:List AV) (l c:AV):Option (AV × Heap):=match ni l,ni c with
 | some l,some c=>if l<=c/\bytes*c<=2^47/\c<2^63/\z.length=size then some (.own id 0 l c size true,H.put id (.cells ((List.replicate c z).flatten) ty true)) else none
 | _,_=>none
theorem LM {tab:Nat->Option aq} (ev:Src->AV) (H:Heap) (id:Nat) (Q:AV->Heap->Prop) (ty size bytes:Nat) (z:List AV) (l c:Src) :
  kP tab ev H id (.mksl ty size bytes z l c) Q=fF (E0 H id ty size bytes z (ev l) (ev c)) (fun r=>Q r.1 r.2) ():=by rw [HN]; rfl
theorem jM (H:Heap) (id ty size bytes:Nat) (z:List AV) (k j:IntKind) (n:Nat) (hb:bytes*n<=140737488355328) (hn:n<9223372036854775808) (hz:z.length=size) :
  E0 H id ty size bytes z (.int k (n:Int)) (.int j (n:Int))=some (.own id 0 n n size true,H.put id (.cells ((List.replicate n z).flatten) ty true)):=by
 simp only [E0,e7]
 rw [if_pos ⟨Nat.le_refl _,hb,hn,hz⟩]
theorem rq {E:gR α} {H:Heap} {z:List AV} {a:α} (hz:E.R H z a) (n:Nat):Cells E H (List.replicate n z).flatten (List.replicate n a):=by
 induction n with
 | zero=>exact Cells.nil E H
 | succ n ih=>rw [List.replicate_succ,List.replicate_succ,List.flatten_cons]; exact (Cells.one hz).append ih
theorem Bl.app {E:gR α} {ty ty2 bytes id:Nat} {H0 H:Heap} {v w:AV} {l l2:List α} (h:Bl E ty H0 H v l) (hty:ty ∉ E.tys) (hk:Kp H0 H) (hy:SlV E ty2 H w l2) (hid:H0.next<=id) (hid2:id<H.next) (hfree:H.get id=none)
  (hne:∀ b n,v=.own b 0 n n E.sz false->∀ off m c z x,w ≠ .own b off m c z x) (hb:(l.length+l2.length)*bytes<=70368744177664) (hl:l.length+l2.length<4611686018427387904) :
  ∃ v' H',eP H id E.sz bytes ty v w=some (v',H')/\Bl E ty H0 H' v' (l++l2)/\Kp H0 H'/\H'.next=H.next/\(∀ b e,H.get b=some e->(∀ n,v ≠ .own b 0 n n E.sz false)->H'.get b=some e)/\(0<l2.length->∃ n,v'=.own id 0 n n E.sz false):=by
 obtain ⟨news,hr,hty2,hc⟩:=hy
 obtain ⟨m,hm,hlen⟩:=hr.length
 obtain ⟨-,-,m',hm',hf⟩:=hr
 rw [hm] at hm'; cases hm'
 have hml:m=l2.length:=Nat.eq_of_mul_eq_mul_right E.pos (by rw [<- hlen,hc.1])
 subst hml
 obtain ⟨fr,hfr0⟩:∃ fr,(match w with | .own b _ _ _ _ _=>some b | _=>none)=fr:=⟨_,rfl⟩
 have hap:eP H id E.sz bytes ty v w=cB H id E.sz bytes ty v l2.length news fr:=by
  unfold eP
  rw [hm]
  simp only
  rw [hf]
  simp only
  rw [hfr0]
 rw [hap]
 have hones:=hc.ones
 have hnf:∀ {b e},H.get b=some e->b≠id:=fun hb e1=>by rw [e1,hfree] at hb; cases hb
 rcases h with ⟨rfl,rfl⟩ | ⟨b,cells,rfl,hb0,hcl,hb1⟩
 ·by_cases h0:l2.length=0
  ·refine ⟨.nilSl,H,by simp only [cB]; rw [if_pos h0],.inl ⟨rfl,by simpa using h0⟩,hk,rfl,fun b e hb _=>hb,fun h=>by omega⟩
  ·refine ⟨_,_,by simp only [cB]; rw [if_neg h0,if_pos ⟨by simpa using hb,by simpa using hl⟩],.inr ⟨id,news,by simp,aG _ _ _,?_,hid⟩,hk.put hid hid2,rfl,fun b e hb _=>?_,fun _=>⟨_,rfl⟩⟩
   ·have:=hc.mono (H':=H.put id (.cells news ty true)) fun c cs t r _ hce=>by rw [au (hnf hce)]; exact hce
    simpa using this
   ·rw [au (hnf hb)]; exact hb
 ·have hbid:b≠id:=hnf hb0
  have hfr:fr≠some b:=by
   rw [<- hfr0]
   cases w with
   | own b' off m c z x =>
    simp only [ne_eq,Option.some.injEq]
    intro e1; subst e1
    exact hne _ _ rfl _ _ _ _ _ rfl
   | _=>simp
  simp only [cB,hb0]
  rw [if_pos ⟨trivial,hb,hl,trivial,by simp; exact Nat.le_of_eq hcl.1.symm⟩]
  by_cases h0:l2.length=0
  ·rw [if_pos (by omega),if_pos h0]
   refine ⟨_,H,rfl,.inr ⟨b,cells,?_,hb0,?_,hb1⟩,hk,rfl,fun b e hb _=>hb,fun h=>by omega⟩
   ·simp [h0]
   ·have:l2=[]:=List.eq_nil_of_length_eq_zero h0
    subst this; simpa using hcl
  ·rw [if_neg (by omega)]
   simp only [Bool.false_eq_true,if_false]
   rw [if_pos ⟨trivial,trivial,hfr,hones⟩]
   have hsub:∀ c e,H.get c=some e->c≠b->((H.kill b).put id (.cells (cells.take (l.length*E.sz)++news) ty true)).get c=some e:=fun c e hc hcb=>by
    rw [au (hnf hc),cL hcb]; exact hc
   refine ⟨_,_,rfl,.inr ⟨id,_,by simp,aG _ _ _,?_,hid⟩,(hk.kill hb1).put hid hid2,rfl,fun c e hc he=>hsub c e hc fun e1=>?_,fun _=>⟨_,rfl⟩⟩
   ·have hs:SubT E.tys H ((H.kill b).put id (.cells (cells.take (l.length*E.sz)++news) ty true)):=fun c cs t r ht hc=>hsub c _ hc fun e1=>by
     subst e1
     rw [hb0] at hc; cases hc
     exact hty ht
    have ht:cells.take (l.length*E.sz)=cells:=by rw [<- hcl.1,List.take_length]
    rw [ht] at hs ⊢
    exact (hcl.mono hs).append (hc.mono hs)
   ·subst e1
    exact he _ rfl
theorem Bl.push {E:gR α} {ty ty2 bytes id id2 k:Nat} {H0 H:Heap} {v:AV} {l:List α} {cs:List AV} {a:α} (h:Bl E ty H0 H v l) (hty:ty ∉ E.tys) (hk:Kp H0 H) (hr:E.R H cs a) (hid:H.next<=id) (hidk:id<H.next+k) (hid2:H.next<=id2) (hid2k:id2<H.next+k) (hne:id≠id2)
  (hb:(l.length+1)*bytes<=70368744177664) (hl:l.length+1<4611686018427387904) :
  ∃ n H',eP ((H.up k).put id2 (.cells cs ty2 true)) id E.sz bytes ty v (.own id2 0 1 1 E.sz true)=some (.own id 0 n n E.sz false,H')/\Bl E ty H0 H' (.own id 0 n n E.sz false) (l++[a])/\Kp H0 H'/\H'.next=H.next+k/\(∀ b e,H.get b=some e->(∀ n,v ≠ .own b 0 n n E.sz false)->H'.get b=some e):=by
 have hle:=hk.le
 have hf:∀ {c},H.next<=c->H.get c=none:=fun hc=>hk.wf.fresh hc
 have hsub:Sub H ((H.up k).put id2 (.cells cs ty2 true)):=(Sub.bump H k).put (hf hid2) _
 have hk':Kp H0 ((H.up k).put id2 (.cells cs ty2 true)):=(hk.up k).put (by omega) hid2k
 have hy:SlV E ty2 ((H.up k).put id2 (.cells cs ty2 true)) (.own id2 0 1 1 E.sz true) [a]:=by
  have:Own E ty2 H0 ((H.up k).put id2 (.cells cs ty2 true)) id2 true (.own id2 0 1 1 E.sz true) [a]:=⟨cs,rfl,aG _ _ _,Cells.one (E.mono (hsub.t _) hr),by omega⟩
  exact this.sl
 obtain ⟨v',H',e1,e2,e3,e4,e5,e6⟩:=(h.mono hsub).app (id:=id) (bytes:=bytes) hty hk' hy (by omega) hidk (by rw [au hne]; exact hf hid) (fun b n hv off m c z x hw=>by
  cases hw
  rcases h with ⟨h,-⟩ | ⟨b',cells,h,hb',-⟩
  ·rw [h] at hv; cases hv
  ·rw [h] at hv; cases hv
   have:=hk.wf _ _ hb'
   omega) hb hl
 obtain ⟨n,rfl⟩:=e6 (by simp)
 exact ⟨n,H',e1,e2,e3,e4,fun b e hbe he=>e5 b e (hsub.get _ _ hbe) he⟩
theorem Bl.ne {E:gR α} {ty:Nat} {H0 H:Heap} {v:AV} {l:List α} (h:Bl E ty H0 H v l) {b:Nat} {e:Ent} (hb:H.get b=some e) (he:∀ cs,e ≠ .cells cs ty true) (n:Nat):v ≠ .own b 0 n n E.sz false:=by
 intro hv
 rcases h with ⟨h,-⟩ | ⟨b',cells,h,hb',-⟩
 ·rw [h] at hv; cases hv
 ·rw [h] at hv; cases hv
  rw [hb] at hb'; cases hb'
  exact he _ rfl
theorem SlV.app {E:gR α} {ty ty2 bytes id b off:Nat} {H0 H:Heap} {w:AV} {l l2:List α} (h:SlV E ty H (.own b off l.length l.length E.sz true) l) (hk:Kp H0 H) (hy:SlV E ty2 H w l2) (hid:H0.next<=id) (hid2:id<H.next) (hfree:H.get id=none)
  (hb:(l.length+l2.length)*bytes<=70368744177664) (hl:l.length+l2.length<4611686018427387904) :
  ∃ v' H',eP H id E.sz bytes ty (.own b off l.length l.length E.sz true) w=some (v',H')/\SlV E ty H' v' (l++l2)/\Kp H0 H'/\H'.next=H.next/\Sub H H'/\(0<l2.length->Own E ty H0 H' id false v' (l++l2)):=by
 obtain ⟨cells,hr0,ht,hcl⟩:=h
 obtain ⟨cs,rw0,hg⟩:=ht _ _ _ _ _ _ rfl
 obtain ⟨-,-,n0,hn0,hf0⟩:=hr0
 simp only [fL,Option.some.injEq] at hn0
 subst hn0
 simp only [aH,hg] at hf0
 obtain ⟨news,hr,hty2,hc⟩:=hy
 obtain ⟨m,hm,hlen⟩:=hr.length
 obtain ⟨-,-,m',hm',hf⟩:=hr
 rw [hm] at hm'; cases hm'
 have hml:m=l2.length:=Nat.eq_of_mul_eq_mul_right E.pos (by rw [<- hlen,hc.1])
 obtain ⟨fr,hfr0⟩:∃ fr,(match w with | .own b _ _ _ _ _=>some b | _=>none)=fr:=⟨_,rfl⟩
 subst hml
 have hnf:∀ {b e},H.get b=some e->b≠id:=fun hb e1=>by rw [e1,hfree] at hb; cases hb
 split at hf0
 ·rename_i hcond
  cases hf0
  have hap:∀ fr,cB H id E.sz bytes ty (.own b off l.length l.length E.sz true) l2.length news fr=if l2.length=0 then some (.own b off l.length l.length E.sz true,H) else some (.own id 0 (l.length+l2.length) (l.length+l2.length) E.sz false,H.put id (.cells ((cs.drop off).take (l.length*E.sz)++news) ty true)):=fun fr=>by
   simp only [cB,hg]
   rw [if_pos ⟨trivial,hb,hl,trivial,hcond.2.2⟩]
   by_cases h0:l2.length=0
   ·rw [if_pos (by omega),if_pos h0,if_pos h0]
   ·rw [if_neg (by omega),if_neg h0]
    simp
  have e:∀ x,eP H id E.sz bytes ty x w=cB H id E.sz bytes ty x l2.length news fr:=fun x=>by
   unfold eP
   rw [hm]
   simp only
   rw [hf]
   simp only
   rw [hfr0]
  by_cases h0:l2.length=0
  ·refine ⟨_,H,by rw [e,hap,if_pos h0],?_,hk,rfl,Sub.refl H,fun h=>by omega⟩
   have:l2=[]:=List.eq_nil_of_length_eq_zero h0
   subst this
   rw [List.append_nil]
   refine ⟨_,⟨Nat.le_refl _,(fun s h=>by cases h),l.length,rfl,?_⟩,ht,hcl⟩
   simp only [aH,hg]
   rw [if_pos hcond]
  ·have hs:Sub H (H.put id (.cells ((cs.drop off).take (l.length*E.sz)++news) ty true)):=⟨Nat.le_refl _,fun c e hc=>by rw [au (hnf hc)]; exact hc⟩
   refine ⟨_,_,by rw [e,hap,if_neg h0],?_,hk.put hid hid2,rfl,hs,fun _=>⟨_,by rw [List.length_append],aG _ _ _,(hcl.mono (hs.t _)).append (hc.mono (hs.t _)),hid⟩⟩
   refine ⟨(cs.drop off).take (l.length*E.sz)++news,Rd.own (aG _ _ _) ?_ (Nat.le_refl _),fun _ _ _ _ _ _ e=>by cases e; exact ⟨_,_,aG _ _ _⟩,(hcl.mono (hs.t _)).append (hc.mono (hs.t _))⟩
   rw [List.length_append,hcl.1,hc.1,Nat.add_mul]
 ·cases hf0
theorem SlV.nilcase {E:gR α} {ty:Nat} {H:Heap} {v:AV} {l:List α} (h:SlV E ty H v l):(v=.nilSl/\l=[])\/bP .eql .sl v .nilSl=some (.bool false):=by
 obtain ⟨cells,⟨-,h1,n,hn,hf⟩,-,hc⟩:=h
 cases v with
 | nilSl =>
  simp only [aH] at hf
  split at hf
  ·cases hf
   refine .inl ⟨rfl,List.eq_nil_of_length_eq_zero ?_⟩
   have:=hc.1
   have hp:=E.pos
   simp only [List.length_nil] at this
   rcases Nat.mul_eq_zero.1 this.symm with h | h
   ·exact h
   ·omega
  ·cases hf
 | own b off n c z x=>exact .inr rfl
 | sl cs n=>exact .inr rfl
 | str s=>exact absurd rfl (h1 _)
 | _=>simp [fL] at hn
def aD (l:List Nat):List AV:=l.map fun a=>.int .u64 ((a:Nat):Int)
theorem mz (l:List Nat):(aD l).length=l.length:=by simp [aD]
theorem D9 (l:List Nat) (j a:Nat):(aD l).set j (.int .u64 (a:Int))=aD (l.set j a):=by simp [aD,List.map_set]
theorem xN {l:List Nat} {j:Nat} (h:j<l.length):bu (aD l) j none=some (.int .u64 ((l.getD j 0:Nat):Int)):=by
 simp [bu,aD,List.getD_eq_getElem?_getD,h]
theorem pT (H:Heap) (l:List Nat):Cells (bz b7) H (aD l) l:=by
 refine ⟨by simp [aD,bz],fun i a hi=>⟨.int .u64 (a:Int),?_,rfl⟩⟩
 have hlt:=(List.getElem?_eq_some_iff.1 hi).1
 apply List.ext_getElem?
 intro k
 have e:(aD l)[i]? = some (.int .u64 (a:Int)):=by simp [aD,hi]
 simp only [bz,List.getElem?_take,List.getElem?_drop,Nat.mul_one]
 cases k with
 | zero=>simpa using e
 | succ k=>simp
theorem kH (n:Nat):(List.replicate n [AV.int .u64 0]).flatten=aD (List.replicate n 0):=by
 induction n with
 | zero=>rfl
 | succ n ih=>rw [List.replicate_succ,List.flatten_cons,ih]; rfl
theorem qF {H0 H:Heap} {b ty:Nat} {l:List Nat} {n:Nat} {ex:Bool} (hb:H.get b=some (.cells (aD l) ty true)) (h0:H0.next<=b) (hn:l.length=n):Own (bz b7) ty H0 H b ex (.own b 0 n n 1 ex) l:=⟨_,by rw [hn]; rfl,hb,pT H l,h0⟩
theorem oY {b off n c sz j:Nat} {x:Bool} {k:IntKind} (h:j<n):fO sz (.own b off n c sz x) (.int k (j:Int))=some (.ptr b (off+j*sz)):=by
 show aJ _ (.indexAddr sz (.t 0) (.t 1))=_
 simp [aJ,e7,h]
theorem Cy (b off n c sz:Nat) (x:Bool):lenV (.own b off n c sz x)=some (.int .i64 (n:Int)):=rfl
theorem K6 {α:Type} {a b:Nat} {x y:α} (h:a<b):(if a<b then x else y)=x:=if_pos h
def qi (o:AOp):Bool:=o.looks || o.isPure
section
variable (tab:Nat->Option aq)
def FB (base:Nat) (T:Tm) (i:Nat) (d:e9) (s:DS) (K:DS->Prop):Prop:=match d.cls,d.looks with
 | 0,(k,adds) :: _=>qi d.op=true/\kP tab (Src.ev T) (dt base s.Es (s.Cs.getD k default) adds) 0 d.op fun v _=>K ⟨s.Vs++[v],s.Cs,s.Es++[none]⟩
 | 1,_=>d.op.makes=true/\kP tab (Src.ev T) (Heap.nil 0) (base+i) d.op fun v H'=>K ⟨s.Vs++[v],s.Cs,s.Es++[H'.get (base+i)]⟩
 | 2,[(k,adds)]=>kP tab (Src.ev T) (dt base s.Es (s.Cs.getD k default) adds) (base+i) d.op fun v H'=>K ⟨s.Vs++[v],s.Cs++[H'],s.Es++[none]⟩
 | _,_=>False
def AP (base:Nat) (d:e9) (s:DS) (K:DS->Prop):Prop:=match d.cls,d.looks with
 | 2,[(k,adds)]=>K ⟨s.Vs++[.tup []],s.Cs++[dt base s.Es (s.Cs.getD k default) adds],s.Es++[none]⟩
 | 2,_=>False
 | _,_=>K ⟨s.Vs++[.tup []],s.Cs,s.Es++[none]⟩
def wd (base:Nat) (T0:Tm):Nat->List e9->DS->(DS->Prop)->Prop
 | _,[],s,Q=>Q s
 | i,d :: ds,s,Q=>match bS (b9 T0 s.Vs d.uses) d.guard with
  | none=>False
  | some true=>FB tab base (b9 T0 s.Vs d.uses) i d s fun s'=>wd base T0 (i+1) ds s' Q
  | some false=>AP base d s fun s'=>wd base T0 (i+1) ds s' Q
end
section
variable {tab:Nat->Option aq}
theorem yT {base i:Nat} {T0:Tm} {d:e9} {s:DS} {K:DS->Prop} (hw:bS (b9 T0 s.Vs d.uses) d.guard=some true) (h:FB tab base (b9 T0 s.Vs d.uses) i d s K) :
  ∃ s',K s'/\∃ N,∀ m n,N<=m->N<=n->iR (jG tab ea m n) base T0 i d s=some s':=by
 obtain ⟨dst,op,guard,uses,cls,looks⟩:=d
 simp only at hw
 unfold FB at h
 simp only at h
 split at h
 ·rename_i k adds r
  obtain ⟨hz,h⟩:=h
  have h:=h.run
  obtain ⟨v,H',hk,N,g⟩:=kj h
  refine ⟨_,hk,N,fun m n hm hn=>?_⟩
  have g:=g m n hm hn
  unfold iR
  simp only [hw]
  cases hp:aJ (Src.ev (b9 T0 s.Vs uses)) op with
  | some w =>
   have:uz (jG tab ea m n) (Src.ev (b9 T0 s.Vs uses)) (dt base s.Es (s.Cs.getD k default) adds) 0 op=some (w,dt base s.Es (s.Cs.getD k default) adds):=by
    cases op <;> first | (simp only [uz,hp]; done) | (simp [aJ] at hp; done)
   rw [this] at g
   cases g; rfl
  | none =>
   have hh:aS (Src.ev (b9 T0 s.Vs uses)) (dt base s.Es (s.Cs.getD k default) adds) 0 op=some (v,H'):=by
    cases op <;> first | (simp only [uz,hp] at g; exact g) | (simp [qi,AOp.looks,AOp.isPure] at hz; done)
   have hl:op.looks=true:=by
    cases op <;> first | rfl | (simp [aS] at hh; done) | (simp [qi,AOp.looks,AOp.isPure] at hz; done)
   simp only [hh,hl,if_true]
 ·obtain ⟨hz,h⟩:=h
  have h:=h.run
  obtain ⟨v,H',hk,N,g⟩:=kj h
  refine ⟨_,hk,N,fun m n hm hn=>?_⟩
  have g:=g m n hm hn
  unfold iR
  simp only [hw,hz,if_true]
  have hp:aJ (Src.ev (b9 T0 s.Vs uses)) op=none:=by cases op <;> first | rfl | (simp [AOp.makes] at hz; done)
  have hh:aS (Src.ev (b9 T0 s.Vs uses)) (Heap.nil 0) (base+i) op=some (v,H'):=by
   cases op <;> first | (simp only [uz,hp] at g; exact g) | (simp [AOp.makes] at hz; done)
  simp only [hh]
 ·have h:=h.run
  obtain ⟨v,H',hk,N,g⟩:=kj h
  refine ⟨_,hk,N,fun m n hm hn=>?_⟩
  have g:=g m n hm hn
  unfold iR
  simp only [hw,g]
 ·exact h.elim
theorem xJ {cal:lV} {base i:Nat} {T0:Tm} {d:e9} {s:DS} {K:DS->Prop} (hw:bS (b9 T0 s.Vs d.uses) d.guard=some false) (h:AP base d s K):∃ s',K s'/\∀ cal,iR cal base T0 i d s=some s':=by
 obtain ⟨dst,op,guard,uses,cls,looks⟩:=d
 simp only at hw
 unfold AP at h
 simp only at h
 split at h
 ·refine ⟨_,h,fun cal=>?_⟩
  unfold iR; simp only [hw]
 ·exact h.elim
 ·rename_i h1 h2
  refine ⟨_,h,fun cal=>?_⟩
  unfold iR
  simp only [hw]
theorem tG {base:Nat} {T0:Tm}:∀ (ds:List e9) (i:Nat) (s:DS) (Q:DS->Prop),wd tab base T0 i ds s Q->∃ s',Q s'/\∃ N,∀ m n,N<=m->N<=n->pY (jG tab ea m n) base T0 i ds s=some s'
 | [],i,s,Q,h=>⟨s,h,0,fun _ _ _ _=>rfl⟩
 | d :: ds,i,s,Q,h=>by
  unfold wd at h
  split at h
  ·exact h.elim
  ·rename_i hw
   obtain ⟨s1,h1,N1,g1⟩:=yT hw h
   obtain ⟨s2,hq,N2,g2⟩:=tG ds _ _ _ h1
   refine ⟨s2,hq,N1+N2,fun m n hm hn=>?_⟩
   unfold pY
   rw [g1 m n (by omega) (by omega)]
   exact g2 m n (by omega) (by omega)
  ·rename_i hw
   obtain ⟨s1,h1,g1⟩:=xJ (cal:=Mo) (i:=i) hw h
   obtain ⟨s2,hq,N2,g2⟩:=tG ds _ _ _ h1
   refine ⟨s2,hq,N2,fun m n hm hn=>?_⟩
   unfold pY
   rw [g1]
   exact g2 m n hm hn
structure WD (tab:Nat->Option aq) (base:Nat) (T0:Tm) (i:Nat) (ds:List e9) (s:DS) (Q:DS->Prop):Prop where
 run:wd tab base T0 i ds s Q
theorem xC:WD=wd:=by funext tab b T0 i ds s Q; exact propext ⟨fun h=>h.run,fun h=>⟨h⟩⟩
theorem AV.beq_refl':∀ v:AV,AV.beq v v=true:=by
 intro v
 induction v using AV.rec (motive_2:=fun l=>AV.beqs l l=true) with
 | undef=>rfl
 | bool b=>simp [AV.beq]
 | int k n=>simp [AV.beq]
 | str s=>simp [AV.beq]
 | nilPtr=>rfl
 | nilSl=>rfl
 | nilFn=>rfl
 | nilIf=>rfl
 | nilMap=>rfl
 | agg cs ih=>simpa [AV.beq] using ih
 | tup cs ih=>simpa [AV.beq] using ih
 | sl cs n ih=>simpa [AV.beq] using ih
 | dp cs n ih=>simpa [AV.beq] using ih
 | own b off n c sz ex=>simp [AV.beq]
 | ptr b off=>simp [AV.beq]
 | fn f a b iha ihb=>simp [AV.beq,iha,ihb]
 | ifc t v ih=>simp [AV.beq,ih]
 | map b=>simp [AV.beq]
 | loopv b=>simp [AV.beq]
 | nil=>rfl
 | cons a l iha ihl=>simp [AV.beqs,iha,ihl]
def jN (tab:Nat->Option aq) (base:Nat) (T:Tm) (Cs:List Heap) (Es:List (Option Ent)) (op:AOp) (w:AV):List (Nat × List Nat)->Prop
 | []=>True
 | (k,adds) :: r=>kP tab (Src.ev T) (dt base Es (Cs.getD k default) adds) 0 op (fun v _=>v=w)/\jN tab base T Cs Es op w r
def Bx (tab:Nat->Option aq) (base:Nat) (T0:Tm) (Vs:List AV) (Cs:List Heap) (Es:List (Option Ent)) (i:Nat) (d:e9):Prop:=match d.cls with
 | 0=>match d.guard with
  | none=>qi d.op=true/\jN tab base (b9 T0 Vs d.uses) Cs Es d.op (Vs.getD i .undef) d.looks
  | some p=>kJ (af (b9 T0 Vs d.uses) p.1) p.2 (qi d.op=true/\jN tab base (b9 T0 Vs d.uses) Cs Es d.op (Vs.getD i .undef) d.looks) True () ()
 | _+1=>True
def iO (tab:Nat->Option aq) (base:Nat) (T0:Tm) (Vs:List AV) (Cs:List Heap) (Es:List (Option Ent)):Nat->List e9->Prop
 | _,[]=>True
 | i,d :: ds=>Bx tab base T0 Vs Cs Es i d/\iO tab base T0 Vs Cs Es (i+1) ds
theorem AQ (T:Tm) (t:Nat) (w:Bool):bS T (some (t,w))=match af T t with | .bool b=>some (b == w) | .tup []=>some false | _=>none:=by
 unfold af
 rw [List.getD_eq_getElem?_getD]
 cases h:T[t]? with
 | none=>simp only [bS,h]; rfl
 | some v =>
  simp only [bS,h,Option.getD_some]
  cases v with
  | tup vs=>cases vs <;> rfl
  | _=>rfl
theorem nW {base:Nat} {T:Tm} {Cs:List Heap} {Es:List (Option Ent)} {op:AOp} {w:AV} (hz:qi op=true) (hp:aJ (Src.ev T) op=none):∀ {looks:List (Nat × List Nat)},jN tab base T Cs Es op w looks->(looks.all fun p=>match aS (Src.ev T) (dt base Es (Cs.getD p.1 default) p.2) 0 op with | some (v,_)=>AV.beq v w | none=>false)=true
 | [],_=>rfl
 | (k,adds) :: r,h=>by
  obtain ⟨h1,h2⟩:=h
  obtain ⟨v,H',rfl,N,g⟩:=kj h1.run
  have g:=g N N (Nat.le_refl _) (Nat.le_refl _)
  have hh:aS (Src.ev T) (dt base Es (Cs.getD k default) adds) 0 op=some (v,H'):=by
   cases op <;> first | (simp only [uz,hp] at g; exact g) | (simp [qi,AOp.looks,AOp.isPure] at hz; done)
  rw [List.all_cons,nW hz hp h2]
  simp only [hh,AV.beq_refl',Bool.and_true]
theorem yj {base:Nat} {T0:Tm} {s:DS} {i:Nat} {d:e9} (h:Bx tab base T0 s.Vs s.Cs s.Es i d):jj base T0 s i d=true:=by
 obtain ⟨dst,op,g,us,c,looks⟩:=d
 cases c with
 | succ c=>rfl
 | zero =>
  cases g with
  | none =>
   obtain ⟨hz,h1⟩:=h
   unfold jj
   simp only [show bS (b9 T0 s.Vs us) none=some true from rfl]
   cases hp:aJ (Src.ev (b9 T0 s.Vs us)) op with
   | some v=>rfl
   | none=>exact nW hz hp h1
  | some p =>
   obtain ⟨t,w⟩:=p
   unfold Bx kJ at h
   simp only at h
   unfold jj
   simp only [AQ]
   cases hg:af (b9 T0 s.Vs us) t with
   | bool b =>
    rw [hg] at h
    simp only at h
    by_cases hb:b=w
    ·rw [if_pos hb] at h
     subst hb
     simp only [beq_self_eq_true]
     cases hp:aJ (Src.ev (b9 T0 s.Vs us)) op with
     | some v=>rfl
     | none=>exact nW h.1 hp h.2
    ·have:(b == w)=false:=by simpa using hb
     simp only [this]
   | tup vs=>cases vs <;> rfl
   | _=>rw [hg] at h; exact h.elim
theorem qE {base:Nat} {T0:Tm} {s:DS}:∀ (ds:List e9) (i:Nat),iO tab base T0 s.Vs s.Cs s.Es i ds->jW base T0 s i ds=true
 | [],i,_=>rfl
 | d :: ds,i,h=>by
  unfold jW
  rw [qE ds _ h.2,yj h.1]; rfl
def MF (tab:Nat->Option aq) (base:Nat) (T0:Tm) (ds:List e9) (late:List Nat) (Q:Tm->Heap->Prop) (s:DS):Prop:=iO tab base T0 s.Vs s.Cs s.Es 0 ds/\Q (fh T0 ds s.Vs) (dt base s.Es (s.Cs.getLastD default) late)
theorem aR {rd:Bool} {ds:List e9} {late:List Nat} {T:Tm} {H:Heap} {Q:Ex->Tm->Heap->Prop} (h:WD tab H.next T 0 ds ⟨[],[H.up ds.length],[]⟩ (MF tab H.next T ds late (Q .nrm))):WC tab rd (.draw ds late) T H Q:=by
 obtain ⟨s,⟨hs,hq⟩,N,g⟩:=tG _ _ _ _ h.run
 have hs:=qE _ _ hs
 refine ⟨.nrm,_,_,⟨N,fun m n hm hn=>?_⟩,hq⟩
 simp only [aA,Ad]
 rw [show ({ H with next:=H.next+ds.length }:Heap)=H.up ds.length from rfl,g m n hm hn]
 simp only [hs,if_true]
variable {base i k:Nat} {T0:Tm} {dst:Option Nat} {op:AOp} {us:List (Nat × Option Nat)} {adds:List Nat} {r:List (Nat × List Nat)} {ds:List e9} {Vs:List AV} {Cs:List Heap} {Es:List (Option Ent)} {Q:DS->Prop}
theorem Kb:WD tab base T0 i [] ⟨Vs,Cs,Es⟩ Q=Q ⟨Vs,Cs,Es⟩:=by rw [xC]; rfl
theorem Ij:WD tab base T0 i (⟨dst,op,none,us,0,(k,adds) :: r⟩ :: ds) ⟨Vs,Cs,Es⟩ Q=(qi op=true/\kP tab (Src.ev (b9 T0 Vs us)) (dt base Es (Cs.getD k default) adds) 0 op fun v _=>WD tab base T0 (i+1) ds ⟨Vs++[v],Cs,Es++[none]⟩ Q):=by rw [xC]; rfl
theorem Ii:WD tab base T0 i (⟨dst,op,none,us,1,r⟩ :: ds) ⟨Vs,Cs,Es⟩ Q=(op.makes=true/\kP tab (Src.ev (b9 T0 Vs us)) (Heap.nil 0) (base+i) op fun v H'=>WD tab base T0 (i+1) ds ⟨Vs++[v],Cs,Es++[H'.get (base+i)]⟩ Q):=by
 rw [xC]
 conv=>lhs; unfold wd
 cases r <;> rfl
theorem Kc:WD tab base T0 i (⟨dst,op,none,us,2,[(k,adds)]⟩ :: ds) ⟨Vs,Cs,Es⟩ Q=kP tab (Src.ev (b9 T0 Vs us)) (dt base Es (Cs.getD k default) adds) (base+i) op fun v H'=>WD tab base T0 (i+1) ds ⟨Vs++[v],Cs++[H'],Es++[none]⟩ Q:=by rw [xC]; rfl
theorem FA {t:Nat} {w:Bool}:WD tab base T0 i (⟨dst,op,some (t,w),us,0,(k,adds) :: r⟩ :: ds) ⟨Vs,Cs,Es⟩ Q =
  kJ (af (b9 T0 Vs us) t) w (qi op=true/\kP tab (Src.ev (b9 T0 Vs us)) (dt base Es (Cs.getD k default) adds) 0 op fun v _=>WD tab base T0 (i+1) ds ⟨Vs++[v],Cs,Es++[none]⟩ Q) (WD tab base T0 (i+1) ds ⟨Vs++[.tup []],Cs,Es++[none]⟩ Q) () ():=by
 rw [xC]
 have hw:bS (b9 T0 Vs us) (some (t,w))=match af (b9 T0 Vs us) t with | .bool b=>some (b == w) | .tup []=>some false | _=>none:=by
  generalize b9 T0 Vs us=T
  unfold af
  rw [List.getD_eq_getElem?_getD]
  cases h:T[t]? with
  | none=>simp only [bS,h]; rfl
  | some v =>
   simp only [bS,h,Option.getD_some]
   cases v with
   | tup vs=>cases vs <;> rfl
   | _=>rfl
 conv=>lhs; unfold wd
 simp only [hw,kJ]
 cases af (b9 T0 Vs us) t with
 | bool b=>cases b <;> cases w <;> rfl
 | tup vs=>cases vs <;> rfl
 | _=>rfl
theorem FL (T0:Tm) (Vs:List AV):b9 T0 Vs []=List.replicate T0.length .undef:=rfl
theorem FK (T0:Tm) (Vs:List AV) (u:Nat × Option Nat):b9 T0 Vs [u]=(List.replicate T0.length .undef).set u.1 (kS T0 Vs u):=rfl
theorem FJ (T0:Tm) (Vs:List AV) (u v:Nat × Option Nat):b9 T0 Vs [u,v]=((List.replicate T0.length .undef).set u.1 (kS T0 Vs u)).set v.1 (kS T0 Vs v):=rfl
theorem AT (T0:Tm) (Vs:List AV) (u v w:Nat × Option Nat):b9 T0 Vs [u,v,w]=(((List.replicate T0.length .undef).set u.1 (kS T0 Vs u)).set v.1 (kS T0 Vs v)).set w.1 (kS T0 Vs w):=rfl
theorem FH (T0:Tm) (Vs:List AV) (n:Nat):kS T0 Vs (n,none)=af T0 n:=rfl
theorem FI (T0:Tm) (Vs:List AV) (n j:Nat):kS T0 Vs (n,some j)=Vs.getD j .undef:=rfl
theorem ph (base:Nat) (Es:List (Option Ent)) (C:Heap):dt base Es C []=C:=rfl
theorem nj (base:Nat) (Es:List (Option Ent)) (C:Heap) (a:Nat) (l:List Nat):dt base Es C (a :: l)=dt base Es (match Es.getD a none with | some e=>C.put (base+a) e | none=>C) l:=rfl
theorem gJ (T:Tm) (d:e9) (ds:List e9) (v:AV) (vs:List AV):fh T (d :: ds) (v :: vs)=fh (putT T d.dst v) ds vs:=rfl
theorem iJ (T:Tm) (vs:List AV):fh T [] vs=T:=by cases vs <;> rfl
theorem I9 {base:Nat} {T0:Tm} {ds:List e9} {late:List Nat} {Q:Tm->Heap->Prop}:MF tab base T0 ds late Q ⟨Vs,Cs,Es⟩=(iO tab base T0 Vs Cs Es 0 ds/\Q (fh T0 ds Vs) (dt base Es (Cs.getLastD default) late)):=rfl
theorem KZ {Vs:List AV} {Cs:List Heap} {Es:List (Option Ent)} {i:Nat}:iO tab base T0 Vs Cs Es i []=True:=rfl
theorem IT {g:Option (Nat × Bool)} {r:List (Nat × List Nat)}:iO tab base T0 Vs Cs Es i (⟨dst,op,g,us,1,r⟩ :: ds)=iO tab base T0 Vs Cs Es (i+1) ds:=by
 show (True/\_)=_
 simp
theorem IS {g:Option (Nat × Bool)} {r:List (Nat × List Nat)}:iO tab base T0 Vs Cs Es i (⟨dst,op,g,us,2,r⟩ :: ds)=iO tab base T0 Vs Cs Es (i+1) ds:=by
 show (True/\_)=_
 simp
theorem IR {r:List (Nat × List Nat)}:iO tab base T0 Vs Cs Es i (⟨dst,op,none,us,0,r⟩ :: ds)=((qi op=true/\jN tab base (b9 T0 Vs us) Cs Es op (Vs.getD i .undef) r)/\iO tab base T0 Vs Cs Es (i+1) ds):=rfl
theorem GA {t:Nat} {w:Bool} {r:List (Nat × List Nat)}:iO tab base T0 Vs Cs Es i (⟨dst,op,some (t,w),us,0,r⟩ :: ds)=(kJ (af (b9 T0 Vs us) t) w (qi op=true/\jN tab base (b9 T0 Vs us) Cs Es op (Vs.getD i .undef) r) True () ()/\iO tab base T0 Vs Cs Es (i+1) ds):=rfl
theorem K2 {T:Tm} {w:AV}:jN tab base T Cs Es op w []=True:=rfl
theorem IW {T:Tm} {w:AV} {r:List (Nat × List Nat)}:jN tab base T Cs Es op w ((k,adds) :: r)=(kP tab (Src.ev T) (dt base Es (Cs.getD k default) adds) 0 op (fun v _=>v=w)/\jN tab base T Cs Es op w r):=rfl
theorem JM {x:Src}:qi (.mv x)=true:=rfl
theorem E8 {a b c:Src}:qi (.pick a b c)=true:=rfl
theorem C7 {z:List AV} {ps:List ((Nat × Nat) × Src)}:qi (.build z ps)=true:=rfl
theorem C5 {x:Src}:qi (.nilCheck x)=true:=rfl
theorem HI {o:BinOp} {k:BK} {x y:Src}:qi (.bin o k x y)=true:=rfl
theorem JL {o:UnOp} {x:Src}:qi (.un o x)=true:=rfl
theorem Fb {k:IntKind} {x:Src}:qi (.conv k x)=true:=rfl
theorem E9 {f:Fn} {a b:List Src}:qi (.mkfn f a b)=true:=rfl
theorem C4 {n:Nat} {x:Src} {a b c:Option Src}:qi (.slice n x a b c)=true:=rfl
theorem JN {n:Nat} {x:Src}:qi (.fieldAddr n x)=true:=rfl
theorem C6 {k:Option Nat} {n:Nat} {x:Src}:qi (.field k n x)=true:=rfl
theorem HG {n:Nat} {x y:Src}:qi (.indexAddr n x y)=true:=rfl
theorem HH {n:Nat} {x:Src}:qi (.extract n x)=true:=rfl
theorem HF {x:Src}:qi (.len x)=true:=rfl
theorem Fa {k:Option Nat} {x:Src}:qi (.load k x)=true:=rfl
theorem HD {xs:List Src}:qi (.min xs)=true:=rfl
theorem HE {xs:List Src}:qi (.max xs)=true:=rfl
theorem DT {n:Nat} {z:List AV}:AOp.makes (.alloc n z)=true:=rfl
theorem IQ {n:Nat} {x:Src}:AOp.makes (.box n x)=true:=rfl
theorem KX {n m k:Nat} {z:List AV} {ps:List ((Nat × Nat) × Src)}:AOp.makes (.buildSlice n m z k ps)=true:=rfl
theorem Gy {n m k:Nat} {z:List AV} {a b:Src}:AOp.makes (.mksl n m k z a b)=true:=rfl
end
theorem aw {A1 B1:Prop} (a:A1) (b:B1):A1/\B1:=⟨a,b⟩
theorem aB {A1 B1 C1:Prop} (a:A1) (b:B1) (c:C1):A1/\B1/\C1:=⟨a,b,c⟩
theorem aT {A1 B1 C1 D1:Prop} (a:A1) (b:B1) (c:C1) (d:D1):A1/\B1/\C1/\D1:=⟨a,b,c,d⟩
theorem da {A1 B1 C1 D1 E1:Prop} (a:A1) (b:B1) (c:C1) (d:D1) (e:E1):A1/\B1/\C1/\D1/\E1:=⟨a,b,c,d,e⟩
theorem iq {A1 B1 C1 D1 E1 F1:Prop} (a:A1) (b:B1) (c:C1) (d:D1) (e:E1) (f:F1):A1/\B1/\C1/\D1/\E1/\F1:=⟨a,b,c,d,e,f⟩
theorem kT {A1 B1 C1 D1 E1 F1 G1:Prop} (a:A1) (b:B1) (c:C1) (d:D1) (e:E1) (f:F1) (g:G1):A1/\B1/\C1/\D1/\E1/\F1/\G1:=⟨a,b,c,d,e,f,g⟩
theorem lW {A1 B1 C1 D1 E1 F1 G1 H1:Prop} (a:A1) (b:B1) (c:C1) (d:D1) (e:E1) (f:F1) (g:G1) (h:H1):A1/\B1/\C1/\D1/\E1/\F1/\G1/\H1:=⟨a,b,c,d,e,f,g,h⟩
theorem nF {A1 B1 C1 D1 E1 F1 G1 H1 I1:Prop} (a:A1) (b:B1) (c:C1) (d:D1) (e:E1) (f:F1) (g:G1) (h:H1) (i:I1):A1/\B1/\C1/\D1/\E1/\F1/\G1/\H1/\I1:=⟨a,b,c,d,e,f,g,h,i⟩
theorem pM {A1 B1 C1 D1 E1 F1 G1 H1 I1 J1:Prop} (a:A1) (b:B1) (c:C1) (d:D1) (e:E1) (f:F1) (g:G1) (h:H1) (i:I1) (j:J1):A1/\B1/\C1/\D1/\E1/\F1/\G1/\H1/\I1/\J1:=⟨a,b,c,d,e,f,g,h,i,j⟩
theorem rh {A1 B1 C1 D1 E1 F1 G1 H1 I1 J1 K1:Prop} (a:A1) (b:B1) (c:C1) (d:D1) (e:E1) (f:F1) (g:G1) (h:H1) (i:I1) (j:J1) (k:K1):A1/\B1/\C1/\D1/\E1/\F1/\G1/\H1/\I1/\J1/\K1:=⟨a,b,c,d,e,f,g,h,i,j,k⟩
theorem yP {A1 B1 C1 D1 E1 F1 G1 H1 I1 J1 K1 L1:Prop} (a:A1) (b:B1) (c:C1) (d:D1) (e:E1) (f:F1) (g:G1) (h:H1) (i:I1) (j:J1) (k:K1) (l:L1):A1/\B1/\C1/\D1/\E1/\F1/\G1/\H1/\I1/\J1/\K1/\L1:=⟨a,b,c,d,e,f,g,h,i,j,k,l⟩
theorem Fc {A1 B1 C1 D1 E1 F1 G1 H1 I1 J1 K1 L1 M1:Prop} (a:A1) (b:B1) (c:C1) (d:D1) (e:E1) (f:F1) (g:G1) (h:H1) (i:I1) (j:J1) (k:K1) (l:L1) (m:M1):A1/\B1/\C1/\D1/\E1/\F1/\G1/\H1/\I1/\J1/\K1/\L1/\M1:=⟨a,b,c,d,e,f,g,h,i,j,k,l,m⟩
theorem HK {A1 B1 C1 D1 E1 F1 G1 H1 I1 J1 K1 L1 M1 N1:Prop} (a:A1) (b:B1) (c:C1) (d:D1) (e:E1) (f:F1) (g:G1) (h:H1) (i:I1) (j:J1) (k:K1) (l:L1) (m:M1) (n:N1):A1/\B1/\C1/\D1/\E1/\F1/\G1/\H1/\I1/\J1/\K1/\L1/\M1/\N1:=⟨a,b,c,d,e,f,g,h,i,j,k,l,m,n⟩
theorem HJ {A1 B1 C1 D1 E1 F1 G1 H1 I1 J1 K1 L1 M1 N1 O1:Prop} (a:A1) (b:B1) (c:C1) (d:D1) (e:E1) (f:F1) (g:G1) (h:H1) (i:I1) (j:J1) (k:K1) (l:L1) (m:M1) (n:N1) (o:O1):A1/\B1/\C1/\D1/\E1/\F1/\G1/\H1/\I1/\J1/\K1/\L1/\M1/\N1/\O1:=⟨a,b,c,d,e,f,g,h,i,j,k,l,m,n,o⟩
theorem LK {A1 B1 C1 D1 E1 F1 G1 H1 I1 J1 K1 L1 M1 N1 O1 P1 Q1:Prop} (a:A1) (b:B1) (c:C1) (d:D1) (e:E1) (f:F1) (g:G1) (h:H1) (i:I1) (j:J1) (k:K1) (l:L1) (m:M1) (n:N1) (o:O1) (p:P1) (q:Q1):A1/\B1/\C1/\D1/\E1/\F1/\G1/\H1/\I1/\J1/\K1/\L1/\M1/\N1/\O1/\P1/\Q1:=⟨a,b,c,d,e,f,g,h,i,j,k,l,m,n,o,p,q⟩
theorem JP {A1 B1 C1 D1 E1 F1 G1 H1 I1 J1 K1 L1 M1 N1 O1 P1 Q1 R1:Prop} (a:A1) (b:B1) (c:C1) (d:D1) (e:E1) (f:F1) (g:G1) (h:H1) (i:I1) (j:J1) (k:K1) (l:L1) (m:M1) (n:N1) (o:O1) (p:P1) (q:Q1) (r:R1):A1/\B1/\C1/\D1/\E1/\F1/\G1/\H1/\I1/\J1/\K1/\L1/\M1/\N1/\O1/\P1/\Q1/\R1:=⟨a,b,c,d,e,f,g,h,i,j,k,l,m,n,o,p,q,r⟩
theorem JO {A1 B1 C1 D1 E1 F1 G1 H1 I1 J1 K1 L1 M1 N1 O1 P1 Q1 R1 S1:Prop} (a:A1) (b:B1) (c:C1) (d:D1) (e:E1) (f:F1) (g:G1) (h:H1) (i:I1) (j:J1) (k:K1) (l:L1) (m:M1) (n:N1) (o:O1) (p:P1) (q:Q1) (r:R1) (s:S1):A1/\B1/\C1/\D1/\E1/\F1/\G1/\H1/\I1/\J1/\K1/\L1/\M1/\N1/\O1/\P1/\Q1/\R1/\S1:=⟨a,b,c,d,e,f,g,h,i,j,k,l,m,n,o,p,q,r,s⟩
theorem M6 {A1 B1 C1 D1 E1 F1 G1 H1 I1 J1 K1 L1 M1 N1 O1 P1 Q1 R1 S1 T1:Prop} (a:A1) (b:B1) (c:C1) (d:D1) (e:E1) (f:F1) (g:G1) (h:H1) (i:I1) (j:J1) (k:K1) (l:L1) (m:M1) (n:N1) (o:O1) (p:P1) (q:Q1) (r:R1) (s:S1) (t:T1):A1/\B1/\C1/\D1/\E1/\F1/\G1/\H1/\I1/\J1/\K1/\L1/\M1/\N1/\O1/\P1/\Q1/\R1/\S1/\T1:=⟨a,b,c,d,e,f,g,h,i,j,k,l,m,n,o,p,q,r,s,t⟩
def td:=And.intro (And.intro (And.intro (And.intro (And.intro (And.intro (@F4) (@F3)) (And.intro (@Dz) (@Dy))) (And.intro (And.intro (@He) (@Hd)) (And.intro (@EH) (@EI)))) (And.intro (And.intro (And.intro (@F6) (@F5)) (And.intro (@DB) (@zB))) (And.intro (And.intro (@GC) (@DZ)) (And.intro (@DY) (And.intro (@HL) (@JQ)))))) (And.intro (And.intro (And.intro (And.intro (@HW) (@yR)) (And.intro (@HU) (@HS))) (And.intro (And.intro (@JR) (@Fg)) (And.intro (@HP) (@Fh)))) (And.intro (And.intro (And.intro (@tF) (@xE)) (And.intro (@Jw) (@HO))) (And.intro (And.intro (@Fp) (@HX)) (And.intro (@wU) (And.intro (@uO) (@Ap))))))) (And.intro (And.intro (And.intro (And.intro (And.intro (@vw) (@HM)) (And.intro (@AM) (@LL))) (And.intro (And.intro (@HV) (@JU)) (And.intro (@JV) (@LN)))) (And.intro (And.intro (And.intro (@Fk) (@JW)) (And.intro (@Fo) (@Fi))) (And.intro (And.intro (@Ff) (@HQ)) (And.intro (@Fd) (And.intro (@JY) (@LM)))))) (And.intro (And.intro (And.intro (And.intro (@vY) (@JX)) (And.intro (@JT) (@JS))) (And.intro (And.intro (@AL) (@C9)) (And.intro (@Gg) (And.intro (@Gf) (@GP))))) (And.intro (And.intro (And.intro (@GO) (@Ek)) (And.intro (@El) (@Ig))) (And.intro (And.intro (@If) (@Fy)) (And.intro (@Fz) (And.intro (@Fl) (@yQ)))))))
def tc:=And.intro (And.intro (And.intro (And.intro (And.intro (And.intro (And.intro (@rv) (@wU)) (And.intro (@uO) (@Ap))) (And.intro (And.intro (@vw) (@BU)) (And.intro (@xX) (And.intro (@Ca) (@Eg))))) (And.intro (And.intro (And.intro (@Ld) (@MD)) (And.intro (@gH) (And.intro (@jX) (@Nat.add_assoc)))) (And.intro (And.intro (@Jk) (@Jg)) (And.intro (@CZ) (And.intro (@Jh) (@Ji)))))) (And.intro (And.intro (And.intro (And.intro (@Jj) (@G4)) (And.intro (@DN) (And.intro (@Ky) (@Jm)))) (And.intro (And.intro (@Jl) (@yg)) (And.intro (@tu) (And.intro (@Lk) (@Jf))))) (And.intro (And.intro (And.intro (@List.length_set.{0}) (And.intro (@if_true.{1}) (@if_true.{0}))) (And.intro (And.intro (@if_false.{1}) (@if_false.{0})) (And.intro (@List.length_cons.{0}) (@List.length_nil.{0})))) (And.intro (And.intro (@List.map_cons.{0,0}) (@List.map_nil.{0,0})) (And.intro (@List.append_nil.{0}) (And.intro (@List.nil_append.{0}) (@List.cons_append.{0}))))))) (And.intro (And.intro (And.intro (And.intro (And.intro (@Option.map_some.{0,0}) (@Option.map_none.{0,0})) (And.intro (@Bool.not_true) (And.intro (@Bool.not_false) (@Bool.not_eq_true)))) (And.intro (And.intro (@decide_eq_true_eq) (@Bool.not_eq_true')) (And.intro (@decide_eq_false_iff_not) (And.intro (@Bool.false_eq_true) (@true_or))))) (And.intro (And.intro (And.intro (@or_true) (@true_and)) (And.intro (@and_true) (And.intro (@false_or) (@or_false)))) (And.intro (And.intro (@ne_eq.{1}) (@not_false_eq_true)) (And.intro (@not_true_eq_false) (And.intro (@eq_self.{1}) (@Nat.zero_add)))))) (And.intro (And.intro (And.intro (And.intro (@Nat.add_zero) (@zP)) (And.intro (@BC) (And.intro (@BT) (@Al)))) (And.intro (And.intro (@Mi) (@KS)) (And.intro (@IZ) (And.intro (@fG) (@next_put))))) (And.intro (And.intro (And.intro (@next_kill) (@KO)) (And.intro (@KN) (And.intro (@KM) (@Ga)))) (And.intro (And.intro (@DG) (@Gh)) (And.intro (@Dp) (And.intro (@Do) (@K0)))))))) (And.intro (And.intro (And.intro (And.intro (And.intro (And.intro (@Eb) (@K7)) (And.intro (@aG) (And.intro (@au) (@cL)))) (And.intro (And.intro (@KI) (@GD)) (And.intro (@NF) (And.intro (@NE) (@ND))))) (And.intro (And.intro (And.intro (@Nb) (@Na)) (And.intro (@MC) (And.intro (@MB) (@Li)))) (And.intro (And.intro (@Hb) (@MJ)) (And.intro (@aW) (And.intro (@bJ) (@ck)))))) (And.intro (And.intro (And.intro (And.intro (@cK) (@cj)) (And.intro (@Nat.add_eq) (And.intro (@List.take_zero.{0}) (@List.drop_zero.{0})))) (And.intro (And.intro (@List.take_succ_cons.{0}) (@List.drop_succ_cons.{0})) (And.intro (@List.append_eq.{0}) (And.intro (@decide_true) (@decide_false))))) (And.intro (And.intro (And.intro (@Bool.and_true) (@Bool.and_false)) (And.intro (@Bool.true_and) (And.intro (@Bool.false_and) (@Int.lt_irrefl)))) (And.intro (And.intro (@Nd) (@Nc)) (And.intro (@DV) (And.intro (@List.set_cons_zero.{0}) (@List.set_cons_succ.{0}))))))) (And.intro (And.intro (And.intro (And.intro (And.intro (@Int.ofNat_lt) (@Int.ofNat_le)) (And.intro (@Int.natCast_inj) (And.intro (@Int.natCast_pos) (@Be)))) (And.intro (And.intro (@DJ) (@List.zip_cons_cons.{0,0})) (And.intro (@List.zip_nil_left.{0,0}) (And.intro (@List.zip_nil_right.{0,0}) (@Ns))))) (And.intro (And.intro (And.intro (@Nr) (@Np)) (And.intro (@Lc) (And.intro (@En) (@IO)))) (And.intro (And.intro (@KV) (@K8)) (And.intro (@K9) (And.intro (@Lj) (@Le)))))) (And.intro (And.intro (And.intro (And.intro (@Kz) (@EO)) (And.intro (@EJ) (And.intro (@EL) (@EN)))) (And.intro (And.intro (@rU) (@rT)) (And.intro (@BX) (And.intro (@EK) (@mz))))) (And.intro (And.intro (And.intro (@D9) (@xN)) (And.intro (@kH) (And.intro (@oY) (@Cy)))) (And.intro (And.intro (@K6) (@Nat.mul_one)) (And.intro (@Nk) (And.intro (@Nj) (@MA))))))))
def MQ:=And.intro (And.intro (And.intro (@Kb) (And.intro (@Ij) (@FA))) (And.intro (@Ii) (And.intro (@Kc) (@I9)))) (And.intro (And.intro (@KZ) (And.intro (@IT) (@IS))) (And.intro (And.intro (@IR) (@GA)) (And.intro (@K2) (@IW))))
def MP:=And.intro (And.intro (And.intro (And.intro (And.intro (@FL) (@FK)) (And.intro (@FJ) (@AT))) (And.intro (And.intro (@FH) (@FI)) (And.intro (@ph) (And.intro (@nj) (@gJ))))) (And.intro (And.intro (And.intro (@iJ) (@List.length_replicate.{0})) (And.intro (@List.getD_cons_zero.{0}) (@List.getD_cons_succ.{0}))) (And.intro (And.intro (@List.getLastD_cons.{0}) (@List.getLastD_nil.{0})) (And.intro (@JM) (And.intro (@E8) (@C7)))))) (And.intro (And.intro (And.intro (And.intro (@C5) (@HI)) (And.intro (@JL) (@Fb))) (And.intro (And.intro (@E9) (@C4)) (And.intro (@JN) (And.intro (@C6) (@HG))))) (And.intro (And.intro (And.intro (@HH) (@HF)) (And.intro (@Fa) (@HD))) (And.intro (And.intro (@HE) (@DT)) (And.intro (@IQ) (And.intro (@KX) (@Gy))))))
def NG:=And.intro (And.intro (@K4) (@IX)) (And.intro (@Mt) (And.intro (@K3) (@IY)))
def NC:=And.intro (@Ka) (And.intro (@LQ) (@Ih))
theorem zW {F P Q:Prop} (f:F) (q:Q) (h:F->Q->P:=by intro h q; simp -dsimp (maxSteps:=1000000) (disch:=(first | omega | assumption | exact aW _ | exact bJ _ _ | exact ck | exact cK _ _ _ | exact cj _ _ | exact bV _ _ _ _ _ _ | exact cQ _ _ | exact cr _)) only [↓td,tc,Nat.reduceLT,Nat.reduceEqDiff,Nat.reduceAdd,reduceIte,reduceCtorEq,Nat.reduceBEq,Int.reduceEq,Int.reduceLT,Int.reduceLE,Int.reduceAdd,Int.reduceSub,h]; exact q):P:=h f q
theorem s9 {P Q:Prop} (q:Q) (h:Q->P:=by intro q; simp -dsimp (maxSteps:=1000000) (disch:=(first | omega | assumption | exact aW _ | exact bJ _ _ | exact ck | exact cK _ _ _ | exact cj _ _ | exact bV _ _ _ _ _ _ | exact cQ _ _ | exact cr _)) only [↓td,tc,Nat.reduceLT,Nat.reduceEqDiff,Nat.reduceAdd,reduceIte,reduceCtorEq,Nat.reduceBEq,Int.reduceEq,Int.reduceLT,Int.reduceLE,Int.reduceAdd,Int.reduceSub]; exact q):P:=h q
theorem zV {F P:Prop} (f:F) (h:F->P:=by intro h; simp -dsimp (maxSteps:=1000000) (disch:=(first | omega | assumption | exact aW _ | exact bJ _ _ | exact ck | exact cK _ _ _ | exact cj _ _ | exact bV _ _ _ _ _ _ | exact cQ _ _ | exact cr _)) only [↓td,tc,Nat.reduceLT,Nat.reduceEqDiff,Nat.reduceAdd,reduceIte,reduceCtorEq,Nat.reduceBEq,Int.reduceEq,Int.reduceLT,Int.reduceLE,Int.reduceAdd,Int.reduceSub,h]):P:=h f
theorem eA {P:Prop} (h:P:=by simp -dsimp (maxSteps:=1000000) (disch:=(first | omega | assumption | exact aW _ | exact bJ _ _ | exact ck | exact cK _ _ _ | exact cj _ _ | exact bV _ _ _ _ _ _ | exact cQ _ _ | exact cr _)) only [↓td,tc,Nat.reduceLT,Nat.reduceEqDiff,Nat.reduceAdd,reduceIte,reduceCtorEq,Nat.reduceBEq,Int.reduceEq,Int.reduceLT,Int.reduceLE,Int.reduceAdd,Int.reduceSub]):P:=h
theorem zD {F P Q:Prop} (f:F) (q:Q) (h:F->Q->P:=by intro h q; simp -dsimp (maxSteps:=1000000) (disch:=(first | omega | assumption | exact aW _ | exact bJ _ _ | exact ck | exact cK _ _ _ | exact cj _ _ | exact bV _ _ _ _ _ _ | exact cQ _ _ | exact cr _)) only [↓td,tc,↓MQ,MP,Nat.reduceLT,Nat.reduceEqDiff,Nat.reduceAdd,reduceIte,reduceCtorEq,Nat.reduceBEq,Int.reduceEq,Int.reduceLT,Int.reduceLE,Int.reduceAdd,Int.reduceSub,h]; exact q):P:=h f q
theorem zE {F P:Prop} (f:F) (h:F->P:=by intro h; simp -dsimp (maxSteps:=1000000) (disch:=(first | omega | assumption | exact aW _ | exact bJ _ _ | exact ck | exact cK _ _ _ | exact cj _ _ | exact bV _ _ _ _ _ _ | exact cQ _ _ | exact cr _)) only [↓td,tc,↓MQ,MP,Nat.reduceLT,Nat.reduceEqDiff,Nat.reduceAdd,reduceIte,reduceCtorEq,Nat.reduceBEq,Int.reduceEq,Int.reduceLT,Int.reduceLE,Int.reduceAdd,Int.reduceSub,h]):P:=h f
theorem zK {P:Prop} (h:P:=by first | assumption | simp (disch:=(first | omega | assumption | (simp only [fG,next_put,next_kill]; omega))) only [NG] <;> assumption):P:=h
theorem zF {P:Prop} (h:P:=by first | assumption | simp (disch:=(first | omega | assumption | (simp only [fG,next_put,next_kill]; omega))) only [NC] <;> assumption):P:=h
theorem zT (A:Heap) {G C:Heap} (h:Kp A G) (h2:Kp G C):Kp A C/\A.next<=C.next/\Wf C:=⟨h.trans h2,(h.trans h2).le,h2.wf⟩
end Go.Proofs.YtichbdepocojaaaGreat.Ev
