/- A part. -/
import Derived.Test.YtboamamhcfhanaaGreatEvDraw5
import Derived.Test.YtboamamhcfhanaaGreatEvDefs
import Derived.Test.YtboamamhcfhanaaGreatProg
namespace Go.Proofs.YtboamamhcfhanaaGreat.Ev
open Go
set_option linter.all false
def Heap.up (H:Heap) (k:Nat):Heap:={ H with next:=H.next+k }
theorem Mt (H:Heap) (a b:Nat):(H.up a).up b=H.up (a+b):=by simp [Heap.up,Nat.add_assoc]
theorem LE (H:Heap) (b k:Nat) (e:Ent):(H.put b e).up k=(H.up k).put b e:=rfl
theorem JX (H:Heap) (b k:Nat):(H.kill b).up k=(H.up k).kill b:=rfl
theorem cw (H:Heap) (k:Nat):(H.up k).next=H.next+k:=rfl
theorem next_put (H:Heap) (b:Nat) (e:Ent):(H.put b e).next=H.next:=rfl
theorem next_kill (H:Heap) (b:Nat):(H.kill b).next=H.next:=rfl
theorem LW (H:Heap) (k b:Nat):(H.up k).get b=H.get b:=rfl
theorem aA (H:Heap) (b:Nat) (e:Ent):(H.put b e).get b=some e:=by rw [AL,if_pos rfl]
theorem au {H:Heap} {b c:Nat} {e:Ent} (h:c≠b):(H.put b e).get c=H.get c:=by rw [AL,if_neg h]
theorem cH {H:Heap} {b c:Nat} (h:c≠b):(H.kill b).get c=H.get c:=by rw [Fi,if_neg h]
structure Kp (H H':Heap):Prop where
 wf0:Wf H
 wf:Wf H'
 le:H.next<=H'.next
 same:∀ b,b<H.next->H'.get b=H.get b
theorem Kp.sub {H H':Heap} (h:Kp H H'):Sub H H':=⟨h.le,fun b e hb=>(h.same b (h.wf0 b e hb)).trans hb⟩
theorem Kp.refl {H:Heap} (h:Wf H):Kp H H:=⟨h,h,Nat.le_refl _,fun _ _=>rfl⟩
theorem Kp.up {H H':Heap} (h:Kp H H') (k:Nat):Kp H (H'.up k):=⟨h.wf0,h.wf.bump k,Nat.le_trans h.le (Nat.le_add_right _ _),h.same⟩
theorem Kp.trans {H H' H'':Heap} (h:Kp H H') (h':Kp H' H''):Kp H H'':=⟨h.wf0,h'.wf,Nat.le_trans h.le h'.le,fun b hb=>(h'.same b (Nat.lt_of_lt_of_le hb h.le)).trans (h.same b hb)⟩
theorem Kp.get {H H':Heap} (h:Kp H H') {b:Nat} {e:Ent} (hb:H.get b=some e):H'.get b=some e:=h.sub.get b e hb
theorem Kp.put {H H':Heap} (h:Kp H H') {b:Nat} {e:Ent} (h1:H.next<=b) (h2:b<H'.next):Kp H (H'.put b e):=⟨h.wf0,h.wf.put h2 e,h.le,fun c hc=>by rw [au (by omega)]; exact h.same c hc⟩
theorem Kp.kill {H H':Heap} (h:Kp H H') {b:Nat} (h1:H.next<=b):Kp H (H'.kill b):=⟨h.wf0,h.wf.kill b,h.le,fun c hc=>by rw [cH (by omega)]; exact h.same c hc⟩
theorem Kp.old {H H':Heap} (h:Kp H H') {b:Nat} {e:Ent} (hb:H.get b=some e):b<H.next:=h.wf0 b e hb
theorem Kp.free {H H':Heap} (h:Kp H H') {b:Nat} (h1:b<H.next) (h2:H.get b=none):H'.get b=none:=(h.same b h1).trans h2
def DK (os:List zL):List Nat:=os.filterMap (·.dst)
def eF:ACode->List Nat
 | .region os=>DK os
 | .draw ds _=>ds.filterMap (·.dst)
 | .drawF ds _ l _=>(ds++[l]).filterMap (·.dst)
 | .seq a b=>eF a++eF b
 | .cond _ a b=>eF a++eF b
 | .block _ a=>eF a
 | .loop a=>eF a
 | .scope a=>eF a
 | _=>[]
def rN (res:List (Nat × Option (Option Nat))) (Q:AV->Heap->Prop) (x:Ex) (T:Tm) (H:Heap):Prop:=(x=.nrm\/x=.ret)/\∃ v,bW T H res=some v/\Q v H
theorem Hd {res:List (Nat × Option (Option Nat))} {Q:AV->Heap->Prop} {T:Tm} {H:Heap}:rN res Q .nrm T H=Pa (bW T H res) (fun v=>Q v H) ():=by
 unfold rN Pa Pk
 cases bW T H res <;> simp
theorem Hb {res:List (Nat × Option (Option Nat))} {Q:AV->Heap->Prop} {T:Tm} {H:Heap}:rN res Q .ret T H=Pa (bW T H res) (fun v=>Q v H) ():=by
 unfold rN Pa Pk
 cases bW T H res <;> simp
def qV (H:Heap) (v:AV):Option (Option Nat)->Option AV
 | none=>some v
 | some k=>match v with
  | .ptr b o=>aZ H k (.ptr b o)
  | _=>none
theorem EN (H:Heap) (v:AV):qV H v none=some v:=rfl
theorem He (H:Heap) (b o:Nat) (k:Option Nat):qV H (.ptr b o) (some k)=aZ H k (.ptr b o):=rfl
theorem iX (T:Tm) (H:Heap) (r:Nat × Option (Option Nat)):lY T H r=qV H (ae T r.1) r.2:=by
 obtain ⟨n,k⟩:=r
 cases k with
 | none=>rfl
 | some k=>simp only [lY,qV]; cases ae T n <;> rfl
def Lm (a b:Option AV):Option AV:=a.bind fun a=>b.bind fun b=>some (.tup [a,b])
def Lk (a b c:Option AV):Option AV:=a.bind fun a=>b.bind fun b=>c.bind fun c=>some (.tup [a,b,c])
theorem Ey (a b:AV):Lm (some a) (some b)=some (.tup [a,b]):=rfl
theorem Ew (a b c:AV):Lk (some a) (some b) (some c)=some (.tup [a,b,c]):=rfl
theorem Lz (T:Tm) (H:Heap):bW T H []=some (.tup []):=rfl
theorem Ly (T:Tm) (H:Heap) (r:Nat) (k:Option (Option Nat)):bW T H [(r,k)]=qV H (ae T r) k:=by
 show (List.mapM (lY T H) [(r,k)]).bind _=_
 rw [<- iX T H (r,k)]
 simp only [List.mapM_cons,List.mapM_nil]
 cases lY T H (r,k) <;> rfl
theorem Lx (T:Tm) (H:Heap) (r s:Nat) (k l:Option (Option Nat)):bW T H [(r,k),(s,l)]=Lm (qV H (ae T r) k) (qV H (ae T s) l):=by
 show (List.mapM (lY T H) [(r,k),(s,l)]).bind _=_
 rw [<- iX T H (r,k),<- iX T H (s,l)]
 simp only [List.mapM_cons,List.mapM_nil,Lm]
 cases lY T H (r,k) <;> cases lY T H (s,l) <;> rfl
theorem Si (T:Tm) (H:Heap) (r s t:Nat) (k l m:Option (Option Nat)):bW T H [(r,k),(s,l),(t,m)]=Lk (qV H (ae T r) k) (qV H (ae T s) l) (qV H (ae T t) m):=by
 show (List.mapM (lY T H) [(r,k),(s,l),(t,m)]).bind _=_
 rw [<- iX T H (r,k),<- iX T H (s,l),<- iX T H (t,m)]
 simp only [List.mapM_cons,List.mapM_nil,Lk]
 cases lY T H (r,k) <;> cases lY T H (s,l) <;> cases lY T H (t,m) <;> rfl
section
variable {tab:Nat->Option aq} {f n:Nat} {res:List (Nat × Option (Option Nat))} {body:ACode} {H:Heap} {Q:AV->Heap->Prop}
theorem Nl (hf:tab f=some ⟨0,n,res,body,none⟩) (h:∀ T:Tm,T.length=n->WC tab false body T H (rN res Q)):Ans tab (.fn f []) H Q :=
 mp hf rfl rfl (Nat.zero_le _) fun T hl g=>h T hl
theorem OD {a:AV} (hf:tab f=some ⟨1,n,res,body,none⟩) (hn:1<=n) (h:∀ T:Tm,T.length=n->ae T 0=a->WC tab false body T H (rN res Q)):Ans tab (.fn f [a]) H Q :=
 mp hf rfl rfl hn fun T hl g=>h T hl (g 0 (by simp))
theorem ca {a b:AV} (hf:tab f=some ⟨2,n,res,body,none⟩) (hn:2<=n) (h:∀ T:Tm,T.length=n->ae T 0=a->ae T 1=b->WC tab false body T H (rN res Q)):Ans tab (.fn f [a,b]) H Q :=
 mp hf rfl rfl hn fun T hl g=>h T hl (g 0 (by simp)) (g 1 (by simp))
theorem Qg {a b c:AV} (hf:tab f=some ⟨3,n,res,body,none⟩) (hn:3<=n) (h:∀ T:Tm,T.length=n->ae T 0=a->ae T 1=b->ae T 2=c->WC tab false body T H (rN res Q)):Ans tab (.fn f [a,b,c]) H Q :=
 mp hf rfl rfl hn fun T hl g=>h T hl (g 0 (by simp)) (g 1 (by simp)) (g 2 (by simp))
theorem LX {a b c d:AV} (hf:tab f=some ⟨4,n,res,body,none⟩) (hn:4<=n) (h:∀ T:Tm,T.length=n->ae T 0=a->ae T 1=b->ae T 2=c->ae T 3=d->WC tab false body T H (rN res Q)):Ans tab (.fn f [a,b,c,d]) H Q :=
 mp hf rfl rfl hn fun T hl g=>h T hl (g 0 (by simp)) (g 1 (by simp)) (g 2 (by simp)) (g 3 (by simp))
theorem MU {a b:AV} (hf:tab f=some ⟨2,n,res,body,none⟩) (hn:2<=n) (h:∀ T:Tm,T.length=n->ae T 0=a->ae T 1=b->WC tab false body T H (rN res Q)):Ans tab (.ent f [a,b]) H Q :=
 wY hf rfl rfl hn fun T hl g=>h T hl (g 0 (by simp)) (g 1 (by simp))
theorem Ns {a b c:AV} (hf:tab f=some ⟨3,n,res,body,none⟩) (hn:3<=n) (h:∀ T:Tm,T.length=n->ae T 0=a->ae T 1=b->ae T 2=c->WC tab false body T H (rN res Q)):Ans tab (.ent f [a,b,c]) H Q :=
 wY hf rfl rfl hn fun T hl g=>h T hl (g 0 (by simp)) (g 1 (by simp)) (g 2 (by simp))
end
theorem Nr (a:AV) (l:List AV):AP 0 (.tup (a :: l))=some a:=rfl
theorem Np (a b:AV) (l:List AV):AP 1 (.tup (a :: b :: l))=some b:=rfl
theorem No (a b c:AV) (l:List AV):AP 2 (.tup (a :: b :: c :: l))=some c:=rfl
theorem L3 (off b o:Nat):vZ off (.ptr b o)=some (.ptr b (o+off)):=rfl
theorem Fq (k:Option Nat) (off:Nat) (cs:List AV):zq k off (.agg cs)=bA cs off k:=rfl
theorem JM (b o:Nat):vA (.ptr b o)=some (.ptr b o):=rfl
theorem LI (f:Nat) (a c:List AV):vA (.fn (.func f) a c)=some (.fn (.func f) a c):=rfl
def CF (neg:Bool) (n:Nat):AV->AV->Option AV
 | .agg a,.agg b=>(match n with | 0=>AT a b | n+1=>QG (n+1) a b).map fun r=>.bool (if neg then !r else r)
 | _,_=>none
theorem Gg {tab:Nat->Option aq} (ev:Src->AV) (H:Heap) (id:Nat) (Q:AV->Heap->Prop) (neg:Bool) (n:Nat) (x y:Src):jT tab ev H id (.eqAgg neg n x y) Q=Pa (CF neg n (ev x) (ev y)) (fun v=>Q v H) ():=by
 rw [bU,dE tab ev H id Q (o:=.eqAgg neg n x y) (v:=CF neg n (ev x) (ev y)) (fun f a e=>by cases e) (by simp only [aM]; cases ev x <;> cases ev y <;> rfl) rfl]; rfl
def MM (len size:Nat) (k:Option Nat) (v i:AV):Option AV:=aM (fun s=>match s with | .t 0=>v | _=>i) (.indexAgg len size k (.t 0) (.t 1))
theorem zN {tab:Nat->Option aq} (ev:Src->AV) (H:Heap) (id:Nat) (Q:AV->Heap->Prop) (len size:Nat) (k:Option Nat) (x i:Src):jT tab ev H id (.indexAgg len size k x i) Q=Pa (MM len size k (ev x) (ev i)) (fun v=>Q v H) ():=by
 rw [bU,dE tab ev H id Q (o:=.indexAgg len size k x i) (v:=MM len size k (ev x) (ev i)) (fun f a e=>by cases e) (by simp only [aM,MM]) rfl]; rfl
theorem Nj (k:IntKind) (a b:AV):MM 2 1 none (.agg [a,b]) (.int k 0)=some a:=rfl
theorem Ni (k:IntKind) (a b:AV):MM 2 1 none (.agg [a,b]) (.int k 1)=some b:=rfl
theorem L5 (a b c d:Bool):CF false 0 (.agg [.bool a,.bool b]) (.agg [.bool c,.bool d])=some (.bool (a == c && b == d)):=rfl
theorem Lh (k:IntKind) (n:Int):Li .neg (.int k n)=some (.int k (k.wrap (0-n))):=rfl
section
variable (a b:Nat)
theorem FQ (x y:Int):bP .add .int (.int .i64 x) (.int .i64 y)=some (.int .i64 (IntKind.i64.wrap (x+y))):=zA _ _ _
theorem FL (x y:Int):bP .sub .int (.int .i64 x) (.int .i64 y)=some (.int .i64 (IntKind.i64.wrap (x-y))):=zy _ _ _
theorem FN (x y:Int):bP .mul .int (.int .i64 x) (.int .i64 y)=some (.int .i64 (IntKind.i64.wrap (x*y))):=DY _ _ _
theorem FP:bP .add .int (.int .u64 (a:Int)) (.int .u64 (b:Int))=some (.int .u64 (((a+b) % 18446744073709551616:Nat):Int)):=by
 rw [zA,eY]; congr 2
theorem sJ:bP .mul .int (.int .u64 (a:Int)) (.int .u64 (b:Int))=some (.int .u64 (((a*b) % 18446744073709551616:Nat):Int)):=by
 rw [DY,eY]; congr 2
theorem sI (h:b<=18446744073709551616):bP .sub .int (.int .u64 (a:Int)) (.int .u64 (b:Int))=some (.int .u64 (((a+18446744073709551616-b) % 18446744073709551616:Nat):Int)):=by
 rw [zy,eY]; congr 2; omega
theorem CR:bP .and .int (.int .u64 (a:Int)) (.int .u64 4294967295)=some (.int .u64 ((a % 4294967296:Nat):Int)):=by
 have e:(BitVec.ofInt 64 (a:Int) &&& BitVec.ofInt 64 4294967295).toNat=a % 4294967296:=by
  rw [BitVec.toNat_and]
  have h1:(BitVec.ofInt 64 (a:Int)).toNat=a % 2^64:=by simp
  have h2:(BitVec.ofInt 64 4294967295).toNat=2^32-1:=by decide
  rw [h1,h2,Nat.and_two_pow_sub_one_eq_mod]
  omega
 show some (AV.int .u64 (IntKind.u64.wrap ((BitVec.ofInt 64 (a:Int) &&& BitVec.ofInt 64 4294967295).toNat:Nat)))=_
 rw [e,eW (by omega) (by omega)]
theorem pp {k:IntKind} (hb:b<64):bP .shr .int (.int .u64 (a:Int)) (.int k (b:Int))=some (.int .u64 ((a / 2^b:Nat):Int)):=by
 show jq .shr .u64 (a:Int) (b:Int)=_
 unfold jq
 rw [if_neg (by omega)]
 have h1:Nat.min (b:Int).toNat IntKind.u64.bits=b:=by
  have:IntKind.u64.bits=64:=rfl
  rw [this,Int.toNat_natCast]; exact Nat.min_eq_left (by omega)
 simp only [h1]
 congr 2
 rw [Int.fdiv_eq_ediv_of_nonneg _ (Int.le_of_lt (Int.pow_pos (by omega)))]
 simp
theorem FM:bP .shr .int (.int .u64 (a:Int)) (.int .u64 32)=some (.int .u64 ((a / 4294967296:Nat):Int)):=pp a 32 (by omega)
end
theorem B5 (T:Tm) (t:Nat) (v:AV) (r:List (Nat × AV)):lZ T ((t,v) :: r)=lZ (T.set t v) r:=rfl
theorem ES (T:Tm):lZ T []=T:=rfl
def iS (v:AV) (w:Bool) (P Q:Prop) (_:Bz P) (_:Bz Q):Prop:=match v with
 | .bool b=>if b=w then P else Q
 | .tup []=>Q
 | _=>False
theorem AK (b w:Bool) (P Q:Prop):iS (.bool b) w P Q () ()=iteH (b=w) P Q () ():=rfl
theorem Cu (w:Bool) (P Q:Prop):iS (.tup []) w P Q () ()=Q:=rfl
section
variable {tab:Nat->Option aq} {rd:Bool} {T:Tm} {H:Heap}
theorem Ej {Q:Tm->Heap->Prop} {id:Nat} (d:Option Nat) (o:AOp) (t:Nat) (w:Bool) (os:List zL):zI tab id (⟨d,o,some (t,w)⟩ :: os) T H Q =
  iS (ae T t) w (jT tab (Src.ev T) H id o fun v H'=>zI tab (id+1) os (putT T d v) H' Q) (zI tab (id+1) os (putT T d (.tup [])) H Q) () ():=by
 rw [uy,bU]
 have hw:bw T (some (t,w))=match ae T t with | .bool b=>some (b == w) | .tup []=>some false | _=>none:=by
  unfold ae
  rw [List.getD_eq_getElem?_getD]
  cases h:T[t]? with
  | none=>simp only [bw,h]; rfl
  | some v =>
   simp only [bw,h,Option.getD_some]
   cases v with
   | tup vs=>cases vs <;> rfl
   | _=>rfl
 conv=>lhs; unfold sS
 simp only [hw,iS]
 cases ae T t with
 | bool b=>cases b <;> cases w <;> rfl
 | tup vs=>cases vs <;> rfl
 | _=>rfl
theorem BB {Q:Ex->Tm->Heap->Prop} (ops:List zL):WC tab rd (.region ops) T H Q=LC H.next (H.up ops.length) (fun id H'=>zI tab id ops T H' (Q .nrm)) ():=Ek ops
theorem CM (P Q:Prop):DQ (.bool true) P Q () ()=P:=rfl
theorem A6 (P Q:Prop):DQ (.bool false) P Q () ()=Q:=rfl
end
def J3 (id id1 i n c k:Nat) (body:ACode):ACode :=
 .block id (.loop (.seq (.region [⟨some c,.bin .lss .int (.t i) (.t n),none⟩]) (.seq (.cond (.t c) .skip (.exit id)) (.seq (.block id1 body)
  (.region [⟨some k,.bin .add .int (.t i) (.c (.int .i64 1)),none⟩,⟨some i,.mv (.t k),none⟩])))))
def Is (id:Nat) (c:ACode):ACode:=.block id (.loop c)
def gE:ACode->Bool
 | .rangeM ..=>false
 | .scopeL ..=>false
 | .seq a b=>gE a && gE b
 | .cond _ a b=>gE a && gE b
 | .block _ a=>gE a
 | .loop a=>gE a
 | .scope a=>gE a
 | _=>true
structure Same (D:List Nat) (T T':Tm):Prop where
 len:T'.length=T.length
 at_:∀ s,s ∉ D->ae T' s=ae T s
theorem Same.refl (D:List Nat) (T:Tm):Same D T T:=⟨rfl,fun _ _=>rfl⟩
theorem Same.trans {D D':List Nat} {T T' T'':Tm} (h:Same D T T') (h':Same D' T' T''):Same (D++D') T T'' :=
 ⟨h'.len.trans h.len,fun s hs=>(h'.at_ s fun h1=>hs (List.mem_append_right _ h1)).trans (h.at_ s fun h1=>hs (List.mem_append_left _ h1))⟩
theorem Same.wide {D D':List Nat} {T T':Tm} (h:Same D T T') (hd:∀ s,s∈D->s∈D'):Same D' T T':=⟨h.len,fun s hs=>h.at_ s fun h1=>hs (hd s h1)⟩
theorem jP (T:Tm) (i j:Nat) (v:AV) (h:i≠j):ae (T.set i v) j=ae T j:=by
 unfold ae
 rw [List.getD_eq_getElem?_getD,List.getD_eq_getElem?_getD,List.getElem?_set]
 rw [if_neg h]
theorem Fj (T:Tm) (i j:Nat) (v:AV):ae (T.set i v) j=if i=j then (if i<T.length then v else .undef) else ae T j:=by
 by_cases h:i<T.length
 ·rw [ri T i j v h]; simp [h]
 ·unfold ae
  rw [List.set_eq_of_length_le (by omega)]
  by_cases hij:i=j
  ·subst hij; rw [List.getD_eq_getElem?_getD,List.getElem?_eq_none (by omega)]; simp [h]
  ·simp [hij]
theorem In:((0:Nat):Int)=0:=rfl
theorem Same.put (T:Tm) (d:Option Nat) (v:AV):Same d.toList T (putT T d v):=by
 cases d with
 | none=>exact Same.refl _ _
 | some d=>exact ⟨by simp [putT],fun s hs=>jP T d s v fun e=>hs (by simp [e])⟩
theorem xJ {cal:y8}:∀ (os:List zL) (id:Nat) (T:Tm) (H:Heap) (T':Tm) (H':Heap),tZ cal id os T H=some (T',H')->Same (DK os) T T'
 | [],id,T,H,T',H',h=>by cases h; exact Same.refl _ _
 | o :: os,id,T,H,T',H',h=>by
  have key:∀ v H1,tZ cal (id+1) os (putT T o.dst v) H1=some (T',H')->Same (DK (o :: os)) T T':=fun v H1 h1=>by
   refine ((Same.put T o.dst v).trans (xJ os _ _ _ _ _ h1)).wide fun s hs=>?_
   unfold DK at hs ⊢
   cases hd:o.dst with
   | none=>rw [List.filterMap_cons_none hd]; simpa [hd] using hs
   | some d=>rw [List.filterMap_cons_some hd]; simpa [hd] using hs
  unfold tZ at h
  split at h
  ·split at h
   ·exact key _ _ h
   ·cases h
  ·exact key _ _ h
  ·cases h
theorem sY:∀ (ds:List ir) (vs:List AV) (T:Tm),Same (ds.filterMap (·.dst)) T (e9 T ds vs)
 | [],vs,T=>by cases vs <;> exact Same.refl _ _
 | d :: ds,[],T=>⟨rfl,fun _ _=>rfl⟩
 | d :: ds,v :: vs,T=>by
  refine ((Same.put T d.dst v).trans (sY ds vs _)).wide fun s hs=>?_
  cases hd:d.dst with
  | none=>rw [List.filterMap_cons_none hd]; simpa [hd] using hs
  | some d'=>rw [List.filterMap_cons_some hd]; simpa [hd] using hs
theorem xR {D:List Nat} {body:Tm->Heap->Option (Ex × Tm × Heap)} (hb:∀ T H x T' H',body T H=some (x,T',H')->Same D T T') :
  ∀ (n:Nat) (T:Tm) (H:Heap) (x:Ex) (T':Tm) (H':Heap),vS body n T H=some (x,T',H')->Same D T T'
 | 0,_,_,_,_,_,h=>by cases h
 | n+1,T,H,x,T',H',h=>by
  unfold vS at h
  split at h
  ·rename_i T1 H1 h1
   exact ((hb _ _ _ _ _ h1).trans (xR hb n _ _ _ _ _ h)).wide fun s hs=>by simpa using hs
  ·exact hb _ _ _ _ _ h
theorem OK {cal:y8} {m:Nat} {rd:Bool}:∀ (c:ACode) (T:Tm) (H:Heap) (x:Ex) (T':Tm) (H':Heap),gE c=true->aG cal m rd c T H=some (x,T',H')->Same (eF c) T T'
 | .skip,T,H,x,T',H',_,h=>by cases h; exact Same.refl _ _
 | .exit _,T,H,x,T',H',_,h=>by cases h; exact Same.refl _ _
 | .goto _,T,H,x,T',H',_,h=>by cases h; exact Same.refl _ _
 | .ret,T,H,x,T',H',_,h=>by cases h; exact Same.refl _ _
 | .region os,T,H,x,T',H',_,h=>by
  simp only [aG] at h
  split at h
  ·rename_i h1; cases h; exact xJ _ _ _ _ _ _ h1
  ·cases h
 | .draw ds late,T,H,x,T',H',_,h=>by
  simp only [aG] at h
  split at h
  ·rename_i h1
   cases h
   unfold AX at h1
   split at h1
   ·cases h1
   ·split at h1
    ·cases h1; exact sY _ _ _
    ·cases h1
  ·cases h
 | .drawF ..,T,H,x,T',H',_,h=>by cases h
 | .seq a b,T,H,x,T',H',hp,h=>by
  simp only [gE,Bool.and_eq_true] at hp
  simp only [aG] at h
  split at h
  ·rename_i T1 H1 h1
   exact (OK a _ _ _ _ _ hp.1 h1).trans (OK b _ _ _ _ _ hp.2 h)
  ·exact (OK a _ _ _ _ _ hp.1 h).wide fun s hs=>List.mem_append_left _ hs
 | .cond c a b,T,H,x,T',H',hp,h=>by
  simp only [gE,Bool.and_eq_true] at hp
  simp only [aG] at h
  split at h
  ·exact (OK a _ _ _ _ _ hp.1 h).wide fun s hs=>List.mem_append_left _ hs
  ·exact (OK b _ _ _ _ _ hp.2 h).wide fun s hs=>List.mem_append_right _ hs
  ·cases h
 | .block id a,T,H,x,T',H',hp,h=>by
  simp only [aG] at h
  split at h
  ·rename_i h1
   split at h
   ·cases h; exact OK a _ _ _ _ _ hp h1
   ·cases h; exact OK a _ _ _ _ _ hp h1
  ·exact OK a _ _ _ _ _ hp h
 | .loop a,T,H,x,T',H',hp,h=>by
  simp only [aG] at h
  exact xR (fun T H x T' H' h1=>OK a _ _ _ _ _ hp h1) _ _ _ _ _ _ h
 | .scope a,T,H,x,T',H',hp,h=>by
  simp only [aG] at h
  split at h
  ·cases h
  ·exact OK a _ _ _ _ _ hp h
 | .rangeFunc f ps asg body,T,H,x,T',H',_,h=>by
  have:T'=T:=by
   simp only [aG] at h
   split at h
   ·cases h
   ·split at h
    ·split at h
     ·split at h
      ·cases h; rfl
      ·split at h <;> first | (cases h; rfl) | cases h
      ·cases h
     ·cases h
    ·cases h
  subst this; exact Same.refl _ _
 | .rangeM ..,T,H,x,T',H',hp,h=>by cases hp
 | .scopeL ..,T,H,x,T',H',hp,h=>by cases hp
def WB (tab:Nat->Option aq) (rd:Bool) (c:ACode) (T:Tm) (H:Heap) (Q:Ex->Tm->Heap->Prop):Prop:=∃ x T' H',IL tab rd c T H x T' H'/\Q x T' H'
section
variable {tab:Nat->Option aq} {rd:Bool}
theorem WC.wb {c:ACode} {T:Tm} {H:Heap} {Q:Ex->Tm->Heap->Prop} (h:WC tab rd c T H Q):WB tab rd c T H Q:=OQ c T H Q h.run
theorem WB.same {c:ACode} {T:Tm} {H:Heap} {Q:Ex->Tm->Heap->Prop} (h:WB tab rd c T H Q) (hp:gE c=true):WB tab rd c T H fun x T' H'=>Same (eF c) T T'/\Q x T' H':=by
 obtain ⟨x,T',H',⟨N,g⟩,hq⟩:=h
 exact ⟨x,T',H',⟨N,g⟩,OK c _ _ _ _ _ hp (g N N (Nat.le_refl _) (Nat.le_refl _)),hq⟩
theorem WB.mono {c:ACode} {T:Tm} {H:Heap} {Q Q':Ex->Tm->Heap->Prop} (h:WB tab rd c T H Q) (hq:∀ x T' H',Q x T' H'->Q' x T' H'):WB tab rd c T H Q':=by
 obtain ⟨x,T',H',hb,h⟩:=h
 exact ⟨x,T',H',hb,hq _ _ _ h⟩
theorem uC {a b:ACode} {T:Tm} {H:Heap} {Q:Ex->Tm->Heap->Prop} (h:WB tab rd a T H fun x T' H'=>match x with | .nrm=>WB tab rd b T' H' Q | x=>Q x T' H'):WB tab rd (.seq a b) T H Q:=by
 obtain ⟨x,T1,H1,⟨N1,g1⟩,h1⟩:=h
 by_cases hx:x=.nrm
 ·subst hx
  obtain ⟨y,T2,H2,⟨N2,g2⟩,h2⟩:=h1
  refine ⟨y,T2,H2,⟨N1+N2,fun m n hm hn=>?_⟩,h2⟩
  simp only [aG,g1 m n (by omega) (by omega)]
  exact g2 m n (by omega) (by omega)
 ·refine ⟨x,T1,H1,⟨N1,fun m n hm hn=>?_⟩,?_⟩
  ·simp only [aG,g1 m n hm hn]
   all_goals (cases x <;> first | rfl | exact absurd rfl hx)
  ·cases x <;> first | exact h1 | exact absurd rfl hx
theorem Jn {c:Src} {a b:ACode} {T:Tm} {H:Heap} {Q:Ex->Tm->Heap->Prop} {v:Bool} (hc:c.ev T=.bool v) (h:if v=true then WB tab rd a T H Q else WB tab rd b T H Q):WB tab rd (.cond c a b) T H Q:=by
 cases v with
 | true =>
  obtain ⟨x,T1,H1,⟨N1,g1⟩,h1⟩:=h
  exact ⟨x,T1,H1,⟨N1,fun m n hm hn=>by simp only [aG,hc]; exact g1 m n hm hn⟩,h1⟩
 | false =>
  obtain ⟨x,T1,H1,⟨N1,g1⟩,h1⟩:=h
  exact ⟨x,T1,H1,⟨N1,fun m n hm hn=>by simp only [aG,hc]; exact g1 m n hm hn⟩,h1⟩
theorem Gw {id:Nat} {a:ACode} {T:Tm} {H:Heap} {Q:Ex->Tm->Heap->Prop} (h:WB tab rd a T H (qH id Q)):WB tab rd (.block id a) T H Q:=by
 obtain ⟨x,T1,H1,⟨N1,g1⟩,h1⟩:=h
 cases x with
 | exit id' =>
  simp only [qH] at h1
  by_cases hi:id'=id
  ·rw [if_pos hi] at h1
   exact ⟨.nrm,T1,H1,⟨N1,fun m n hm hn=>by simp only [aG,g1 m n hm hn,if_pos hi]⟩,h1⟩
  ·rw [if_neg hi] at h1
   exact ⟨.exit id',T1,H1,⟨N1,fun m n hm hn=>by simp only [aG,g1 m n hm hn,if_neg hi]⟩,h1⟩
 | nrm=>exact ⟨_,T1,H1,⟨N1,fun m n hm hn=>by simp only [aG,g1 m n hm hn]⟩,h1⟩
 | goto l=>exact ⟨_,T1,H1,⟨N1,fun m n hm hn=>by simp only [aG,g1 m n hm hn]⟩,h1⟩
 | ret=>exact ⟨_,T1,H1,⟨N1,fun m n hm hn=>by simp only [aG,g1 m n hm hn]⟩,h1⟩
theorem Jl {T:Tm} {H:Heap} {Q:Ex->Tm->Heap->Prop} (h:Q .nrm T H):WB tab rd .skip T H Q:=⟨.nrm,T,H,⟨0,fun _ _ _ _=>rfl⟩,h⟩
theorem Jm {i:Nat} {T:Tm} {H:Heap} {Q:Ex->Tm->Heap->Prop} (h:Q (.exit i) T H):WB tab rd (.exit i) T H Q:=⟨.exit i,T,H,⟨0,fun _ _ _ _=>rfl⟩,h⟩
theorem yA {body:ACode} {Q:Ex->Tm->Heap->Prop} (Inv:Nat->Tm->Heap->Prop)
  (hr:∀ k T H,Inv k T H->WB tab rd body T H (Ck Inv k Q)):∀ (k:Nat) (T:Tm) (H:Heap),Inv k T H->WB tab rd (.loop body) T H Q:=by
 have key:∀ (k:Nat) (T:Tm) (H:Heap),Inv k T H->∃ x T' H',Q x T' H'/\∃ N,∀ m n j,N<=m->N<=n->N<=j->vS (aG (jC tab dK m n) m rd body) j T H=some (x,T',H'):=by
  intro k
  induction k using Nat.strongRecOn with
  | _ k ih =>
   intro T H hI
   obtain ⟨x,T1,H1,⟨N1,g1⟩,h1⟩:=hr k T H hI
   by_cases hx:x=.nrm
   ·subst hx
    obtain ⟨k',hk,hI'⟩:=h1
    obtain ⟨y,T2,H2,hq,N2,g2⟩:=ih k' hk T1 H1 hI'
    refine ⟨y,T2,H2,hq,N1+N2+1,fun m n j hm hn hj=>?_⟩
    obtain ⟨j',rfl⟩:∃ j',j=j'+1:=⟨j-1,by omega⟩
    unfold vS
    rw [g1 m n (by omega) (by omega)]
    exact g2 m n j' (by omega) (by omega) (by omega)
   ·refine ⟨x,T1,H1,by cases x <;> first | exact h1 | exact absurd rfl hx,N1+1,fun m n j hm hn hj=>?_⟩
    obtain ⟨j',rfl⟩:∃ j',j=j'+1:=⟨j-1,by omega⟩
    unfold vS
    rw [g1 m n (by omega) (by omega)]
    cases x <;> first | rfl | exact absurd rfl hx
 intro k T H hI
 obtain ⟨x,T',H',hq,N,g⟩:=key k T H hI
 exact ⟨x,T',H',⟨N,fun m n hm hn=>g m n m hm hn hm⟩,hq⟩
theorem WB.wcLoop {id:Nat} {body:ACode} {T:Tm} {H:Heap} {Q:Ex->Tm->Heap->Prop} (h:WB tab rd (.loop body) T H (qH id Q)):WC tab rd (.block id (.loop body)) T H Q:=by
 rw [zO]
 exact ⟨h⟩
def Fp (id id1:Nat) (P:Tm->Heap->Prop) (Q:Ex->Tm->Heap->Prop) (x:Ex) (T:Tm) (H:Heap):Prop:=match x with
 | .nrm=>P T H
 | .exit e=>if e=id1 then P T H else if e=id then Q .nrm T H else Q (.exit e) T H
 | x=>Q x T H
section
variable {id id1:Nat} {P:Tm->Heap->Prop} {Q:Ex->Tm->Heap->Prop} {T:Tm} {H:Heap}
theorem HV:Fp id id1 P Q .nrm T H=P T H:=rfl
theorem HU:Fp id id1 P Q .ret T H=Q .ret T H:=rfl
theorem Fm (l:Nat):Fp id id1 P Q (.goto l) T H=Q (.goto l) T H:=rfl
theorem Fo (e:Nat):Fp id id1 P Q (.exit e) T H=iteH (e=id1) (P T H) (iteH (e=id) (Q .nrm T H) (Q (.exit e) T H) () ()) () ():=rfl
end
def Kz (L i n c k:Nat) (D live:List Nat):Bool :=
 decide (i<L) && decide (n<L) && decide (c<L) && decide (k<L) && i != n && i != c && i != k && n != c && n != k && c != k && !D.contains i && !D.contains n && live.all fun s=>s != i && s != c && s != k
theorem ak {id id1 i n c k:Nat} {body:ACode} {T:Tm} {H:Heap} {Q:Ex->Tm->Heap->Prop} {L a N:Nat} (H0:Heap) (live:List Nat) (P:Nat->List AV->Heap->Prop)
  (hl:T.length=L) (ha:ae T i=.int .i64 (a:Int)) (hn:ae T n=.int .i64 (N:Int)) (haN:a<=N) (hN:N<9223372036854775807) (hok:Kz L i n c k (eF body) live=true) (hp:gE body=true)
  (hup:∀ j vs H m,P j vs H->P j vs (H.up m))
  (hk0:Kp H0 H) (h0:P a (live.map (ae T)) H)
  (hb:∀ j T1 H1,a<=j->j<N->T1.length=L->ae T1 i=.int .i64 (j:Int)->Same (i :: c :: k :: eF body) T T1->Kp H0 H1->P j (live.map (ae T1)) H1 ->
   WC tab rd body T1 H1 (Fp id id1 (fun T2 H2=>Kp H0 H2/\P (j+1) (live.map (ae T2)) H2) Q))
  (he:∀ T1 H1,T1.length=L->Same (i :: c :: k :: eF body) T T1->Kp H0 H1->P N (live.map (ae T1)) H1->Q .nrm T1 H1) :
  WC tab rd (J3 id id1 i n c k body) T H Q:=by
 have hok':=hok
 simp only [Kz,Bool.and_eq_true,decide_eq_true_eq,bne_iff_ne,ne_eq,Bool.not_eq_true',List.all_eq_true] at hok
 obtain ⟨⟨⟨⟨⟨⟨⟨⟨⟨⟨⟨⟨o1,o2⟩,o3⟩,o4⟩,o5⟩,o6⟩,o7⟩,o8⟩,o9⟩,o10⟩,o11⟩,o12⟩,o13⟩:=hok
 have hDi:i ∉ eF body:=fun h=>by rw [List.contains_iff_mem.2 h] at o11; cases o11
 have hDn:n ∉ eF body:=fun h=>by rw [List.contains_iff_mem.2 h] at o12; cases o12
 have hnS:n ∉ i :: c :: k :: eF body:=by
  simp only [List.mem_cons,not_or]; exact ⟨fun h=>o5 h.symm,o8,o9,hDn⟩
 have hlive:∀ {T1 T2:Tm},(∀ s,s≠i->s≠c->s≠k->ae T2 s=ae T1 s)->live.map (ae T2)=live.map (ae T1):=fun h=>by
  refine List.map_congr_left fun s hs=>?_
  obtain ⟨⟨q1,q2⟩,q3⟩:=o13 s hs
  exact h s q1 q2 q3
 unfold J3
 refine WB.wcLoop ?_
 refine yA (fun r T1 H1=>∃ j,r=N-j/\a<=j/\j<=N/\T1.length=L/\ae T1 i=.int .i64 (j:Int)/\Same (i :: c :: k :: eF body) T T1/\Kp H0 H1/\P j (live.map (ae T1)) H1) ?_ (N-a) T H ⟨a,rfl,Nat.le_refl _,haN,hl,ha,Same.refl _ _,hk0,h0⟩
 rintro r T1 H1 ⟨j,rfl,haj,hjN,hl1,hi1,hs1,hk1,hP1⟩
 have hn1:ae T1 n=.int .i64 (N:Int):=(hs1.at_ n hnS).trans hn
 refine uC (WC.wb ?_)
 rw [BB]
 simp only [yN,uz,yu,BC,L4,hi1,hn1,DZ,rQ,gL]
 have hk2:Kp H0 (H1.up 1):=hk1.up 1
 have hP2:P j (live.map (ae (T1.set c (.bool (decide ((j:Int)<(N:Int))))))) (H1.up 1):=by
  rw [hlive (T1:=T1) fun s q1 q2 q3=>jP _ _ _ _ (Ne.symm q2)]
  exact hup _ _ _ _ hP1
 have hs2:Same (i :: c :: k :: eF body) T (T1.set c (.bool (decide ((j:Int)<(N:Int))))) :=
  (hs1.trans (Same.put T1 (some c) (.bool (decide ((j:Int)<(N:Int)))))).wide fun s hs=>by
   rcases List.mem_append.1 hs with hs | hs
   ·exact hs
   ·simp only [Option.toList_some,List.mem_singleton] at hs; subst hs; simp
 have hl2:(T1.set c (.bool (decide ((j:Int)<(N:Int))))).length=L:=by simp [hl1]
 have hi2:ae (T1.set c (.bool (decide ((j:Int)<(N:Int))))) i=.int .i64 (j:Int):=by rw [jP _ _ _ _ (Ne.symm o6)]; exact hi1
 have hc2:ae (T1.set c (.bool (decide ((j:Int)<(N:Int))))) c=.bool (decide ((j:Int)<(N:Int))):=by
  rw [ri _ _ _ _ (by omega),if_pos rfl]
 generalize hT2:T1.set c (.bool (decide ((j:Int)<(N:Int))))=T2 at hP2 hs2 hl2 hi2 hc2 ⊢
 refine uC (Jn (v:=decide ((j:Int)<(N:Int))) hc2 ?_)
 by_cases hj:j<N
 ·have e1:decide ((j:Int)<(N:Int))=true:=by simp; omega
  rw [if_pos e1]
  refine Jl ?_
  refine uC (Gw ?_)
  refine (((hb j T2 (H1.up 1) haj hj hl2 hi2 hs2 hk2 hP2).wb).same hp).mono ?_
  rintro x T3 H3 ⟨hs3,hq⟩
  have fin:Kp H0 H3/\P (j+1) (live.map (ae T3)) H3->WB tab rd (.region [⟨some k,.bin .add .int (.t i) (.c (.int .i64 1)),none⟩,⟨some i,.mv (.t k),none⟩]) T3 H3 (Ck (fun r T1 H1=>∃ j,r=N-j/\a<=j/\j<=N/\T1.length=L/\ae T1 i=.int .i64 (j:Int)/\Same (i :: c :: k :: eF body) T T1/\Kp H0 H1/\P j (live.map (ae T1)) H1) (N-j) (qH id Q)):=by
   rintro ⟨hk3,hP3⟩
   have hi3:ae T3 i=.int .i64 (j:Int):=(hs3.at_ i hDi).trans hi2
   have hl3:T3.length=L:=hs3.len.trans hl2
   have hwr:IntKind.i64.wrap ((j:Int)+1)=((j+1:Nat):Int):=by rw [wrap_i64 (by omega) (by omega)]; simp
   refine WC.wb ?_
   rw [BB]
   simp only [yN,uz,yu,BC,Su,C4,L4,MT,hi3,zA,rQ,gL,hwr]
   rw [ri _ _ _ _ (by omega),if_pos rfl,Az]
   refine ⟨N-(j+1),by omega,j+1,rfl,by omega,by omega,by simp [hl3],?_,?_,hk3.up _,?_⟩
   ·rw [ri _ _ _ _ (by simp; omega),if_pos rfl]
   ·refine ((hs2.trans hs3).trans ((Same.put T3 (some k) _).trans (Same.put _ (some i) _))).wide fun s hs=>?_
    rcases List.mem_append.1 hs with hs | hs
    ·rcases List.mem_append.1 hs with hs | hs
     ·exact hs
     ·exact List.mem_cons_of_mem _ (List.mem_cons_of_mem _ (List.mem_cons_of_mem _ hs))
    ·rcases List.mem_append.1 hs with hs | hs
     ·simp only [Option.toList_some,List.mem_singleton] at hs; subst hs; simp
     ·simp only [Option.toList_some,List.mem_singleton] at hs; subst hs; simp
   ·rw [hlive (T1:=T3) fun s q1 q2 q3=>by rw [jP _ _ _ _ (Ne.symm q1),jP _ _ _ _ (Ne.symm q3)]]
    exact hup _ _ _ _ hP3
  cases x with
  | nrm=>exact fin hq
  | exit e =>
   simp only [Fp] at hq
   simp only [qH]
   by_cases h1:e=id1
   ·rw [if_pos h1] at hq ⊢; exact fin hq
   ·rw [if_neg h1] at hq ⊢
    simp only [Ck,qH]; exact hq
  | goto l=>exact hq
  | ret=>exact hq
 ·have e1:decide ((j:Int)<(N:Int))=false:=by simp; omega
  have:j=N:=by omega
  subst this
  rw [if_neg (by rw [e1]; simp)]
  refine Jm ?_
  show qH id Q (.exit id) T2 (H1.up 1)
  simp only [qH,if_pos]
  exact he T2 (H1.up 1) hl2 hs2 hk2 hP2
def K6 (id:Nat) (P:Tm->Heap->Prop) (Q:Ex->Tm->Heap->Prop) (x:Ex) (T:Tm) (H:Heap):Prop:=match x with
 | .nrm=>P T H
 | .exit e=>if e=id then Q .nrm T H else Q (.exit e) T H
 | x=>Q x T H
section
variable {id:Nat} {P:Tm->Heap->Prop} {Q:Ex->Tm->Heap->Prop} {T:Tm} {H:Heap}
theorem Jh:K6 id P Q .nrm T H=P T H:=rfl
theorem Jg:K6 id P Q .ret T H=Q .ret T H:=rfl
theorem Gs (l:Nat):K6 id P Q (.goto l) T H=Q (.goto l) T H:=rfl
theorem Gt (e:Nat):K6 id P Q (.exit e) T H=iteH (e=id) (Q .nrm T H) (Q (.exit e) T H) () ():=rfl
end
theorem bf {id:Nat} {c:ACode} {T:Tm} {H:Heap} {Q:Ex->Tm->Heap->Prop} {L:Nat} (H0:Heap) (live:List Nat) (P:Nat->List AV->Heap->Prop) (k0:Nat)
  (hl:T.length=L) (hp:gE c=true) (hk0:Kp H0 H) (h0:P k0 (live.map (ae T)) H)
  (hb:∀ k T1 H1,T1.length=L->Same (eF c) T T1->Kp H0 H1->P k (live.map (ae T1)) H1->WC tab rd c T1 H1 (K6 id (fun T2 H2=>Kp H0 H2/\∃ k',k'<k/\P k' (live.map (ae T2)) H2) Q)):WC tab rd (Is id c) T H Q:=by
 unfold Is
 refine WB.wcLoop ?_
 refine yA (fun k T1 H1=>T1.length=L/\Same (eF c) T T1/\Kp H0 H1/\P k (live.map (ae T1)) H1) ?_ k0 T H ⟨hl,Same.refl _ _,hk0,h0⟩
 rintro k T1 H1 ⟨hl1,hs1,hk1,hP1⟩
 refine ((hb k T1 H1 hl1 hs1 hk1 hP1).wb.same hp).mono ?_
 rintro x T2 H2 ⟨hs2,hq⟩
 cases x with
 | nrm =>
  obtain ⟨hk2,k',hk',hP2⟩:=hq
  exact ⟨k',hk',hs2.len.trans hl1,(hs1.trans hs2).wide fun s hs=>by simpa using hs,hk2,hP2⟩
 | exit e=>exact hq
 | goto l=>exact hq
 | ret=>exact hq
end
def Nh (e:Option Ent) (k:Option Nat) (o:Nat):Option AV:=match e with
 | some (.cells cs _ _)=>bA cs o k
 | _=>none
theorem LO (H:Heap) (k:Option Nat) (b o:Nat):aZ H k (.ptr b o)=Nh (H.get b) k o:=by
 simp only [aZ,Nh]
 cases H.get b with
 | none=>rfl
 | some e=>cases e <;> rfl
theorem Ff (cs:List AV) (ty:Nat) (rw:Bool) (k:Option Nat) (o:Nat):Nh (some (.cells cs ty rw)) k o=bA cs o k:=rfl
def By (e:Option Ent) (n o:Nat) (v:AV):Option Ent:=match e with
 | some (.cells cs ty true)=>if v.cells.length=n/\o+n<=cs.length/\v.cells.all AV.one=true then some (.cells (cs.take o++v.cells++cs.drop (o+n)) ty true) else none
 | _=>none
theorem Lq (H:Heap) (n b o:Nat) (v:AV):nJ H n (.ptr b o) v=(By (H.get b) n o v).map fun e=>H.put b e:=by
 simp only [nJ,By]
 split
 ·rename_i cs ty h
  simp only [h]
  split <;> rfl
 ·rename_i h
  split
  ·rename_i cs ty hg
   exact absurd hg (h cs ty)
  ·rfl
def fits (v:AV) (n:Nat) (cs:List AV):Prop:=v.cells=cs/\cs.length=n/\cs.all AV.one=true
theorem i9 {cs vs:List AV} {ty n o:Nat} {v:AV} (h:fits v n vs) (ho:o+n<=cs.length):By (some (.cells cs ty true)) n o v=some (.cells (cs.take o++vs++cs.drop (o+n)) ty true):=by
 obtain ⟨rfl,h2,h3⟩:=h
 simp only [By]
 rw [if_pos ⟨h2,ho,h3⟩]
theorem E5 {α β:Type} (f:α->β) (a:α):(some a).map f=some (f a):=rfl
theorem NH (a:AV) (l:List AV):bA (a :: l) 0 none=some a:=rfl
theorem NG (a b:AV) (l:List AV):bA (a :: b :: l) 1 none=some b:=rfl
theorem NF (a b c:AV) (l:List AV):bA (a :: b :: c :: l) 2 none=some c:=rfl
theorem M9 (a b:AV):bA [a,b] 0 (some 2)=some (.agg [a,b]):=rfl
theorem M8 (a b c:AV):bA [a,b,c] 0 (some 3)=some (.agg [a,b,c]):=rfl
def One (v:AV):Prop:=v.cells=[v]/\v.one=true
theorem One.fits {v:AV} (h:One v):fits v 1 [v]:=⟨h.1,rfl,by simp [h.2]⟩
theorem aF (b:Bool):One (.bool b):=⟨rfl,rfl⟩
theorem aR (k:IntKind) (n:Int):One (.int k n):=⟨rfl,rfl⟩
theorem bB (f:Fn) (a b:List AV):One (.fn f a b):=⟨rfl,rfl⟩
theorem aY (b o:Nat):One (.ptr b o):=⟨rfl,rfl⟩
theorem aV:One .nilSl:=⟨rfl,rfl⟩
theorem aU (b o n c z:Nat) (x:Bool):One (.own b o n c z x):=⟨rfl,rfl⟩
theorem bI (cs:List AV) (n:Nat):One (.sl cs n):=⟨rfl,rfl⟩
theorem bc (b:Nat):One (.map b):=⟨rfl,rfl⟩
theorem Rd.one {H:Heap} {sz:Nat} {v:AV} {cells:List AV} (h:Rd H sz v cells):One v:=by
 obtain ⟨-,h1,n,hn,-⟩:=h
 cases v <;> first | exact ⟨rfl,rfl⟩ | exact absurd rfl (h1 _) | (simp [fI] at hn; done)
theorem Ir {v:AV} (h:One v):iq v=some [v]:=by
 unfold iq; rw [h.1]; simp [h.2]
theorem DG {a b:AV} (ha:One a) (hb:One b):fits (.agg [a,b]) 2 [a,b]:=⟨rfl,rfl,by simp [ha.2,hb.2]⟩
theorem MZ {a b:AV} (ha:One a) (hb:One b):iq (.agg [a,b])=some [a,b]:=by
 simp [iq,AV.cells,ha.2,hb.2]
theorem gW {x y a b:AV} (ha:One a) (hb:One b):gH [x,y] [((0,1),a),((1,1),b)]=some (.agg [a,b]):=by
 simp [gH,cM,ha.1,ha.2,hb.1,hb.2]
theorem MS {x a:AV} (ha:One a):cM [x] [((0,1),a)]=some [a]:=by simp [cM,ha.1,ha.2]
theorem MR {x y a b:AV} (ha:One a) (hb:One b):cM [x,y] [((0,1),a),((1,1),b)]=some [a,b]:=by simp [cM,ha.1,ha.2,hb.1,hb.2]
theorem Nb {cs:List AV} {ty o:Nat} {v:AV} (h:One v):By (some (.cells cs ty true)) 1 o v=if o<cs.length then some (.cells (cs.set o v) ty true) else none:=by
 simp only [By,h.1]
 by_cases ho:o<cs.length
 ·rw [if_pos ⟨rfl,by omega,by simp [h.2]⟩,if_pos ho]
  congr 2
  rw [List.set_eq_take_append_cons_drop,if_pos ho]
  simp
 ·rw [if_neg (fun h=>ho (by have:=h.2.1; omega)),if_neg ho]
theorem Na {x y a b:AV} {ty:Nat} (ha:One a) (hb:One b):By (some (.cells [x,y] ty true)) 2 0 (.agg [a,b])=some (.cells [a,b] ty true):=by
 simp [By,AV.cells,ha.2,hb.2]
theorem MQ {x y z a b c:AV} (ha:One a) (hb:One b) (hc:One c):cM [x,y,z] [((0,1),a),((1,1),b),((2,1),c)]=some [a,b,c]:=by simp [cM,ha.1,ha.2,hb.1,hb.2,hc.1,hc.2]
theorem LY {p q r t a b c d:AV} (ha:One a) (hb:One b) (hc:One c) (hd:One d):cM [p,q,r,t] [((0,2),.agg [a,b]),((2,2),.agg [c,d])]=some [a,b,c,d]:=by
 simp [cM,AV.cells,ha.2,hb.2,hc.2,hd.2]
theorem HW {p q a b:AV} (ha:One a) (hb:One b):cM [p,q] [((0,2),.agg [a,b])]=some [a,b]:=by
 simp [cM,AV.cells,ha.2,hb.2]
theorem Mc (z:List AV):gH z []=some (.agg z):=rfl
theorem LS {H H':Heap} {b:Nat} {e:Ent} (h1:H.next<=b) (h2:b<H'.next):Kp H (H'.put b e) ↔ Kp H H':=by
 refine ⟨fun h=>⟨h.wf0,fun c e' hc=>?_,h.le,fun c hc=>?_⟩,fun h=>h.put h1 h2⟩
 ·by_cases hb:c=b
  ·rw [hb]; exact h2
  ·exact h.wf c e' (by rw [au hb]; exact hc)
 ·have:=h.same c hc
  rwa [au (by omega)] at this
theorem bh {H:Heap} {b:Nat} {e:Ent} (h:H.get b=none):Sub H (H.put b e):=(Sub.refl H).put h e
theorem JW {H H':Heap} {b:Nat} (h1:H.next<=b) (h:Kp H H'):Kp H (H'.kill b) ↔ True:=⟨fun _=>trivial,fun _=>h.kill h1⟩
theorem MI {H H':Heap} {k:Nat} (h:Kp H H'):Kp H (H'.up k) ↔ True:=⟨fun _=>trivial,fun _=>h.up k⟩
theorem LQ {H:Heap} {k:Nat} (h:Wf H):Kp H (H.up k) ↔ True:=⟨fun _=>trivial,fun _=>(Kp.refl h).up k⟩
theorem JV {H:Heap} (h:Wf H):Kp H H ↔ True:=⟨fun _=>trivial,fun _=>Kp.refl h⟩
theorem K7 {H:Heap} {b:Nat} {e:Ent} (h2:b<H.next):Wf (H.put b e) ↔ Wf H:=by
 refine ⟨fun h c e' hc=>?_,fun h=>h.put h2 e⟩
 by_cases hb:c=b
 ·rw [hb]; exact h2
 ·exact h c e' (by rw [au hb]; exact hc)
theorem Mr {H:Heap} {k:Nat} (h:Wf H):Wf (H.up k) ↔ True:=⟨fun _=>trivial,fun _=>h.bump k⟩
theorem Ji {H:Heap} {b:Nat} (h:Wf H):Wf (H.kill b) ↔ True:=⟨fun _=>trivial,fun _=>h.kill b⟩
structure Ldd (H:Heap) (k:Option Nat) (p w:AV):Prop where
 ld:aZ H k p=some w
 put:∀ H' b e,H.next<=b->aZ (H'.put b e) k p=aZ H' k p
 kill:∀ H' b,H.next<=b->aZ (H'.kill b) k p=aZ H' k p
theorem eE (H:Heap) (m:Nat) (k:Option Nat) (p:AV):aZ (H.up m) k p=aZ H k p:=rfl
theorem aH {H H':Heap} (h:Sub H H') {k:Option Nat} {p w:AV} (hl:aZ H k p=some w):aZ H' k p=some w:=by
 unfold aZ at hl ⊢
 split at hl
 ·split at hl
  ·rename_i hb
   rw [h.get _ _ hb]; exact hl
  ·cases hl
 ·exact hl
 ·cases hl
theorem Ldd.of {H:Heap} (hw:Wf H) {k:Option Nat} {p w:AV} (h:aZ H k p=some w):Ldd H k p w:=by
 refine ⟨h,fun H' b e hb=>?_,fun H' b hb=>?_⟩
 all_goals
  cases p with
  | ptr c o =>
   have:c<H.next:=by
    simp only [aZ] at h
    split at h
    ·rename_i hc; exact hw c _ hc
    ·cases h
   simp only [aZ]
   first | rw [au (by omega)] | rw [cH (by omega)]
  | _=>rfl
theorem Ldd.mono {H H':Heap} (h:Kp H H') {k:Option Nat} {p w:AV} (hl:Ldd H k p w):Ldd H' k p w:=Ldd.of h.wf (aH h.sub hl.ld)
def SubT (tys:List Nat) (H H':Heap):Prop:=∀ b cs t r,t∈tys->H.get b=some (.cells cs t r)->H'.get b=some (.cells cs t r)
theorem Sub.t {H H':Heap} (h:Sub H H') (tys:List Nat):SubT tys H H':=fun b cs t r _ hb=>h.get b _ hb
theorem SubT.of {tys tys':List Nat} {H H':Heap} (h:SubT tys H H') (hs:∀ t,t∈tys'->t∈tys):SubT tys' H H':=fun b cs t r ht hb=>h b cs t r (hs t ht) hb
def Nt (H:Heap) (ty:Nat) (v:AV):Prop:=∀ b off n c z x,v=.own b off n c z x->∃ cs r,H.get b=some (.cells cs ty r)
structure eU (α:Type) where
 sz:Nat
 tys:List Nat
 R:Heap->List AV->α->Prop
 pos:0<sz
 len:∀ {H cs a},R H cs a->cs.length=sz/\cs.all AV.one=true
 mono:∀ {H H' cs a},SubT tys H H'->R H cs a->R H' cs a
variable {α:Type}
def Cells (E:eU α) (H:Heap) (cells:List AV) (l:List α):Prop:=cells.length=l.length*E.sz/\∀ i a,l[i]? = some a->E.R H ((cells.drop (i*E.sz)).take E.sz) a
def SlV (E:eU α) (ty:Nat) (H:Heap) (v:AV) (l:List α):Prop:=∃ cells,Rd H E.sz v cells/\Nt H ty v/\Cells E H cells l
theorem Cells.mono {E:eU α} {H H':Heap} (h:SubT E.tys H H') {cells:List AV} {l:List α} (hc:Cells E H cells l):Cells E H' cells l:=⟨hc.1,fun i a hi=>E.mono h (hc.2 i a hi)⟩
theorem SlV.monoT {E:eU α} {ty:Nat} {H H':Heap} (h:SubT (ty :: E.tys) H H') {v:AV} {l:List α} (hs:SlV E ty H v l):SlV E ty H' v l:=by
 obtain ⟨cells,⟨h0,h1,n,h2,h3⟩,ht,hc⟩:=hs
 refine ⟨cells,⟨h0,h1,n,h2,?_⟩,fun b off n c z x e=>?_,hc.mono (h.of fun t ht=>List.mem_cons_of_mem _ ht)⟩
 ·unfold aJ at h3 ⊢
  split at h3
  ·rename_i b off n' c sz ex
   obtain ⟨cs,r,hb⟩:=ht b off _ c sz ex rfl
   rw [hb] at h3
   rw [h b cs ty r (List.mem_cons_self ..) hb]; exact h3
  ·exact h3
  ·exact h3
  ·exact h3
  ·cases h3
 ·obtain ⟨cs,r,hb⟩:=ht b off n c z x e
  exact ⟨cs,r,h b cs ty r (List.mem_cons_self ..) hb⟩
theorem SlV.mono {E:eU α} {ty:Nat} {H H':Heap} (h:Sub H H') {v:AV} {l:List α} (hs:SlV E ty H v l):SlV E ty H' v l:=hs.monoT (h.t _)
theorem SlV.one {E:eU α} {ty:Nat} {H:Heap} {v:AV} {l:List α} (hs:SlV E ty H v l):One v:=by
 obtain ⟨cells,h1,h2⟩:=hs; exact h1.one
theorem SlV.nil (E:eU α) (ty:Nat) (H:Heap):SlV E ty H .nilSl []:=⟨[],Rd.nil H E.sz,(fun _ _ _ _ _ _ e=>by cases e),by simp,fun i a h=>by simp at h⟩
theorem SlV.lenV {E:eU α} {ty:Nat} {H:Heap} {v:AV} {l:List α} (hs:SlV E ty H v l):lenV v=some (.int .i64 (l.length:Int)):=by
 obtain ⟨cells,h1,-,h2⟩:=hs
 exact Dt h1 h2.1 E.pos
theorem SlV.idx {E:eU α} {ty:Nat} {H:Heap} {v:AV} {l:List α} (hs:SlV E ty H v l) (k:IntKind) (i:Nat) (hi:i<l.length):Ox E.sz v (.int k (i:Int))=some (al v (i*E.sz)):=by
 obtain ⟨cells,h1,-,h2⟩:=hs
 have:=E.pos
 refine J2 h1 ?_ E.pos
 rw [h2.1,<- Nat.succ_mul]
 exact Nat.mul_le_mul_right _ hi
theorem Fs {H:Heap} {sz:Nat} {v:AV} {cells:List AV} (h:Rd H sz v cells) (hne:cells≠[]) (off o:Nat):vZ off (al v o)=some (al v (o+off)):=by
 obtain ⟨-,h1,n,hn,hf⟩:=h
 cases v with
 | own b f m c s e=>simp [al,vZ,Nat.add_assoc]
 | sl cs m=>simp [al,vZ]
 | nilSl =>
  simp only [aJ] at hf
  split at hf
  ·cases hf; exact absurd rfl hne
  ·cases hf
 | str s=>exact absurd rfl (h1 _)
 | _=>simp [fI] at hn
theorem SlV.fa {E:eU α} {ty:Nat} {H:Heap} {v:AV} {l:List α} (hs:SlV E ty H v l) (hne:0<l.length) (off o:Nat):vZ off (al v o)=some (al v (o+off)):=by
 obtain ⟨cells,h1,-,h2⟩:=hs
 refine Fs h1 (fun h=>?_) off o
 have:=h2.1
 rw [h] at this
 have:=Nat.mul_pos hne E.pos
 simp at *
 omega
theorem SlV.at {E:eU α} {ty:Nat} {H:Heap} {v:AV} {l:List α} (hs:SlV E ty H v l) {i:Nat} {a:α} (hi:l[i]? = some a):∃ cs,E.R H cs a/\cs.length=E.sz/\(∀ j c,cs[j]? = some c->aZ H none (al v (i*E.sz+j))=some c)/\aZ H (some E.sz) (al v (i*E.sz))=some (.agg cs):=by
 obtain ⟨cells,h1,-,h2⟩:=hs
 have hlt:i<l.length:=(List.getElem?_eq_some_iff.1 hi).1
 have hle:i*E.sz+E.sz<=cells.length:=by rw [h2.1,<- Nat.succ_mul]; exact Nat.mul_le_mul_right _ hlt
 have:=E.pos
 refine ⟨_,h2.2 i a hi,by simp; omega,fun j c hj=>?_,?_⟩
 ·refine h1.load (by simp) ?_
  rw [List.getElem?_take] at hj
  split at hj
  ·rw [List.getElem?_drop] at hj
   simpa [bA] using hj
  ·cases hj
 ·refine h1.load (by simp; omega) ?_
  simp only [bA]
  rw [if_pos hle]
structure Kq (α:Type) where
 tys:List Nat
 R:Heap->AV->α->Prop
 one:∀ {H v a},R H v a->One v
 mono:∀ {H H' v a},SubT tys H H'->R H v a->R H' v a
def cB (e:Kq α):eU α where
 sz:=1
 tys:=e.tys
 R H cs a:=∃ v,cs=[v]/\e.R H v a
 pos:=by omega
 len:=by rintro H cs a ⟨v,rfl,h⟩; exact ⟨rfl,by simp [(e.one h).2]⟩
 mono:=by rintro H H' cs a hs ⟨v,rfl,h⟩; exact ⟨v,rfl,e.mono hs h⟩
abbrev tX (e:Kq α) (ty:Nat) (H:Heap) (v:AV) (l:List α):Prop:=SlV (cB e) ty H v l
theorem SlV.at1 {e:Kq α} {ty:Nat} {H:Heap} {v:AV} {l:List α} (hs:tX e ty H v l) {i:Nat} {a:α} (hi:l[i]? = some a):∃ c,e.R H c a/\aZ H none (al v i)=some c:=by
 obtain ⟨cs,⟨c,rfl,hr⟩,-,h2,-⟩:=hs.at hi
 refine ⟨c,hr,?_⟩
 have:=h2 0 c rfl
 simpa [cB] using this
theorem SlV.idx1 {e:Kq α} {ty:Nat} {H:Heap} {v:AV} {l:List α} (hs:tX e ty H v l) (k:IntKind) (i:Nat) (hi:i<l.length):Ox 1 v (.int k (i:Int))=some (al v i):=by
 have:=SlV.idx hs k i hi
 simpa [cB] using this
def zi (k:IntKind):Kq Int:=⟨[],fun _ v a=>v=.int k a,fun h=>h ▸ aR _ _,fun _ h=>h⟩
def bX:Kq Nat:=⟨[],fun _ v a=>v=.int .u64 (a:Int),fun h=>h ▸ aR _ _,fun _ h=>h⟩
def pE (E:eU α) (ty:Nat):Kq (List α):=⟨ty :: E.tys,SlV E ty,fun h=>h.one,fun h hs=>hs.monoT h⟩
theorem Cells.take {E:eU α} {H:Heap} {cells:List AV} {l:List α} (h:Cells E H cells l) {n:Nat} (hn:n<=l.length):Cells E H (cells.take (n*E.sz)) (l.take n):=by
 have hm:=Nat.mul_le_mul_right E.sz hn
 refine ⟨by rw [List.length_take,List.length_take,h.1,Nat.min_eq_left hm,Nat.min_eq_left hn],fun i a hi=>?_⟩
 rw [List.getElem?_take] at hi
 split at hi
 ·rename_i hin
  have:=h.2 i a hi
  have h1:i*E.sz+E.sz<=n*E.sz:=by rw [<- Nat.succ_mul]; exact Nat.mul_le_mul_right _ hin
  rw [List.drop_take,List.take_take,Nat.min_eq_left (by omega)]
  exact this
 ·cases hi
theorem Cells.drop {E:eU α} {H:Heap} {cells:List AV} {l:List α} (h:Cells E H cells l) (n:Nat):Cells E H (cells.drop (n*E.sz)) (l.drop n):=by
 refine ⟨by rw [List.length_drop,List.length_drop,h.1,Nat.sub_mul],fun i a hi=>?_⟩
 rw [List.getElem?_drop] at hi
 have:=h.2 _ a hi
 rw [List.drop_drop,<- Nat.add_mul]
 exact this
theorem Cells.append {E:eU α} {H:Heap} {c1 c2:List AV} {l1 l2:List α} (h1:Cells E H c1 l1) (h2:Cells E H c2 l2):Cells E H (c1++c2) (l1++l2):=by
 refine ⟨by rw [List.length_append,List.length_append,h1.1,h2.1,Nat.add_mul],fun i a hi=>?_⟩
 by_cases hlt:i<l1.length
 ·rw [List.getElem?_append_left hlt] at hi
  have:=h1.2 i a hi
  have hle:i*E.sz+E.sz<=c1.length:=by rw [h1.1,<- Nat.succ_mul]; exact Nat.mul_le_mul_right _ hlt
  rw [List.drop_append_of_le_length (by omega),List.take_append_of_le_length (by rw [List.length_drop]; omega)]
  exact this
 ·rw [List.getElem?_append_right (by omega)] at hi
  have:=h2.2 _ a hi
  have e:i*E.sz=c1.length+(i-l1.length)*E.sz:=by rw [h1.1,<- Nat.add_mul]; congr 1; omega
  rw [e,List.drop_append,List.drop_eq_nil_of_le (by omega),List.nil_append,Nat.add_sub_cancel_left]
  exact this
theorem Cells.nil (E:eU α) (H:Heap):Cells E H [] []:=⟨by simp,fun i a h=>by simp at h⟩
theorem Cells.one {E:eU α} {H:Heap} {cs:List AV} {a:α} (h:E.R H cs a):Cells E H cs [a]:=by
 refine ⟨by simp [(E.len h).1],fun i b hi=>?_⟩
 cases i with
 | zero=>simp at hi; subst hi; simp [<- (E.len h).1]; exact h
 | succ i=>simp at hi
theorem Cells.set {E:eU α} {H:Heap} {cells cs:List AV} {l:List α} (h:Cells E H cells l) {i:Nat} {a:α} (hi:i<l.length) (hr:E.R H cs a):Cells E H (cells.take (i*E.sz)++cs++cells.drop (i*E.sz+E.sz)) (l.set i a):=by
 have e:l.set i a=l.take i++[a]++l.drop (i+1):=by rw [List.set_eq_take_append_cons_drop,if_pos hi]; simp
 rw [e]
 have:=h.drop (i+1)
 rw [Nat.succ_mul] at this
 exact ((h.take (Nat.le_of_lt hi)).append (Cells.one hr)).append this
theorem Cells.ones {E:eU α} {H:Heap} {cells:List AV} {l:List α} (h:Cells E H cells l):cells.all AV.one=true:=by
 rw [List.all_eq_true]
 intro c hc
 obtain ⟨j,hj,rfl⟩:=List.getElem_of_mem hc
 have hp:=E.pos
 have hlt:j / E.sz<l.length:=by
  apply Nat.div_lt_of_lt_mul
  rw [Nat.mul_comm,<- h.1]; exact hj
 have:=(E.len (h.2 (j / E.sz) _ (List.getElem?_eq_getElem hlt))).2
 rw [List.all_eq_true] at this
 refine this _ ?_
 have hm:j % E.sz<E.sz:=Nat.mod_lt _ hp
 have e:=Nat.div_add_mod j E.sz
 refine List.mem_of_getElem? (i:=j % E.sz) ?_
 rw [List.getElem?_take,if_pos hm,List.getElem?_drop]
 rw [Nat.mul_comm,e,List.getElem?_eq_getElem hj]
theorem o0 {H:Heap} {ty sz:Nat} {v v':AV} {lo hi mx:Option AV} (ht:Nt H ty v) (h:cR sz v lo hi mx=some v'):Nt H ty v':=by
 intro b off n c z x e
 subst e
 cases v with
 | own b' off' n' c' z' x' =>
  have hb:b=b':=by
   simp only [cR,bH] at h
   split at h
   ·cases h
   ·split at h
    ·simp only [Option.bind_eq_bind,Option.bind_eq_some_iff] at h
     obtain ⟨m,-,h',-,l,-,h⟩:=h
     split at h
     ·split at h <;> (cases h; rfl)
     ·cases h
    ·simp only [Option.bind_eq_bind,Option.bind_eq_some_iff] at h
     obtain ⟨h',-,l,-,h⟩:=h
     split at h
     ·split at h
      ·cases h; rfl
      ·split at h
       ·cases h; rfl
       ·cases h
     ·cases h
    ·cases h
  subst hb
  exact ht _ _ _ _ _ _ rfl
 | sl cs n' =>
  exfalso
  simp only [cR,bH] at h
  split at h
  ·simp only [Option.bind_eq_bind,Option.bind_eq_some_iff] at h
   obtain ⟨h',-,l,-,h⟩:=h
   split at h <;> cases h
  ·simp only [Option.bind_eq_bind,Option.bind_eq_some_iff] at h
   obtain ⟨m,-,h',-,l,-,h⟩:=h
   split at h <;> cases h
  ·cases h
 | nilSl =>
  exfalso
  simp only [cR,bH] at h
  split at h
  ·split at h <;> cases h
  ·split at h <;> cases h
  ·cases h
 | str s=>cases h
 | _=>cases h
theorem SlV.hi {E:eU α} {ty:Nat} {H:Heap} {v:AV} {l:List α} (hs:SlV E ty H v l) (k:IntKind) (n:Nat) (hn:n<=l.length):∃ v',cR E.sz v none (some (.int k (n:Int))) none=some v'/\SlV E ty H v' (l.take n):=by
 obtain ⟨cells,h1,ht,h2⟩:=hs
 obtain ⟨v',e,h⟩:=h1.hi (k:=k) (hi:=n) (by rw [h2.1]; exact Nat.mul_le_mul_right _ hn) E.pos
 exact ⟨v',e,_,h,o0 ht e,h2.take hn⟩
theorem SlV.lo {E:eU α} {ty:Nat} {H:Heap} {v:AV} {l:List α} (hs:SlV E ty H v l) (k:IntKind) (n:Nat) (hn:n<=l.length):∃ v',cR E.sz v (some (.int k (n:Int))) none none=some v'/\SlV E ty H v' (l.drop n):=by
 obtain ⟨cells,h1,ht,h2⟩:=hs
 obtain ⟨v',e,h⟩:=h1.lo (k:=k) (lo:=n) (by rw [h2.1]; exact Nat.mul_le_mul_right _ hn) E.pos
 exact ⟨v',e,_,h,o0 ht e,h2.drop n⟩
theorem SlV.clip {E:eU α} {ty:Nat} {H:Heap} {v:AV} {l:List α} (hs:SlV E ty H v l) (k j:IntKind):∃ v',cR E.sz v none (some (.int k (l.length:Int))) (some (.int j (l.length:Int)))=some v'/\SlV E ty H v' l:=by
 obtain ⟨cells,h1,ht,h2⟩:=hs
 obtain ⟨v',e,h⟩:=h1.clip (k:=k) (j:=j) h2.1 E.pos
 exact ⟨v',e,_,h,o0 ht e,h2⟩
def Own (E:eU α) (ty:Nat) (H0 H:Heap) (b:Nat) (ex:Bool) (v:AV) (l:List α):Prop :=
 ∃ cells,v=.own b 0 l.length l.length E.sz ex/\H.get b=some (.cells cells ty true)/\Cells E H cells l/\H0.next<=b
theorem Own.sl {E:eU α} {ty:Nat} {H0 H:Heap} {b:Nat} {ex:Bool} {v:AV} {l:List α} (h:Own E ty H0 H b ex v l):SlV E ty H v l:=by
 obtain ⟨cells,rfl,hb,hc,-⟩:=h
 exact ⟨cells,Rd.own hb hc.1 (Nat.le_refl _),fun _ _ _ _ _ _ e=>by cases e; exact ⟨_,_,hb⟩,hc⟩
def Bl (E:eU α) (ty:Nat) (H0 H:Heap) (v:AV) (l:List α):Prop:=(v=.nilSl/\l=[])\/∃ b,Own E ty H0 H b false v l
theorem Bl.nil {E:eU α} {ty:Nat} {H0 H:Heap}:Bl E ty H0 H .nilSl []:=.inl ⟨rfl,rfl⟩
theorem Bl.sl {E:eU α} {ty:Nat} {H0 H:Heap} {v:AV} {l:List α} (h:Bl E ty H0 H v l):SlV E ty H v l:=by
 rcases h with ⟨rfl,rfl⟩ | ⟨b,h⟩
 ·exact SlV.nil E ty H
 ·exact h.sl
theorem Own.monoT {E:eU α} {ty:Nat} {H0 H H':Heap} (hs:SubT (ty :: E.tys) H H') {b:Nat} {ex:Bool} {v:AV} {l:List α} (h:Own E ty H0 H b ex v l):Own E ty H0 H' b ex v l:=by
 obtain ⟨cells,rfl,hb,hc,h0⟩:=h
 exact ⟨cells,rfl,hs b _ _ _ (List.mem_cons_self ..) hb,hc.mono (hs.of fun t ht=>List.mem_cons_of_mem _ ht),h0⟩
theorem Own.mono {E:eU α} {ty:Nat} {H0 H H':Heap} (hs:Sub H H') {b:Nat} {ex:Bool} {v:AV} {l:List α} (h:Own E ty H0 H b ex v l):Own E ty H0 H' b ex v l:=h.monoT (hs.t _)
theorem Bl.monoT {E:eU α} {ty:Nat} {H0 H H':Heap} (hs:SubT (ty :: E.tys) H H') {v:AV} {l:List α} (h:Bl E ty H0 H v l):Bl E ty H0 H' v l:=by
 rcases h with h | ⟨b,h⟩
 ·exact .inl h
 ·exact .inr ⟨b,h.monoT hs⟩
theorem Bl.mono {E:eU α} {ty:Nat} {H0 H H':Heap} (hs:Sub H H') {v:AV} {l:List α} (h:Bl E ty H0 H v l):Bl E ty H0 H' v l:=h.monoT (hs.t _)
theorem Bl.put {E:eU α} {ty:Nat} {H0 H:Heap} {v:AV} {l:List α} (h:Bl E ty H0 H v l) {b:Nat} {e:Ent} (hne:∀ n,v ≠ .own b 0 n n E.sz false) (hs:SubT E.tys H (H.put b e)):Bl E ty H0 (H.put b e) v l:=by
 rcases h with h | ⟨b',cells,rfl,hb,hc,h0⟩
 ·exact .inl h
 ·exact .inr ⟨b',cells,rfl,by rw [au (fun e1=>hne _ (by rw [e1]))]; exact hb,hc.mono hs,h0⟩
theorem Bl.kill {E:eU α} {ty:Nat} {H0 H:Heap} {v:AV} {l:List α} (h:Bl E ty H0 H v l) {b:Nat} (hne:∀ n,v ≠ .own b 0 n n E.sz false) (hs:SubT E.tys H (H.kill b)):Bl E ty H0 (H.kill b) v l:=by
 rcases h with h | ⟨b',cells,rfl,hb,hc,h0⟩
 ·exact .inl h
 ·exact .inr ⟨b',cells,rfl,by rw [cH (fun e1=>hne _ (by rw [e1]))]; exact hb,hc.mono hs,h0⟩
theorem SubT.nil (H H':Heap):SubT [] H H':=fun _ _ _ _ h=>by cases h
theorem SubT.put {tys:List Nat} {H:Heap} {b:Nat} {e:Ent} (h:∀ cs t r,t∈tys->H.get b≠some (.cells cs t r)):SubT tys H (H.put b e):=fun c cs t r ht hc=>by
 rw [au (fun e1=>h cs t r ht (by rw [<- e1]; exact hc))]; exact hc
theorem SubT.put_ty {tys:List Nat} {H:Heap} {b ty:Nat} {e:Ent} {cs:List AV} {r:Bool} (hb:H.get b=some (.cells cs ty r)) (hty:ty ∉ tys):SubT tys H (H.put b e):=SubT.put fun cs' t r' ht h=>by
 rw [hb] at h; cases h; exact hty ht
theorem Bl.base {E:eU α} {ty:Nat} {H0 H1 H:Heap} (hs:H0.next<=H1.next) {v:AV} {l:List α} (h:Bl E ty H1 H v l):Bl E ty H0 H v l:=by
 rcases h with h | ⟨b,cells,h1,h2,h3,h4⟩
 ·exact .inl h
 ·exact .inr ⟨b,cells,h1,h2,h3,Nat.le_trans hs h4⟩
def OC (H:Heap) (id size bytes ty:Nat) (x y:AV):Option (AV × Heap):=match fI y with
 | none=>none
 | some m=>match aJ H size m y with
  | none=>none
  | some news=>cE H id size bytes ty x m news (match y with | .own b _ _ _ _ _=>some b | _=>none)
theorem KW {tab:Nat->Option aq} (ev:Src->AV) (H:Heap) (id:Nat) (Q:AV->Heap->Prop) (size bytes ty:Nat) (z:List AV) (x y:Src) :
  jT tab ev H id (.append size bytes ty z x y) Q=Pa (OC H id size bytes ty (ev x) (ev y)) (fun r=>Q r.1 r.2) ():=by rw [Em]; rfl
def E3 (H:Heap) (id ty size bytes:Nat) (z:List AV) (l c:AV):Option (AV × Heap):=match nj l,nj c with
 | some l,some c=>if l<=c/\bytes*c<=2^47/\c<2^63/\z.length=size then some (.own id 0 l c size true,H.put id (.cells ((List.replicate c z).flatten) ty true)) else none
 | _,_=>none
theorem Mn {tab:Nat->Option aq} (ev:Src->AV) (H:Heap) (id:Nat) (Q:AV->Heap->Prop) (ty size bytes:Nat) (z:List AV) (l c:Src) :
  jT tab ev H id (.mksl ty size bytes z l c) Q=Pa (E3 H id ty size bytes z (ev l) (ev c)) (fun r=>Q r.1 r.2) ():=by rw [IX]; rfl
theorem iZ (H:Heap) (id ty size bytes:Nat) (z:List AV) (k j:IntKind) (n:Nat) (hb:bytes*n<=140737488355328) (hn:n<9223372036854775808) (hz:z.length=size) :
  E3 H id ty size bytes z (.int k (n:Int)) (.int j (n:Int))=some (.own id 0 n n size true,H.put id (.cells ((List.replicate n z).flatten) ty true)):=by
 simp only [E3,eS]
 rw [if_pos ⟨Nat.le_refl _,hb,hn,hz⟩]
theorem dD {E:eU α} {H:Heap} {z:List AV} {a:α} (hz:E.R H z a) (n:Nat):Cells E H (List.replicate n z).flatten (List.replicate n a):=by
 induction n with
 | zero=>exact Cells.nil E H
 | succ n ih=>rw [List.replicate_succ,List.replicate_succ,List.flatten_cons]; exact (Cells.one hz).append ih
theorem Bl.app {E:eU α} {ty ty2 bytes id:Nat} {H0 H:Heap} {v w:AV} {l l2:List α} (h:Bl E ty H0 H v l) (hty:ty ∉ E.tys) (hk:Kp H0 H) (hy:SlV E ty2 H w l2) (hid:H0.next<=id) (hid2:id<H.next) (hfree:H.get id=none)
  (hne:∀ b n,v=.own b 0 n n E.sz false->∀ off m c z x,w ≠ .own b off m c z x) (hb:(l.length+l2.length)*bytes<=70368744177664) (hl:l.length+l2.length<4611686018427387904) :
  ∃ v' H',OC H id E.sz bytes ty v w=some (v',H')/\Bl E ty H0 H' v' (l++l2)/\Kp H0 H'/\H'.next=H.next/\(∀ b e,H.get b=some e->(∀ n,v ≠ .own b 0 n n E.sz false)->H'.get b=some e)/\(0<l2.length->∃ n,v'=.own id 0 n n E.sz false):=by
 obtain ⟨news,hr,hty2,hc⟩:=hy
 obtain ⟨m,hm,hlen⟩:=hr.length
 obtain ⟨-,-,m',hm',hf⟩:=hr
 rw [hm] at hm'; cases hm'
 have hml:m=l2.length:=Nat.eq_of_mul_eq_mul_right E.pos (by rw [<- hlen,hc.1])
 subst hml
 obtain ⟨fr,hfr0⟩:∃ fr,(match w with | .own b _ _ _ _ _=>some b | _=>none)=fr:=⟨_,rfl⟩
 have hap:OC H id E.sz bytes ty v w=cE H id E.sz bytes ty v l2.length news fr:=by
  unfold OC
  rw [hm]
  simp only
  rw [hf]
  simp only
  rw [hfr0]
 rw [hap]
 have hones:=hc.ones
 have hnf:∀ {b e},H.get b=some e->b≠id:=fun hb e1=>by rw [e1,hfree] at hb; cases hb
 rcases h with ⟨rfl,rfl⟩ | ⟨b,cells,rfl,hb0,hcl,hb1⟩
 ·by_cases h0:l2.length=0
  ·refine ⟨.nilSl,H,by simp only [cE]; rw [if_pos h0],.inl ⟨rfl,by simpa using h0⟩,hk,rfl,fun b e hb _=>hb,fun h=>by omega⟩
  ·refine ⟨_,_,by simp only [cE]; rw [if_neg h0,if_pos ⟨by simpa using hb,by simpa using hl⟩],.inr ⟨id,news,by simp,aA _ _ _,?_,hid⟩,hk.put hid hid2,rfl,fun b e hb _=>?_,fun _=>⟨_,rfl⟩⟩
   ·have:=hc.mono (H':=H.put id (.cells news ty true)) fun c cs t r _ hce=>by rw [au (hnf hce)]; exact hce
    simpa using this
   ·rw [au (hnf hb)]; exact hb
 ·have hbid:b≠id:=hnf hb0
  have hfr:fr≠some b:=by
   rw [<- hfr0]
   cases w with
   | own b' off m c z x =>
    simp only [ne_eq,Option.some.injEq]
    intro e1; subst e1
    exact hne _ _ rfl _ _ _ _ _ rfl
   | _=>simp
  simp only [cE,hb0]
  rw [if_pos ⟨trivial,hb,hl,trivial,by simp; exact Nat.le_of_eq hcl.1.symm⟩]
  by_cases h0:l2.length=0
  ·rw [if_pos (by omega),if_pos h0]
   refine ⟨_,H,rfl,.inr ⟨b,cells,?_,hb0,?_,hb1⟩,hk,rfl,fun b e hb _=>hb,fun h=>by omega⟩
   ·simp [h0]
   ·have:l2=[]:=List.eq_nil_of_length_eq_zero h0
    subst this; simpa using hcl
  ·rw [if_neg (by omega)]
   simp only [Bool.false_eq_true,if_false]
   rw [if_pos ⟨trivial,trivial,hfr,hones⟩]
   have hsub:∀ c e,H.get c=some e->c≠b->((H.kill b).put id (.cells (cells.take (l.length*E.sz)++news) ty true)).get c=some e:=fun c e hc hcb=>by
    rw [au (hnf hc),cH hcb]; exact hc
   refine ⟨_,_,rfl,.inr ⟨id,_,by simp,aA _ _ _,?_,hid⟩,(hk.kill hb1).put hid hid2,rfl,fun c e hc he=>hsub c e hc fun e1=>?_,fun _=>⟨_,rfl⟩⟩
   ·have hs:SubT E.tys H ((H.kill b).put id (.cells (cells.take (l.length*E.sz)++news) ty true)):=fun c cs t r ht hc=>hsub c _ hc fun e1=>by
     subst e1
     rw [hb0] at hc; cases hc
     exact hty ht
    have ht:cells.take (l.length*E.sz)=cells:=by rw [<- hcl.1,List.take_length]
    rw [ht] at hs ⊢
    exact (hcl.mono hs).append (hc.mono hs)
   ·subst e1
    exact he _ rfl
theorem Bl.push {E:eU α} {ty ty2 bytes id id2 k:Nat} {H0 H:Heap} {v:AV} {l:List α} {cs:List AV} {a:α} (h:Bl E ty H0 H v l) (hty:ty ∉ E.tys) (hk:Kp H0 H) (hr:E.R H cs a) (hid:H.next<=id) (hidk:id<H.next+k) (hid2:H.next<=id2) (hid2k:id2<H.next+k) (hne:id≠id2)
  (hb:(l.length+1)*bytes<=70368744177664) (hl:l.length+1<4611686018427387904) :
  ∃ n H',OC ((H.up k).put id2 (.cells cs ty2 true)) id E.sz bytes ty v (.own id2 0 1 1 E.sz true)=some (.own id 0 n n E.sz false,H')/\Bl E ty H0 H' (.own id 0 n n E.sz false) (l++[a])/\Kp H0 H'/\H'.next=H.next+k/\(∀ b e,H.get b=some e->(∀ n,v ≠ .own b 0 n n E.sz false)->H'.get b=some e):=by
 have hle:=hk.le
 have hf:∀ {c},H.next<=c->H.get c=none:=fun hc=>hk.wf.fresh hc
 have hsub:Sub H ((H.up k).put id2 (.cells cs ty2 true)):=(Sub.bump H k).put (hf hid2) _
 have hk':Kp H0 ((H.up k).put id2 (.cells cs ty2 true)):=(hk.up k).put (by omega) hid2k
 have hy:SlV E ty2 ((H.up k).put id2 (.cells cs ty2 true)) (.own id2 0 1 1 E.sz true) [a]:=by
  have:Own E ty2 H0 ((H.up k).put id2 (.cells cs ty2 true)) id2 true (.own id2 0 1 1 E.sz true) [a]:=⟨cs,rfl,aA _ _ _,Cells.one (E.mono (hsub.t _) hr),by omega⟩
  exact this.sl
 obtain ⟨v',H',e1,e2,e3,e4,e5,e6⟩:=(h.mono hsub).app (id:=id) (bytes:=bytes) hty hk' hy (by omega) hidk (by rw [au hne]; exact hf hid) (fun b n hv off m c z x hw=>by
  cases hw
  rcases h with ⟨h,-⟩ | ⟨b',cells,h,hb',-⟩
  ·rw [h] at hv; cases hv
  ·rw [h] at hv; cases hv
   have:=hk.wf _ _ hb'
   omega) hb hl
 obtain ⟨n,rfl⟩:=e6 (by simp)
 exact ⟨n,H',e1,e2,e3,e4,fun b e hbe he=>e5 b e (hsub.get _ _ hbe) he⟩
theorem Bl.ne {E:eU α} {ty:Nat} {H0 H:Heap} {v:AV} {l:List α} (h:Bl E ty H0 H v l) {b:Nat} {e:Ent} (hb:H.get b=some e) (he:∀ cs,e ≠ .cells cs ty true) (n:Nat):v ≠ .own b 0 n n E.sz false:=by
 intro hv
 rcases h with ⟨h,-⟩ | ⟨b',cells,h,hb',-⟩
 ·rw [h] at hv; cases hv
 ·rw [h] at hv; cases hv
  rw [hb] at hb'; cases hb'
  exact he _ rfl
theorem SlV.app {E:eU α} {ty ty2 bytes id b off:Nat} {H0 H:Heap} {w:AV} {l l2:List α} (h:SlV E ty H (.own b off l.length l.length E.sz true) l) (hk:Kp H0 H) (hy:SlV E ty2 H w l2) (hid:H0.next<=id) (hid2:id<H.next) (hfree:H.get id=none)
  (hb:(l.length+l2.length)*bytes<=70368744177664) (hl:l.length+l2.length<4611686018427387904) :
  ∃ v' H',OC H id E.sz bytes ty (.own b off l.length l.length E.sz true) w=some (v',H')/\SlV E ty H' v' (l++l2)/\Kp H0 H'/\H'.next=H.next/\Sub H H'/\(0<l2.length->Own E ty H0 H' id false v' (l++l2)):=by
 obtain ⟨cells,hr0,ht,hcl⟩:=h
 obtain ⟨cs,rw0,hg⟩:=ht _ _ _ _ _ _ rfl
 obtain ⟨-,-,n0,hn0,hf0⟩:=hr0
 simp only [fI,Option.some.injEq] at hn0
 subst hn0
 simp only [aJ,hg] at hf0
 obtain ⟨news,hr,hty2,hc⟩:=hy
 obtain ⟨m,hm,hlen⟩:=hr.length
 obtain ⟨-,-,m',hm',hf⟩:=hr
 rw [hm] at hm'; cases hm'
 have hml:m=l2.length:=Nat.eq_of_mul_eq_mul_right E.pos (by rw [<- hlen,hc.1])
 obtain ⟨fr,hfr0⟩:∃ fr,(match w with | .own b _ _ _ _ _=>some b | _=>none)=fr:=⟨_,rfl⟩
 subst hml
 have hnf:∀ {b e},H.get b=some e->b≠id:=fun hb e1=>by rw [e1,hfree] at hb; cases hb
 split at hf0
 ·rename_i hcond
  cases hf0
  have hap:∀ fr,cE H id E.sz bytes ty (.own b off l.length l.length E.sz true) l2.length news fr=if l2.length=0 then some (.own b off l.length l.length E.sz true,H) else some (.own id 0 (l.length+l2.length) (l.length+l2.length) E.sz false,H.put id (.cells ((cs.drop off).take (l.length*E.sz)++news) ty true)):=fun fr=>by
   simp only [cE,hg]
   rw [if_pos ⟨trivial,hb,hl,trivial,hcond.2.2⟩]
   by_cases h0:l2.length=0
   ·rw [if_pos (by omega),if_pos h0,if_pos h0]
   ·rw [if_neg (by omega),if_neg h0]
    simp
  have e:∀ x,OC H id E.sz bytes ty x w=cE H id E.sz bytes ty x l2.length news fr:=fun x=>by
   unfold OC
   rw [hm]
   simp only
   rw [hf]
   simp only
   rw [hfr0]
  by_cases h0:l2.length=0
  ·refine ⟨_,H,by rw [e,hap,if_pos h0],?_,hk,rfl,Sub.refl H,fun h=>by omega⟩
   have:l2=[]:=List.eq_nil_of_length_eq_zero h0
   subst this
   rw [List.append_nil]
   refine ⟨_,⟨Nat.le_refl _,(fun s h=>by cases h),l.length,rfl,?_⟩,ht,hcl⟩
   simp only [aJ,hg]
   rw [if_pos hcond]
  ·have hs:Sub H (H.put id (.cells ((cs.drop off).take (l.length*E.sz)++news) ty true)):=⟨Nat.le_refl _,fun c e hc=>by rw [au (hnf hc)]; exact hc⟩
   refine ⟨_,_,by rw [e,hap,if_neg h0],?_,hk.put hid hid2,rfl,hs,fun _=>⟨_,by rw [List.length_append],aA _ _ _,(hcl.mono (hs.t _)).append (hc.mono (hs.t _)),hid⟩⟩
   refine ⟨(cs.drop off).take (l.length*E.sz)++news,Rd.own (aA _ _ _) ?_ (Nat.le_refl _),fun _ _ _ _ _ _ e=>by cases e; exact ⟨_,_,aA _ _ _⟩,(hcl.mono (hs.t _)).append (hc.mono (hs.t _))⟩
   rw [List.length_append,hcl.1,hc.1,Nat.add_mul]
 ·cases hf0
theorem SlV.nilcase {E:eU α} {ty:Nat} {H:Heap} {v:AV} {l:List α} (h:SlV E ty H v l):(v=.nilSl/\l=[])\/bP .eql .sl v .nilSl=some (.bool false):=by
 obtain ⟨cells,⟨-,h1,n,hn,hf⟩,-,hc⟩:=h
 cases v with
 | nilSl =>
  simp only [aJ] at hf
  split at hf
  ·cases hf
   refine .inl ⟨rfl,List.eq_nil_of_length_eq_zero ?_⟩
   have:=hc.1
   have hp:=E.pos
   simp only [List.length_nil] at this
   rcases Nat.mul_eq_zero.1 this.symm with h | h
   ·exact h
   ·omega
  ·cases hf
 | own b off n c z x=>exact .inr rfl
 | sl cs n=>exact .inr rfl
 | str s=>exact absurd rfl (h1 _)
 | _=>simp [fI] at hn
def aI (l:List Nat):List AV:=l.map fun a=>.int .u64 ((a:Nat):Int)
theorem l9 (l:List Nat):(aI l).length=l.length:=by simp [aI]
theorem Fc (l:List Nat) (j a:Nat):(aI l).set j (.int .u64 (a:Int))=aI (l.set j a):=by simp [aI,List.map_set]
theorem yD {l:List Nat} {j:Nat} (h:j<l.length):bA (aI l) j none=some (.int .u64 ((l.getD j 0:Nat):Int)):=by
 simp [bA,aI,List.getD_eq_getElem?_getD,h]
theorem qz (H:Heap) (l:List Nat):Cells (cB bX) H (aI l) l:=by
 refine ⟨by simp [aI,cB],fun i a hi=>⟨.int .u64 (a:Int),?_,rfl⟩⟩
 have hlt:=(List.getElem?_eq_some_iff.1 hi).1
 apply List.ext_getElem?
 intro k
 have e:(aI l)[i]? = some (.int .u64 (a:Int)):=by simp [aI,hi]
 simp only [cB,List.getElem?_take,List.getElem?_drop,Nat.mul_one]
 cases k with
 | zero=>simpa using e
 | succ k=>simp
theorem kj (n:Nat):(List.replicate n [AV.int .u64 0]).flatten=aI (List.replicate n 0):=by
 induction n with
 | zero=>rfl
 | succ n ih=>rw [List.replicate_succ,List.flatten_cons,ih]; rfl
theorem rc {H0 H:Heap} {b ty:Nat} {l:List Nat} {n:Nat} {ex:Bool} (hb:H.get b=some (.cells (aI l) ty true)) (h0:H0.next<=b) (hn:l.length=n):Own (cB bX) ty H0 H b ex (.own b 0 n n 1 ex) l:=⟨_,by rw [hn]; rfl,hb,qz H l,h0⟩
theorem mU {b off n c sz j:Nat} {x:Bool} {k:IntKind} (h:j<n):Ox sz (.own b off n c sz x) (.int k (j:Int))=some (.ptr b (off+j*sz)):=by
 show aM _ (.indexAddr sz (.t 0) (.t 1))=_
 simp [aM,eS,h]
theorem Dr (b off n c sz:Nat) (x:Bool):lenV (.own b off n c sz x)=some (.int .i64 (n:Int)):=rfl
theorem LU {α:Type} {a b:Nat} {x y:α} (h:a<b):(if a<b then x else y)=x:=if_pos h
def qO (o:AOp):Bool:=o.looks || o.isPure
section
variable (tab:Nat->Option aq)
def Gv (base:Nat) (T:Tm) (i:Nat) (d:ir) (s:DS) (K:DS->Prop):Prop:=match d.cls,d.looks with
 | 0,(k,adds) :: _=>qO d.op=true/\jT tab (Src.ev T) (da base s.Es (s.Cs.getD k default) adds) 0 d.op fun v _=>K ⟨s.Vs++[v],s.Cs,s.Es++[none]⟩
 | 1,_=>d.op.makes=true/\jT tab (Src.ev T) (Heap.nil 0) (base+i) d.op fun v H'=>K ⟨s.Vs++[v],s.Cs,s.Es++[H'.get (base+i)]⟩
 | 2,[(k,adds)]=>jT tab (Src.ev T) (da base s.Es (s.Cs.getD k default) adds) (base+i) d.op fun v H'=>K ⟨s.Vs++[v],s.Cs++[H'],s.Es++[none]⟩
 | _,_=>False
def BF (base:Nat) (d:ir) (s:DS) (K:DS->Prop):Prop:=match d.cls,d.looks with
 | 2,[(k,adds)]=>K ⟨s.Vs++[.tup []],s.Cs++[da base s.Es (s.Cs.getD k default) adds],s.Es++[none]⟩
 | 2,_=>False
 | _,_=>K ⟨s.Vs++[.tup []],s.Cs,s.Es++[none]⟩
def wd (base:Nat) (T0:Tm):Nat->List ir->DS->(DS->Prop)->Prop
 | _,[],s,Q=>Q s
 | i,d :: ds,s,Q=>match bw (bO T0 s.Vs d.uses) d.guard with
  | none=>False
  | some true=>Gv tab base (bO T0 s.Vs d.uses) i d s fun s'=>wd base T0 (i+1) ds s' Q
  | some false=>BF base d s fun s'=>wd base T0 (i+1) ds s' Q
end
section
variable {tab:Nat->Option aq}
theorem zQ {base i:Nat} {T0:Tm} {d:ir} {s:DS} {K:DS->Prop} (hw:bw (bO T0 s.Vs d.uses) d.guard=some true) (h:Gv tab base (bO T0 s.Vs d.uses) i d s K) :
  ∃ s',K s'/\∃ N,∀ m n,N<=m->N<=n->iV (jC tab dK m n) base T0 i d s=some s':=by
 obtain ⟨dst,op,guard,uses,cls,looks⟩:=d
 simp only at hw
 unfold Gv at h
 simp only at h
 split at h
 ·rename_i k adds r
  obtain ⟨hz,h⟩:=h
  have h:=h.run
  obtain ⟨v,H',hk,N,g⟩:=jU h
  refine ⟨_,hk,N,fun m n hm hn=>?_⟩
  have g:=g m n hm hn
  unfold iV
  simp only [hw]
  cases hp:aM (Src.ev (bO T0 s.Vs uses)) op with
  | some w =>
   have:vz (jC tab dK m n) (Src.ev (bO T0 s.Vs uses)) (da base s.Es (s.Cs.getD k default) adds) 0 op=some (w,da base s.Es (s.Cs.getD k default) adds):=by
    cases op <;> first | (simp only [vz,hp]; done) | (simp [aM] at hp; done)
   rw [this] at g
   cases g; rfl
  | none =>
   have hh:aW (Src.ev (bO T0 s.Vs uses)) (da base s.Es (s.Cs.getD k default) adds) 0 op=some (v,H'):=by
    cases op <;> first | (simp only [vz,hp] at g; exact g) | (simp [qO,AOp.looks,AOp.isPure] at hz; done)
   have hl:op.looks=true:=by
    cases op <;> first | rfl | (simp [aW] at hh; done) | (simp [qO,AOp.looks,AOp.isPure] at hz; done)
   simp only [hh,hl,if_true]
 ·obtain ⟨hz,h⟩:=h
  have h:=h.run
  obtain ⟨v,H',hk,N,g⟩:=jU h
  refine ⟨_,hk,N,fun m n hm hn=>?_⟩
  have g:=g m n hm hn
  unfold iV
  simp only [hw,hz,if_true]
  have hp:aM (Src.ev (bO T0 s.Vs uses)) op=none:=by cases op <;> first | rfl | (simp [AOp.makes] at hz; done)
  have hh:aW (Src.ev (bO T0 s.Vs uses)) (Heap.nil 0) (base+i) op=some (v,H'):=by
   cases op <;> first | (simp only [vz,hp] at g; exact g) | (simp [AOp.makes] at hz; done)
  simp only [hh]
 ·have h:=h.run
  obtain ⟨v,H',hk,N,g⟩:=jU h
  refine ⟨_,hk,N,fun m n hm hn=>?_⟩
  have g:=g m n hm hn
  unfold iV
  simp only [hw,g]
 ·exact h.elim
theorem yz {cal:y8} {base i:Nat} {T0:Tm} {d:ir} {s:DS} {K:DS->Prop} (hw:bw (bO T0 s.Vs d.uses) d.guard=some false) (h:BF base d s K):∃ s',K s'/\∀ cal,iV cal base T0 i d s=some s':=by
 obtain ⟨dst,op,guard,uses,cls,looks⟩:=d
 simp only at hw
 unfold BF at h
 simp only at h
 split at h
 ·refine ⟨_,h,fun cal=>?_⟩
  unfold iV; simp only [hw]
 ·exact h.elim
 ·rename_i h1 h2
  refine ⟨_,h,fun cal=>?_⟩
  unfold iV
  simp only [hw]
theorem uA {base:Nat} {T0:Tm}:∀ (ds:List ir) (i:Nat) (s:DS) (Q:DS->Prop),wd tab base T0 i ds s Q->∃ s',Q s'/\∃ N,∀ m n,N<=m->N<=n->qE (jC tab dK m n) base T0 i ds s=some s'
 | [],i,s,Q,h=>⟨s,h,0,fun _ _ _ _=>rfl⟩
 | d :: ds,i,s,Q,h=>by
  unfold wd at h
  split at h
  ·exact h.elim
  ·rename_i hw
   obtain ⟨s1,h1,N1,g1⟩:=zQ hw h
   obtain ⟨s2,hq,N2,g2⟩:=uA ds _ _ _ h1
   refine ⟨s2,hq,N1+N2,fun m n hm hn=>?_⟩
   unfold qE
   rw [g1 m n (by omega) (by omega)]
   exact g2 m n (by omega) (by omega)
  ·rename_i hw
   obtain ⟨s1,h1,g1⟩:=yz (cal:=MA) (i:=i) hw h
   obtain ⟨s2,hq,N2,g2⟩:=uA ds _ _ _ h1
   refine ⟨s2,hq,N2,fun m n hm hn=>?_⟩
   unfold qE
   rw [g1]
   exact g2 m n hm hn
structure WD (tab:Nat->Option aq) (base:Nat) (T0:Tm) (i:Nat) (ds:List ir) (s:DS) (Q:DS->Prop):Prop where
 run:wd tab base T0 i ds s Q
theorem xc:WD=wd:=by funext tab b T0 i ds s Q; exact propext ⟨fun h=>h.run,fun h=>⟨h⟩⟩
theorem AV.beq_refl':∀ v:AV,AV.beq v v=true:=by
 intro v
 induction v using AV.rec (motive_2:=fun l=>AV.beqs l l=true) with
 | undef=>rfl
 | bool b=>simp [AV.beq]
 | int k n=>simp [AV.beq]
 | str s=>simp [AV.beq]
 | nilPtr=>rfl
 | nilSl=>rfl
 | nilFn=>rfl
 | nilIf=>rfl
 | nilMap=>rfl
 | agg cs ih=>simpa [AV.beq] using ih
 | tup cs ih=>simpa [AV.beq] using ih
 | sl cs n ih=>simpa [AV.beq] using ih
 | dp cs n ih=>simpa [AV.beq] using ih
 | own b off n c sz ex=>simp [AV.beq]
 | ptr b off=>simp [AV.beq]
 | fn f a b iha ihb=>simp [AV.beq,iha,ihb]
 | ifc t v ih=>simp [AV.beq,ih]
 | map b=>simp [AV.beq]
 | loopv b=>simp [AV.beq]
 | nil=>rfl
 | cons a l iha ihl=>simp [AV.beqs,iha,ihl]
def jE (tab:Nat->Option aq) (base:Nat) (T:Tm) (Cs:List Heap) (Es:List (Option Ent)) (op:AOp) (w:AV):List (Nat × List Nat)->Prop
 | []=>True
 | (k,adds) :: r=>jT tab (Src.ev T) (da base Es (Cs.getD k default) adds) 0 op (fun v _=>v=w)/\jE tab base T Cs Es op w r
def Cl (tab:Nat->Option aq) (base:Nat) (T0:Tm) (Vs:List AV) (Cs:List Heap) (Es:List (Option Ent)) (i:Nat) (d:ir):Prop:=match d.cls with
 | 0=>match d.guard with
  | none=>qO d.op=true/\jE tab base (bO T0 Vs d.uses) Cs Es d.op (Vs.getD i .undef) d.looks
  | some p=>iS (ae (bO T0 Vs d.uses) p.1) p.2 (qO d.op=true/\jE tab base (bO T0 Vs d.uses) Cs Es d.op (Vs.getD i .undef) d.looks) True () ()
 | _+1=>True
def iR (tab:Nat->Option aq) (base:Nat) (T0:Tm) (Vs:List AV) (Cs:List Heap) (Es:List (Option Ent)):Nat->List ir->Prop
 | _,[]=>True
 | i,d :: ds=>Cl tab base T0 Vs Cs Es i d/\iR tab base T0 Vs Cs Es (i+1) ds
theorem BJ (T:Tm) (t:Nat) (w:Bool):bw T (some (t,w))=match ae T t with | .bool b=>some (b == w) | .tup []=>some false | _=>none:=by
 unfold ae
 rw [List.getD_eq_getElem?_getD]
 cases h:T[t]? with
 | none=>simp only [bw,h]; rfl
 | some v =>
  simp only [bw,h,Option.getD_some]
  cases v with
  | tup vs=>cases vs <;> rfl
  | _=>rfl
theorem QD {base:Nat} {T:Tm} {Cs:List Heap} {Es:List (Option Ent)} {op:AOp} {w:AV} (hz:qO op=true) (hp:aM (Src.ev T) op=none):∀ {looks:List (Nat × List Nat)},jE tab base T Cs Es op w looks->(looks.all fun p=>match aW (Src.ev T) (da base Es (Cs.getD p.1 default) p.2) 0 op with | some (v,_)=>AV.beq v w | none=>false)=true
 | [],_=>rfl
 | (k,adds) :: r,h=>by
  obtain ⟨h1,h2⟩:=h
  obtain ⟨v,H',rfl,N,g⟩:=jU h1.run
  have g:=g N N (Nat.le_refl _) (Nat.le_refl _)
  have hh:aW (Src.ev T) (da base Es (Cs.getD k default) adds) 0 op=some (v,H'):=by
   cases op <;> first | (simp only [vz,hp] at g; exact g) | (simp [qO,AOp.looks,AOp.isPure] at hz; done)
  rw [List.all_cons,QD hz hp h2]
  simp only [hh,AV.beq_refl',Bool.and_true]
theorem y5 {base:Nat} {T0:Tm} {s:DS} {i:Nat} {d:ir} (h:Cl tab base T0 s.Vs s.Cs s.Es i d):jc base T0 s i d=true:=by
 obtain ⟨dst,op,g,us,c,looks⟩:=d
 cases c with
 | succ c=>rfl
 | zero =>
  cases g with
  | none =>
   obtain ⟨hz,h1⟩:=h
   unfold jc
   simp only [show bw (bO T0 s.Vs us) none=some true from rfl]
   cases hp:aM (Src.ev (bO T0 s.Vs us)) op with
   | some v=>rfl
   | none=>exact QD hz hp h1
  | some p =>
   obtain ⟨t,w⟩:=p
   unfold Cl iS at h
   simp only at h
   unfold jc
   simp only [BJ]
   cases hg:ae (bO T0 s.Vs us) t with
   | bool b =>
    rw [hg] at h
    simp only at h
    by_cases hb:b=w
    ·rw [if_pos hb] at h
     subst hb
     simp only [beq_self_eq_true]
     cases hp:aM (Src.ev (bO T0 s.Vs us)) op with
     | some v=>rfl
     | none=>exact QD h.1 hp h.2
    ·have:(b == w)=false:=by simpa using hb
     simp only [this]
   | tup vs=>cases vs <;> rfl
   | _=>rw [hg] at h; exact h.elim
theorem q9 {base:Nat} {T0:Tm} {s:DS}:∀ (ds:List ir) (i:Nat),iR tab base T0 s.Vs s.Cs s.Es i ds->jL base T0 s i ds=true
 | [],i,_=>rfl
 | d :: ds,i,h=>by
  unfold jL
  rw [q9 ds _ h.2,y5 h.1]; rfl
def MV (tab:Nat->Option aq) (base:Nat) (T0:Tm) (ds:List ir) (late:List Nat) (Q:Tm->Heap->Prop) (s:DS):Prop:=iR tab base T0 s.Vs s.Cs s.Es 0 ds/\Q (e9 T0 ds s.Vs) (da base s.Es (s.Cs.getLastD default) late)
theorem aO {rd:Bool} {ds:List ir} {late:List Nat} {T:Tm} {H:Heap} {Q:Ex->Tm->Heap->Prop} (h:WD tab H.next T 0 ds ⟨[],[H.up ds.length],[]⟩ (MV tab H.next T ds late (Q .nrm))):WC tab rd (.draw ds late) T H Q:=by
 obtain ⟨s,⟨hs,hq⟩,N,g⟩:=uA _ _ _ _ h.run
 have hs:=q9 _ _ hs
 refine ⟨.nrm,_,_,⟨N,fun m n hm hn=>?_⟩,hq⟩
 simp only [aG,AX]
 rw [show ({ H with next:=H.next+ds.length }:Heap)=H.up ds.length from rfl,g m n hm hn]
 simp only [hs,if_true]
variable {base i k:Nat} {T0:Tm} {dst:Option Nat} {op:AOp} {us:List (Nat × Option Nat)} {adds:List Nat} {r:List (Nat × List Nat)} {ds:List ir} {Vs:List AV} {Cs:List Heap} {Es:List (Option Ent)} {Q:DS->Prop}
theorem K8:WD tab base T0 i [] ⟨Vs,Cs,Es⟩ Q=Q ⟨Vs,Cs,Es⟩:=by rw [xc]; rfl
theorem Jk:WD tab base T0 i (⟨dst,op,none,us,0,(k,adds) :: r⟩ :: ds) ⟨Vs,Cs,Es⟩ Q=(qO op=true/\jT tab (Src.ev (bO T0 Vs us)) (da base Es (Cs.getD k default) adds) 0 op fun v _=>WD tab base T0 (i+1) ds ⟨Vs++[v],Cs,Es++[none]⟩ Q):=by rw [xc]; rfl
theorem Jj:WD tab base T0 i (⟨dst,op,none,us,1,r⟩ :: ds) ⟨Vs,Cs,Es⟩ Q=(op.makes=true/\jT tab (Src.ev (bO T0 Vs us)) (Heap.nil 0) (base+i) op fun v H'=>WD tab base T0 (i+1) ds ⟨Vs++[v],Cs,Es++[H'.get (base+i)]⟩ Q):=by
 rw [xc]
 conv=>lhs; unfold wd
 cases r <;> rfl
theorem K9:WD tab base T0 i (⟨dst,op,none,us,2,[(k,adds)]⟩ :: ds) ⟨Vs,Cs,Es⟩ Q=jT tab (Src.ev (bO T0 Vs us)) (da base Es (Cs.getD k default) adds) (base+i) op fun v H'=>WD tab base T0 (i+1) ds ⟨Vs++[v],Cs++[H'],Es++[none]⟩ Q:=by rw [xc]; rfl
theorem Gu {t:Nat} {w:Bool}:WD tab base T0 i (⟨dst,op,some (t,w),us,0,(k,adds) :: r⟩ :: ds) ⟨Vs,Cs,Es⟩ Q =
  iS (ae (bO T0 Vs us) t) w (qO op=true/\jT tab (Src.ev (bO T0 Vs us)) (da base Es (Cs.getD k default) adds) 0 op fun v _=>WD tab base T0 (i+1) ds ⟨Vs++[v],Cs,Es++[none]⟩ Q) (WD tab base T0 (i+1) ds ⟨Vs++[.tup []],Cs,Es++[none]⟩ Q) () ():=by
 rw [xc]
 have hw:bw (bO T0 Vs us) (some (t,w))=match ae (bO T0 Vs us) t with | .bool b=>some (b == w) | .tup []=>some false | _=>none:=by
  generalize bO T0 Vs us=T
  unfold ae
  rw [List.getD_eq_getElem?_getD]
  cases h:T[t]? with
  | none=>simp only [bw,h]; rfl
  | some v =>
   simp only [bw,h,Option.getD_some]
   cases v with
   | tup vs=>cases vs <;> rfl
   | _=>rfl
 conv=>lhs; unfold wd
 simp only [hw,iS]
 cases ae (bO T0 Vs us) t with
 | bool b=>cases b <;> cases w <;> rfl
 | tup vs=>cases vs <;> rfl
 | _=>rfl
theorem GB (T0:Tm) (Vs:List AV):bO T0 Vs []=List.replicate T0.length .undef:=rfl
theorem GA (T0:Tm) (Vs:List AV) (u:Nat × Option Nat):bO T0 Vs [u]=(List.replicate T0.length .undef).set u.1 (kr T0 Vs u):=rfl
theorem Gz (T0:Tm) (Vs:List AV) (u v:Nat × Option Nat):bO T0 Vs [u,v]=((List.replicate T0.length .undef).set u.1 (kr T0 Vs u)).set v.1 (kr T0 Vs v):=rfl
theorem BL (T0:Tm) (Vs:List AV) (u v w:Nat × Option Nat):bO T0 Vs [u,v,w]=(((List.replicate T0.length .undef).set u.1 (kr T0 Vs u)).set v.1 (kr T0 Vs v)).set w.1 (kr T0 Vs w):=rfl
theorem Sh (T0:Tm) (Vs:List AV) (n:Nat):kr T0 Vs (n,none)=ae T0 n:=rfl
theorem Gy (T0:Tm) (Vs:List AV) (n j:Nat):kr T0 Vs (n,some j)=Vs.getD j .undef:=rfl
theorem pt (base:Nat) (Es:List (Option Ent)) (C:Heap):da base Es C []=C:=rfl
theorem nk (base:Nat) (Es:List (Option Ent)) (C:Heap) (a:Nat) (l:List Nat):da base Es C (a :: l)=da base Es (match Es.getD a none with | some e=>C.put (base+a) e | none=>C) l:=rfl
theorem gM (T:Tm) (d:ir) (ds:List ir) (v:AV) (vs:List AV):e9 T (d :: ds) (v :: vs)=e9 (putT T d.dst v) ds vs:=rfl
theorem iN (T:Tm) (vs:List AV):e9 T [] vs=T:=by cases vs <;> rfl
theorem J6 {base:Nat} {T0:Tm} {ds:List ir} {late:List Nat} {Q:Tm->Heap->Prop}:MV tab base T0 ds late Q ⟨Vs,Cs,Es⟩=(iR tab base T0 Vs Cs Es 0 ds/\Q (e9 T0 ds Vs) (da base Es (Cs.getLastD default) late)):=rfl
theorem LM {Vs:List AV} {Cs:List Heap} {Es:List (Option Ent)} {i:Nat}:iR tab base T0 Vs Cs Es i []=True:=rfl
theorem JR {g:Option (Nat × Bool)} {r:List (Nat × List Nat)}:iR tab base T0 Vs Cs Es i (⟨dst,op,g,us,1,r⟩ :: ds)=iR tab base T0 Vs Cs Es (i+1) ds:=by
 show (True/\_)=_
 simp
theorem JQ {g:Option (Nat × Bool)} {r:List (Nat × List Nat)}:iR tab base T0 Vs Cs Es i (⟨dst,op,g,us,2,r⟩ :: ds)=iR tab base T0 Vs Cs Es (i+1) ds:=by
 show (True/\_)=_
 simp
theorem JP {r:List (Nat × List Nat)}:iR tab base T0 Vs Cs Es i (⟨dst,op,none,us,0,r⟩ :: ds)=((qO op=true/\jE tab base (bO T0 Vs us) Cs Es op (Vs.getD i .undef) r)/\iR tab base T0 Vs Cs Es (i+1) ds):=rfl
theorem HE {t:Nat} {w:Bool} {r:List (Nat × List Nat)}:iR tab base T0 Vs Cs Es i (⟨dst,op,some (t,w),us,0,r⟩ :: ds)=(iS (ae (bO T0 Vs us) t) w (qO op=true/\jE tab base (bO T0 Vs us) Cs Es op (Vs.getD i .undef) r) True () ()/\iR tab base T0 Vs Cs Es (i+1) ds):=rfl
theorem LP {T:Tm} {w:AV}:jE tab base T Cs Es op w []=True:=rfl
theorem JU {T:Tm} {w:AV} {r:List (Nat × List Nat)}:jE tab base T Cs Es op w ((k,adds) :: r)=(jT tab (Src.ev T) (da base Es (Cs.getD k default) adds) 0 op (fun v _=>v=w)/\jE tab base T Cs Es op w r):=rfl
theorem KJ {x:Src}:qO (.mv x)=true:=rfl
theorem F4 {a b c:Src}:qO (.pick a b c)=true:=rfl
theorem Ef {z:List AV} {ps:List ((Nat × Nat) × Src)}:qO (.build z ps)=true:=rfl
theorem Ed {x:Src}:qO (.nilCheck x)=true:=rfl
theorem IU {o:BinOp} {k:BK} {x y:Src}:qO (.bin o k x y)=true:=rfl
theorem KI {o:UnOp} {x:Src}:qO (.un o x)=true:=rfl
theorem F7 {k:IntKind} {x:Src}:qO (.conv k x)=true:=rfl
theorem F5 {f:Fn} {a b:List Src}:qO (.mkfn f a b)=true:=rfl
theorem Ec {n:Nat} {x:Src} {a b c:Option Src}:qO (.slice n x a b c)=true:=rfl
theorem KK {n:Nat} {x:Src}:qO (.fieldAddr n x)=true:=rfl
theorem Ee {k:Option Nat} {n:Nat} {x:Src}:qO (.field k n x)=true:=rfl
theorem IS {n:Nat} {x y:Src}:qO (.indexAddr n x y)=true:=rfl
theorem IT {n:Nat} {x:Src}:qO (.extract n x)=true:=rfl
theorem IR {x:Src}:qO (.len x)=true:=rfl
theorem F6 {k:Option Nat} {x:Src}:qO (.load k x)=true:=rfl
theorem IP {xs:List Src}:qO (.min xs)=true:=rfl
theorem IQ {xs:List Src}:qO (.max xs)=true:=rfl
theorem E0 {n:Nat} {z:List AV}:AOp.makes (.alloc n z)=true:=rfl
theorem JO {n:Nat} {x:Src}:AOp.makes (.box n x)=true:=rfl
theorem LK {n m k:Nat} {z:List AV} {ps:List ((Nat × Nat) × Src)}:AOp.makes (.buildSlice n m z k ps)=true:=rfl
theorem HC {n m k:Nat} {z:List AV} {a b:Src}:AOp.makes (.mksl n m k z a b)=true:=rfl
end
theorem az {A1 B1:Prop} (a:A1) (b:B1):A1/\B1:=⟨a,b⟩
theorem aC {A1 B1 C1:Prop} (a:A1) (b:B1) (c:C1):A1/\B1/\C1:=⟨a,b,c⟩
theorem bg {A1 B1 C1 D1:Prop} (a:A1) (b:B1) (c:C1) (d:D1):A1/\B1/\C1/\D1:=⟨a,b,c,d⟩
theorem cJ {A1 B1 C1 D1 E1:Prop} (a:A1) (b:B1) (c:C1) (d:D1) (e:E1):A1/\B1/\C1/\D1/\E1:=⟨a,b,c,d,e⟩
theorem fW {A1 B1 C1 D1 E1 F1:Prop} (a:A1) (b:B1) (c:C1) (d:D1) (e:E1) (f:F1):A1/\B1/\C1/\D1/\E1/\F1:=⟨a,b,c,d,e,f⟩
theorem jm {A1 B1 C1 D1 E1 F1 G1:Prop} (a:A1) (b:B1) (c:C1) (d:D1) (e:E1) (f:F1) (g:G1):A1/\B1/\C1/\D1/\E1/\F1/\G1:=⟨a,b,c,d,e,f,g⟩
theorem mw {A1 B1 C1 D1 E1 F1 G1 H1:Prop} (a:A1) (b:B1) (c:C1) (d:D1) (e:E1) (f:F1) (g:G1) (h:H1):A1/\B1/\C1/\D1/\E1/\F1/\G1/\H1:=⟨a,b,c,d,e,f,g,h⟩
theorem kU {A1 B1 C1 D1 E1 F1 G1 H1 I1:Prop} (a:A1) (b:B1) (c:C1) (d:D1) (e:E1) (f:F1) (g:G1) (h:H1) (i:I1):A1/\B1/\C1/\D1/\E1/\F1/\G1/\H1/\I1:=⟨a,b,c,d,e,f,g,h,i⟩
theorem nE {A1 B1 C1 D1 E1 F1 G1 H1 I1 J1:Prop} (a:A1) (b:B1) (c:C1) (d:D1) (e:E1) (f:F1) (g:G1) (h:H1) (i:I1) (j:J1):A1/\B1/\C1/\D1/\E1/\F1/\G1/\H1/\I1/\J1:=⟨a,b,c,d,e,f,g,h,i,j⟩
theorem p9 {A1 B1 C1 D1 E1 F1 G1 H1 I1 J1 K1:Prop} (a:A1) (b:B1) (c:C1) (d:D1) (e:E1) (f:F1) (g:G1) (h:H1) (i:I1) (j:J1) (k:K1):A1/\B1/\C1/\D1/\E1/\F1/\G1/\H1/\I1/\J1/\K1:=⟨a,b,c,d,e,f,g,h,i,j,k⟩
theorem zM {A1 B1 C1 D1 E1 F1 G1 H1 I1 J1 K1 L1:Prop} (a:A1) (b:B1) (c:C1) (d:D1) (e:E1) (f:F1) (g:G1) (h:H1) (i:I1) (j:J1) (k:K1) (l:L1):A1/\B1/\C1/\D1/\E1/\F1/\G1/\H1/\I1/\J1/\K1/\L1:=⟨a,b,c,d,e,f,g,h,i,j,k,l⟩
theorem Ei {A1 B1 C1 D1 E1 F1 G1 H1 I1 J1 K1 L1 M1:Prop} (a:A1) (b:B1) (c:C1) (d:D1) (e:E1) (f:F1) (g:G1) (h:H1) (i:I1) (j:J1) (k:K1) (l:L1) (m:M1):A1/\B1/\C1/\D1/\E1/\F1/\G1/\H1/\I1/\J1/\K1/\L1/\M1:=⟨a,b,c,d,e,f,g,h,i,j,k,l,m⟩
theorem Eh {A1 B1 C1 D1 E1 F1 G1 H1 I1 J1 K1 L1 M1 N1:Prop} (a:A1) (b:B1) (c:C1) (d:D1) (e:E1) (f:F1) (g:G1) (h:H1) (i:I1) (j:J1) (k:K1) (l:L1) (m:M1) (n:N1):A1/\B1/\C1/\D1/\E1/\F1/\G1/\H1/\I1/\J1/\K1/\L1/\M1/\N1:=⟨a,b,c,d,e,f,g,h,i,j,k,l,m,n⟩
theorem KN {A1 B1 C1 D1 E1 F1 G1 H1 I1 J1 K1 L1 M1 N1 O1:Prop} (a:A1) (b:B1) (c:C1) (d:D1) (e:E1) (f:F1) (g:G1) (h:H1) (i:I1) (j:J1) (k:K1) (l:L1) (m:M1) (n:N1) (o:O1):A1/\B1/\C1/\D1/\E1/\F1/\G1/\H1/\I1/\J1/\K1/\L1/\M1/\N1/\O1:=⟨a,b,c,d,e,f,g,h,i,j,k,l,m,n,o⟩
theorem Ml {A1 B1 C1 D1 E1 F1 G1 H1 I1 J1 K1 L1 M1 N1 O1 P1 Q1:Prop} (a:A1) (b:B1) (c:C1) (d:D1) (e:E1) (f:F1) (g:G1) (h:H1) (i:I1) (j:J1) (k:K1) (l:L1) (m:M1) (n:N1) (o:O1) (p:P1) (q:Q1):A1/\B1/\C1/\D1/\E1/\F1/\G1/\H1/\I1/\J1/\K1/\L1/\M1/\N1/\O1/\P1/\Q1:=⟨a,b,c,d,e,f,g,h,i,j,k,l,m,n,o,p,q⟩
theorem KM {A1 B1 C1 D1 E1 F1 G1 H1 I1 J1 K1 L1 M1 N1 O1 P1 Q1 R1:Prop} (a:A1) (b:B1) (c:C1) (d:D1) (e:E1) (f:F1) (g:G1) (h:H1) (i:I1) (j:J1) (k:K1) (l:L1) (m:M1) (n:N1) (o:O1) (p:P1) (q:Q1) (r:R1):A1/\B1/\C1/\D1/\E1/\F1/\G1/\H1/\I1/\J1/\K1/\L1/\M1/\N1/\O1/\P1/\Q1/\R1:=⟨a,b,c,d,e,f,g,h,i,j,k,l,m,n,o,p,q,r⟩
theorem KL {A1 B1 C1 D1 E1 F1 G1 H1 I1 J1 K1 L1 M1 N1 O1 P1 Q1 R1 S1:Prop} (a:A1) (b:B1) (c:C1) (d:D1) (e:E1) (f:F1) (g:G1) (h:H1) (i:I1) (j:J1) (k:K1) (l:L1) (m:M1) (n:N1) (o:O1) (p:P1) (q:Q1) (r:R1) (s:S1):A1/\B1/\C1/\D1/\E1/\F1/\G1/\H1/\I1/\J1/\K1/\L1/\M1/\N1/\O1/\P1/\Q1/\R1/\S1:=⟨a,b,c,d,e,f,g,h,i,j,k,l,m,n,o,p,q,r,s⟩
theorem M7 {A1 B1 C1 D1 E1 F1 G1 H1 I1 J1 K1 L1 M1 N1 O1 P1 Q1 R1 S1 T1:Prop} (a:A1) (b:B1) (c:C1) (d:D1) (e:E1) (f:F1) (g:G1) (h:H1) (i:I1) (j:J1) (k:K1) (l:L1) (m:M1) (n:N1) (o:O1) (p:P1) (q:Q1) (r:R1) (s:S1) (t:T1):A1/\B1/\C1/\D1/\E1/\F1/\G1/\H1/\I1/\J1/\K1/\L1/\M1/\N1/\O1/\P1/\Q1/\R1/\S1/\T1:=⟨a,b,c,d,e,f,g,h,i,j,k,l,m,n,o,p,q,r,s,t⟩
def nD:=And.intro (And.intro (And.intro (And.intro (And.intro (And.intro (@GU) (@GT)) (And.intro (@EH) (@EG))) (And.intro (And.intro (@Iu) (@It)) (And.intro (@FJ) (@FK)))) (And.intro (And.intro (And.intro (@GW) (@GV)) (And.intro (@EJ) (@Az))) (And.intro (And.intro (@HG) (@E9)) (And.intro (@E8) (And.intro (@IV) (@KO)))))) (And.intro (And.intro (And.intro (And.intro (@I7) (@zO)) (And.intro (@I5) (@I4))) (And.intro (And.intro (@KP) (@Gb)) (And.intro (@IZ) (@Gc)))) (And.intro (And.intro (And.intro (@uz) (@yu)) (And.intro (@Su) (@IY))) (And.intro (And.intro (@Gj) (@I8)) (And.intro (@xS) (And.intro (@vT) (@Ba))))))) (And.intro (And.intro (And.intro (And.intro (And.intro (@wC) (@IW)) (And.intro (@BC) (@Mm))) (And.intro (And.intro (@I6) (@KS)) (And.intro (@KT) (@Mo)))) (And.intro (And.intro (And.intro (@Gf) (@KU)) (And.intro (@Gi) (@Gd))) (And.intro (And.intro (@Ga) (@I3)) (And.intro (@F9) (And.intro (@KW) (@Mn)))))) (And.intro (And.intro (And.intro (And.intro (@xf) (@KV)) (And.intro (@KR) (@KQ))) (And.intro (And.intro (@BB) (@Ej)) (And.intro (@Hd) (And.intro (@Hb) (@HV))))) (And.intro (And.intro (And.intro (@HU) (@Fm)) (And.intro (@Fo) (@Jh))) (And.intro (And.intro (@Jg) (@Gs)) (And.intro (@Gt) (And.intro (@Gg) (@zN)))))))
def nC:=And.intro (And.intro (And.intro (And.intro (And.intro (And.intro (And.intro (@rQ) (@xS)) (And.intro (@vT) (@Ba))) (And.intro (And.intro (@wC) (@CN)) (And.intro (@yN) (And.intro (@C4) (@Fj))))) (And.intro (And.intro (And.intro (@L4) (@MT)) (And.intro (@gL) (And.intro (@jM) (@Nat.add_assoc)))) (And.intro (And.intro (@Kg) (@Kc)) (And.intro (@DZ) (And.intro (@Kd) (@Ke)))))) (And.intro (And.intro (And.intro (And.intro (@Kf) (@Ii)) (And.intro (@EV) (And.intro (@Lg) (@Ki)))) (And.intro (And.intro (@Kh) (@yY)) (And.intro (@ur) (And.intro (@Md) (@Kb))))) (And.intro (And.intro (And.intro (@List.length_set.{0}) (And.intro (@if_true.{1}) (@if_true.{0}))) (And.intro (And.intro (@if_false.{1}) (@if_false.{0})) (And.intro (@List.length_cons.{0}) (@List.length_nil.{0})))) (And.intro (And.intro (@List.map_cons.{0,0}) (@List.map_nil.{0,0})) (And.intro (@List.append_nil.{0}) (And.intro (@List.nil_append.{0}) (@List.cons_append.{0}))))))) (And.intro (And.intro (And.intro (And.intro (And.intro (@Option.map_some.{0,0}) (@Option.map_none.{0,0})) (And.intro (@Bool.not_true) (And.intro (@Bool.not_false) (@Bool.not_eq_true)))) (And.intro (And.intro (@decide_eq_true_eq) (@Bool.not_eq_true')) (And.intro (@decide_eq_false_iff_not) (And.intro (@Bool.false_eq_true) (@true_or))))) (And.intro (And.intro (And.intro (@or_true) (@true_and)) (And.intro (@and_true) (And.intro (@false_or) (@or_false)))) (And.intro (And.intro (@ne_eq.{1}) (@not_false_eq_true)) (And.intro (@not_true_eq_false) (And.intro (@eq_self.{1}) (@Nat.zero_add)))))) (And.intro (And.intro (And.intro (And.intro (@Nat.add_zero) (@AK)) (And.intro (@Cu) (And.intro (@CM) (@A6)))) (And.intro (And.intro (@Mt) (@LE)) (And.intro (@JX) (And.intro (@cw) (@next_put))))) (And.intro (And.intro (And.intro (@next_kill) (@Lz)) (And.intro (@Ly) (And.intro (@Lx) (@Si)))) (And.intro (And.intro (@EN) (@He)) (And.intro (@Ey) (And.intro (@Ew) (@LO)))))))) (And.intro (And.intro (And.intro (And.intro (And.intro (And.intro (@Ff) (@LW)) (And.intro (@aA) (And.intro (@au) (@cH)))) (And.intro (And.intro (@Lq) (@eE)) (And.intro (@NH) (And.intro (@NG) (@NF))))) (And.intro (And.intro (And.intro (@M9) (@M8)) (And.intro (@MS) (And.intro (@MR) (@gW)))) (And.intro (And.intro (@Ir) (@MZ)) (And.intro (@aF) (And.intro (@aR) (@aV)))))) (And.intro (And.intro (And.intro (And.intro (@bB) (@aY)) (And.intro (@Nat.add_eq) (And.intro (@List.take_zero.{0}) (@List.drop_zero.{0})))) (And.intro (And.intro (@List.take_succ_cons.{0}) (@List.drop_succ_cons.{0})) (And.intro (@List.append_eq.{0}) (And.intro (@decide_true) (@decide_false))))) (And.intro (And.intro (And.intro (@Bool.and_true) (@Bool.and_false)) (And.intro (@Bool.true_and) (And.intro (@Bool.false_and) (@Int.lt_irrefl)))) (And.intro (And.intro (@Nb) (@Na)) (And.intro (@E5) (And.intro (@List.set_cons_zero.{0}) (@List.set_cons_succ.{0}))))))) (And.intro (And.intro (And.intro (And.intro (And.intro (@Int.ofNat_lt) (@Int.ofNat_le)) (And.intro (@Int.natCast_inj) (And.intro (@Int.natCast_pos) (@B5)))) (And.intro (And.intro (@ES) (@List.zip_cons_cons.{0,0})) (And.intro (@List.zip_nil_left.{0,0}) (And.intro (@List.zip_nil_right.{0,0}) (@Nr))))) (And.intro (And.intro (And.intro (@Np) (@No)) (And.intro (@L3) (And.intro (@Fq) (@JM)))) (And.intro (And.intro (@LI) (@LY)) (And.intro (@HW) (And.intro (@Mc) (@L5)))))) (And.intro (And.intro (And.intro (And.intro (@Lh) (@FQ)) (And.intro (@FL) (And.intro (@FN) (@FP)))) (And.intro (And.intro (@sJ) (@sI)) (And.intro (@CR) (And.intro (@FM) (@l9))))) (And.intro (And.intro (And.intro (@Fc) (@yD)) (And.intro (@kj) (And.intro (@mU) (@Dr)))) (And.intro (And.intro (@LU) (@Nat.mul_one)) (And.intro (@Nj) (And.intro (@Ni) (@MQ))))))))
def BH:=And.intro (And.intro (And.intro (@K8) (And.intro (@Jk) (@Gu))) (And.intro (@Jj) (And.intro (@K9) (@J6)))) (And.intro (And.intro (@LM) (And.intro (@JR) (@JQ))) (And.intro (And.intro (@JP) (@HE)) (And.intro (@LP) (@JU))))
def BG:=And.intro (And.intro (And.intro (And.intro (And.intro (@GB) (@GA)) (And.intro (@Gz) (@BL))) (And.intro (And.intro (@Sh) (@Gy)) (And.intro (@pt) (And.intro (@nk) (@gM))))) (And.intro (And.intro (And.intro (@iN) (@List.length_replicate.{0})) (And.intro (@List.getD_cons_zero.{0}) (@List.getD_cons_succ.{0}))) (And.intro (And.intro (@List.getLastD_cons.{0}) (@List.getLastD_nil.{0})) (And.intro (@KJ) (And.intro (@F4) (@Ef)))))) (And.intro (And.intro (And.intro (And.intro (@Ed) (@IU)) (And.intro (@KI) (@F7))) (And.intro (And.intro (@F5) (@Ec)) (And.intro (@KK) (And.intro (@Ee) (@IS))))) (And.intro (And.intro (And.intro (@IT) (@IR)) (And.intro (@F6) (@IP))) (And.intro (And.intro (@IQ) (@E0)) (And.intro (@JO) (And.intro (@LK) (@HC))))))
def NI:=And.intro (And.intro (@LS) (@JV)) (And.intro (@MI) (And.intro (@LQ) (@JW)))
def NE:=And.intro (@K7) (And.intro (@Mr) (@Ji))
theorem zW {F P Q:Prop} (f:F) (q:Q) (h:F->Q->P:=by intro h q; simp -dsimp (maxSteps:=1000000) (disch:=(first | omega | assumption | exact aF _ | exact aR _ _ | exact aV | exact bB _ _ _ | exact aY _ _ | exact aU _ _ _ _ _ _ | exact bI _ _ | exact bc _)) only [↓nD,nC,Nat.reduceLT,Nat.reduceEqDiff,Nat.reduceAdd,reduceIte,reduceCtorEq,Nat.reduceBEq,Int.reduceEq,Int.reduceLT,Int.reduceLE,Int.reduceAdd,Int.reduceSub,h]; exact q):P:=h f q
theorem qN {P Q:Prop} (q:Q) (h:Q->P:=by intro q; simp -dsimp (maxSteps:=1000000) (disch:=(first | omega | assumption | exact aF _ | exact aR _ _ | exact aV | exact bB _ _ _ | exact aY _ _ | exact aU _ _ _ _ _ _ | exact bI _ _ | exact bc _)) only [↓nD,nC,Nat.reduceLT,Nat.reduceEqDiff,Nat.reduceAdd,reduceIte,reduceCtorEq,Nat.reduceBEq,Int.reduceEq,Int.reduceLT,Int.reduceLE,Int.reduceAdd,Int.reduceSub]; exact q):P:=h q
theorem zV {F P:Prop} (f:F) (h:F->P:=by intro h; simp -dsimp (maxSteps:=1000000) (disch:=(first | omega | assumption | exact aF _ | exact aR _ _ | exact aV | exact bB _ _ _ | exact aY _ _ | exact aU _ _ _ _ _ _ | exact bI _ _ | exact bc _)) only [↓nD,nC,Nat.reduceLT,Nat.reduceEqDiff,Nat.reduceAdd,reduceIte,reduceCtorEq,Nat.reduceBEq,Int.reduceEq,Int.reduceLT,Int.reduceLE,Int.reduceAdd,Int.reduceSub,h]):P:=h f
theorem dC {P:Prop} (h:P:=by simp -dsimp (maxSteps:=1000000) (disch:=(first | omega | assumption | exact aF _ | exact aR _ _ | exact aV | exact bB _ _ _ | exact aY _ _ | exact aU _ _ _ _ _ _ | exact bI _ _ | exact bc _)) only [↓nD,nC,Nat.reduceLT,Nat.reduceEqDiff,Nat.reduceAdd,reduceIte,reduceCtorEq,Nat.reduceBEq,Int.reduceEq,Int.reduceLT,Int.reduceLE,Int.reduceAdd,Int.reduceSub]):P:=h
theorem zD {F P Q:Prop} (f:F) (q:Q) (h:F->Q->P:=by intro h q; simp -dsimp (maxSteps:=1000000) (disch:=(first | omega | assumption | exact aF _ | exact aR _ _ | exact aV | exact bB _ _ _ | exact aY _ _ | exact aU _ _ _ _ _ _ | exact bI _ _ | exact bc _)) only [↓nD,nC,↓BH,BG,Nat.reduceLT,Nat.reduceEqDiff,Nat.reduceAdd,reduceIte,reduceCtorEq,Nat.reduceBEq,Int.reduceEq,Int.reduceLT,Int.reduceLE,Int.reduceAdd,Int.reduceSub,h]; exact q):P:=h f q
theorem zE {F P:Prop} (f:F) (h:F->P:=by intro h; simp -dsimp (maxSteps:=1000000) (disch:=(first | omega | assumption | exact aF _ | exact aR _ _ | exact aV | exact bB _ _ _ | exact aY _ _ | exact aU _ _ _ _ _ _ | exact bI _ _ | exact bc _)) only [↓nD,nC,↓BH,BG,Nat.reduceLT,Nat.reduceEqDiff,Nat.reduceAdd,reduceIte,reduceCtorEq,Nat.reduceBEq,Int.reduceEq,Int.reduceLT,Int.reduceLE,Int.reduceAdd,Int.reduceSub,h]):P:=h f
theorem zK {P:Prop} (h:P:=by first | assumption | simp (disch:=(first | omega | assumption | (simp only [cw,next_put,next_kill]; omega))) only [NI] <;> assumption):P:=h
theorem zF {P:Prop} (h:P:=by first | assumption | simp (disch:=(first | omega | assumption | (simp only [cw,next_put,next_kill]; omega))) only [NE] <;> assumption):P:=h
theorem zT (A:Heap) {G C:Heap} (h:Kp A G) (h2:Kp G C):Kp A C/\A.next<=C.next/\Wf C:=⟨h.trans h2,(h.trans h2).le,h2.wf⟩
set_option maxRecDepth 100000
abbrev dj:Nat:=3
abbrev fh:Nat:=4
abbrev fM:Nat:=5
abbrev eh:Nat:=6
abbrev ee:Nat:=7
abbrev ph:Nat:=8
abbrev eK:Nat:=10
abbrev dy:Nat:=9
abbrev cW:Nat:=11
abbrev fd:Nat:=12
abbrev sZ:Nat:=13
abbrev g9:Nat:=14
abbrev rS:Nat:=15
abbrev iw:Nat:=16
abbrev qh:Nat:=18
abbrev kz:Nat:=17
abbrev fg:Nat:=20
abbrev fe:Nat:=21
abbrev dS:Nat:=19
abbrev gf:Nat:=22
abbrev vD:Nat:=23
abbrev dg:Nat:=24
abbrev O4:Nat:=25
abbrev dJ:Nat:=26
abbrev jf:Nat:=27
abbrev lC:Nat:=29
abbrev oj:Nat:=28
abbrev fZ:Nat:=31
abbrev eM:Nat:=30
abbrev pg:Nat:=32
abbrev mE:Nat:=33
abbrev dZ:Nat:=34
abbrev hZ:Nat:=35
abbrev lD:Nat:=36
abbrev qq:Nat:=37
abbrev ol:Nat:=38
abbrev iY:Nat:=39
abbrev lh:Nat:=40
abbrev Qp:Nat:=42
abbrev mF:Nat:=41
abbrev dx:Nat:=45
abbrev vF:Nat:=48
abbrev mD:Nat:=47
abbrev j8:Nat:=46
abbrev y6:Nat:=49
abbrev OP:Nat:=51
abbrev bD:Nat:=50
abbrev dz:Nat:=53
abbrev oi:Nat:=54
abbrev Qh:Nat:=55
abbrev bC:Nat:=56
abbrev iQ:Nat:=57
abbrev mM:Nat:=58
abbrev P7:Nat:=60
abbrev eN:Nat:=59
abbrev kZ:Nat:=44
abbrev rR:Nat:=43
abbrev mC:Nat:=61
abbrev fO:Nat:=63
abbrev cx:Nat:=62
abbrev fN:Nat:=64
abbrev qj:Nat:=65
abbrev kD:Nat:=66
abbrev kC:Nat:=52
abbrev mJ:Nat:=69
abbrev bS:Nat:=70
abbrev kg:Nat:=73
abbrev oo:Nat:=74
abbrev qx:Nat:=75
abbrev cC:Nat:=76
abbrev ke:Nat:=77
abbrev ly:Nat:=78
abbrev cS:Nat:=79
abbrev h9:Nat:=80
abbrev bR:Nat:=82
abbrev cX:Nat:=83
abbrev nV:Nat:=68
abbrev nX:Nat:=67
abbrev cL:Nat:=84
abbrev aX:Nat:=85
abbrev gV:Nat:=86
abbrev bT:Nat:=71
abbrev ka:Nat:=72
abbrev cj:Nat:=90
abbrev jD:Nat:=92
abbrev eQ:Nat:=93
abbrev Pt:Nat:=96
abbrev gg:Nat:=97
abbrev lv:Nat:=98
abbrev gF:Nat:=100
abbrev qi:Nat:=99
abbrev rT:Nat:=81
abbrev jr:Nat:=87
abbrev rX:Nat:=89
abbrev nS:Nat:=88
abbrev cG:Nat:=106
abbrev cm:Nat:=91
abbrev mQ:Nat:=95
abbrev jg:Nat:=94
abbrev OW:Nat:=111
abbrev kE:Nat:=112
abbrev mO:Nat:=114
abbrev mP:Nat:=113
abbrev cr:Nat:=116
abbrev Oy:Nat:=115
abbrev eR:Nat:=117
abbrev nY:Nat:=120
abbrev mI:Nat:=122
abbrev Qb:Nat:=121
abbrev lp:Nat:=118
abbrev aS:Nat:=103
abbrev mH:Nat:=104
abbrev fY:Nat:=110
abbrev lA:Nat:=109
abbrev rV:Nat:=107
abbrev rU:Nat:=108
abbrev nZ:Nat:=143
abbrev qw:Nat:=144
abbrev nU:Nat:=145
abbrev lx:Nat:=146
abbrev ck:Nat:=147
abbrev lq:Nat:=148
abbrev j9:Nat:=149
abbrev lu:Nat:=151
abbrev b9:Nat:=119
abbrev nW:Nat:=105
abbrev mL:Nat:=138
abbrev oh:Nat:=139
abbrev rW:Nat:=141
abbrev qp:Nat:=140
abbrev vG:Nat:=142
abbrev lz:Nat:=134
abbrev Qt:Nat:=135
abbrev g8:Nat:=136
abbrev PA:Nat:=137
abbrev rY:Nat:=162
abbrev kY:Nat:=150
abbrev dR:Nat:=164
abbrev nT:Nat:=133
abbrev PB:Nat:=158
abbrev qm:Nat:=159
abbrev QA:Nat:=157
abbrev lB:Nat:=168
abbrev rZ:Nat:=169
abbrev iP:Nat:=163
abbrev fc:Nat:=166
abbrev lH:Nat:=171
abbrev qv:Nat:=172
abbrev de:Nat:=173
abbrev vE:Nat:=174
abbrev eP:Nat:=175
abbrev fj:Nat:=176
abbrev fk:Nat:=177
abbrev mN:Nat:=179
abbrev qk:Nat:=178
abbrev cu:Nat:=180
abbrev gZ:Nat:=181
abbrev PC:Nat:=132
abbrev QB:Nat:=182
abbrev aT:Nat:=183
abbrev fL:Nat:=3
abbrev iK:Nat:=27
abbrev af:Nat:=32
abbrev cA:Nat:=34
abbrev t_api_Gen:Nat:=38
abbrev dG:Nat:=45
abbrev aE:Nat:=46
abbrev aa:Nat:=48
abbrev dY:Nat:=61
abbrev px:Nat:=62
abbrev OZ:Nat:=71
abbrev NT:Nat:=72
abbrev ad:Nat:=82
abbrev yE:Nat:=88
abbrev aN:Nat:=108
abbrev dF:Nat:=131
abbrev jV:Nat:=152
abbrev aD:Nat:=171
abbrev eI:Nat:=219
theorem Nd (n:Nat):Int.ofNat n=(OfNat.ofNat n:Int):=rfl
theorem MF:Int.negSucc 0 = -1:=rfl
theorem MO (id id1 i n c k:Nat) (body:ACode):ACode.block id (.loop (.seq (.region [⟨some c,.bin .lss .int (.t i) (.t n),none⟩]) (.seq (.cond (.t c) .skip (.exit id)) (.seq (.block id1 body) (.region [⟨some k,.bin .add .int (.t i) (.c (.int .i64 1)),none⟩,⟨some i,.mv (.t k),none⟩])))))=J3 id id1 i n c k body:=rfl
theorem MP (id:Nat) (c:ACode):ACode.block id (.loop c)=Is id c:=rfl
set_option maxHeartbeats 8000000
def ai (f:Func) (a:aq) (_:L9 Tryz.prog f=some a:=by conv=>lhs; reduce; dsimp only [↓Nd,↓MF]; (try dsimp only [MO]); (try dsimp only [MP])):aq:=a
def cY:aq:=ai Tryz.f3 _
def c_facetroomlaw21_DualSpans:aq:=ai Tryz.f4 _
def fR:aq:=ai Tryz.f5 _
def ij:aq:=ai Tryz.f6 _
def dq:aq:=ai Tryz.f7 _
def ym:aq:=ai Tryz.f8 _
def iz:aq:=ai Tryz.f10 _
def fQ:aq:=ai Tryz.f9 _
def ig:aq:=ai Tryz.f11 _
def fu:aq:=ai Tryz.f12 _
def tQ:aq:=ai Tryz.f13 _
def ic:aq:=ai Tryz.f14 _
def yd:aq:=ai Tryz.f15 _
def iA:aq:=ai Tryz.f16 _
def wD:aq:=ai Tryz.f18 _
def tE:aq:=ai Tryz.f17 _
def jj:aq:=ai Tryz.f20 _
def ji:aq:=ai Tryz.f21 _
def gQ:aq:=ai Tryz.f19 _
def jA:aq:=ai Tryz.f22 _
def Bb:aq:=ai Tryz.f23 _
def fw:aq:=ai Tryz.f24 _
def il:aq:=ai Tryz.f25 _
def pX:aq:=ai Tryz.f26 _
def tO:aq:=ai Tryz.f27 _
def c_dual_points:aq:=ai Tryz.f29 _
def tP:aq:=ai Tryz.f28 _
def jx:aq:=ai Tryz.f31 _
def iB:aq:=ai Tryz.f30 _
def ye:aq:=ai Tryz.f32 _
def rq:aq:=ai Tryz.f33 _
def ie:aq:=ai Tryz.f34 _
def ik:aq:=ai Tryz.f35 _
def pW:aq:=ai Tryz.f36 _
def wM:aq:=ai Tryz.f37 _
def c_dual_cons:aq:=ai Tryz.f38 _
def pK:aq:=ai Tryz.f39 _
def pM:aq:=ai Tryz.f40 _
def rt:aq:=ai Tryz.f42 _
def wE:aq:=ai Tryz.f41 _
def fP:aq:=ai Tryz.f45 _
def Be:aq:=ai Tryz.f48 _
def rp:aq:=ai Tryz.f47 _
def oK:aq:=ai Tryz.f46 _
def pY:aq:=ai Tryz.f49 _
def fV:aq:=ai Tryz.f51 _
def OE:aq:=ai Tryz.f50 _
def fU:aq:=ai Tryz.f53 _
def tN:aq:=ai Tryz.f54 _
def c_cone_Gens:aq:=ai Tryz.f55 _
def cy:aq:=ai Tryz.f56 _
def mo:aq:=ai Tryz.f57 _
def rA:aq:=ai Tryz.f58 _
def jy:aq:=ai Tryz.f60 _
def iC:aq:=ai Tryz.f59 _
def pL:aq:=ai Tryz.f44 _
def yc:aq:=ai Tryz.f43 _
def rn:aq:=ai Tryz.f61 _
def fT:aq:=ai Tryz.f63 _
def cz:aq:=ai Tryz.f62 _
def Pj:aq:=ai Tryz.f64 _
def wH:aq:=ai Tryz.f65 _
def tK:aq:=ai Tryz.f66 _
def tG:aq:=ai Tryz.f52 _
def wI:aq:=ai Tryz.f69 _
def cP:aq:=ai Tryz.f70 _
def c_cone_checked:aq:=ai Tryz.f73 _
def tV:aq:=ai Tryz.f74 _
def wT:aq:=ai Tryz.f75 _
def c_P_cone_under_add:aq:=ai Tryz.f76 _
def oO:aq:=ai Tryz.f77 _
def pS:aq:=ai Tryz.f78 _
def OH:aq:=⟨2,2,[],.skip,(some (.sortF af [h9]))⟩
def oQ:aq:=ai Tryz.f80 _
def cN:aq:=ai Tryz.f82 _
def iD:aq:=ai Tryz.f83 _
def tz:aq:=ai Tryz.f68 _
def tD:aq:=ai Tryz.f67 _
def cO:aq:=ai Tryz.f84 _
def bM:aq:=ai Tryz.f85 _
def rr:aq:=ai Tryz.f86 _
def cQ:aq:=ai Tryz.f71 _
def oM:aq:=ai Tryz.f72 _
def O5:aq:=ai Tryz.f90 _
def rx:aq:=ai Tryz.f92 _
def iG:aq:=ai Tryz.f93 _
def c_P_cone_under_cut:aq:=ai Tryz.f96 _
def c_P_cone_under_fold:aq:=ai Tryz.f97 _
def pQ:aq:=ai Tryz.f98 _
def kn:aq:=ai Tryz.f100 _
def wF:aq:=ai Tryz.f99 _
def yf:aq:=ai Tryz.f81 _
def ny:aq:=ai Tryz.f87 _
def yj:aq:=ai Tryz.f89 _
def tu:aq:=ai Tryz.f88 _
def dW:aq:=ai Tryz.f106 _
def dr:aq:=ai Tryz.f91 _
def wS:aq:=ai Tryz.f95 _
def tT:aq:=ai Tryz.f94 _
def jB:aq:=ai Tryz.f111 _
def tU:aq:=ai Tryz.f112 _
def wP:aq:=ai Tryz.f114 _
def wQ:aq:=ai Tryz.f113 _
def du:aq:=ai Tryz.f116 _
def dt:aq:=ai Tryz.f115 _
def c_P_rows_form_put:aq:=ai Tryz.f117 _
def tF:aq:=ai Tryz.f120 _
def rv:aq:=ai Tryz.f122 _
def oN:aq:=ai Tryz.f121 _
def pN:aq:=ai Tryz.f118 _
def bF:aq:=ai Tryz.f103 _
def ru:aq:=ai Tryz.f104 _
def jw:aq:=ai Tryz.f110 _
def pU:aq:=ai Tryz.f109 _
def yh:aq:=ai Tryz.f107 _
def yg:aq:=ai Tryz.f108 _
def c_sat_Signs:aq:=ai Tryz.f143 _
def wR:aq:=ai Tryz.f144 _
def tx:aq:=ai Tryz.f145 _
def QQ:aq:=ai Tryz.f146 _
def OL:aq:=⟨3,3,[],
 .skip,
 (some (.insert 1 24 af))⟩
def pO:aq:=ai Tryz.f148 _
def oL:aq:=ai Tryz.f149 _
def pP:aq:=ai Tryz.f151 _
def OY:aq:=ai Tryz.f119 _
def tC:aq:=ai Tryz.f105 _
def rz:aq:=ai Tryz.f138 _
def tM:aq:=ai Tryz.f139 _
def yi:aq:=ai Tryz.f141 _
def wL:aq:=ai Tryz.f140 _
def Bf:aq:=ai Tryz.f142 _
def pT:aq:=ai Tryz.f134 _
def ry:aq:=ai Tryz.f135 _
def Qk:aq:=⟨3,3,[],
 .skip,
 (some .add64)⟩
def kN:aq:=⟨3,3,[],
 .skip,
 (some .sub64)⟩
def yl:aq:=ai Tryz.f162 _
def pJ:aq:=ai Tryz.f150 _
def mm:aq:=ai Tryz.f164 _
def tw:aq:=ai Tryz.f133 _
def kO:aq:=ai Tryz.f158 _
def wK:aq:=ai Tryz.f159 _
def tH:aq:=ai Tryz.f157 _
def pV:aq:=ai Tryz.f168 _
def yn:aq:=ai Tryz.f169 _
def ml:aq:=ai Tryz.f163 _
def oP:aq:=ai Tryz.f166 _
def pZ:aq:=ai Tryz.f171 _
def wO:aq:=ai Tryz.f172 _
def ft:aq:=ai Tryz.f173 _
def Bc:aq:=ai Tryz.f174 _
def iF:aq:=ai Tryz.f175 _
def jk:aq:=ai Tryz.f176 _
def jl:aq:=ai Tryz.f177 _
def wN:aq:=ai Tryz.f179 _
def wJ:aq:=ai Tryz.f178 _
def dH:aq:=ai Tryz.f180 _
def kQ:aq:=ai Tryz.f181 _
def kP:aq:=⟨1,25,[(2,none)],
 .seq (.region [
 ⟨(some 2),.mv (.c (.int .i64 0)),none⟩]) <|
 .seq (.seq (.region [
 ⟨(some 3),.mv (.t 0),none⟩,
 ⟨(some 4),.bin .geq .int (.t 3) (.c (.int .u64 4294967296)),none⟩]) <|
 .cond (.t 4)
 (.seq (.region [
  ⟨(some 5),.mv (.t 0),none⟩,
  ⟨(some 6),.bin .shr .int (.t 5) (.c (.int .u64 32)),none⟩,
  ⟨(some 0),.mv (.t 6),none⟩]) <|
 .region [
  ⟨(some 2),.mv (.c (.int .i64 32)),none⟩])
 (.skip)) <|
 .seq (.seq (.region [
 ⟨(some 7),.mv (.t 0),none⟩,
 ⟨(some 8),.bin .geq .int (.t 7) (.c (.int .u64 65536)),none⟩]) <|
 .cond (.t 8)
 (.seq (.region [
  ⟨(some 9),.mv (.t 0),none⟩,
  ⟨(some 10),.bin .shr .int (.t 9) (.c (.int .u64 16)),none⟩,
  ⟨(some 0),.mv (.t 10),none⟩]) <|
 .region [
  ⟨(some 11),.mv (.t 2),none⟩,
  ⟨(some 12),.bin .add .int (.t 11) (.c (.int .i64 16)),none⟩,
  ⟨(some 2),.mv (.t 12),none⟩])
 (.skip)) <|
 .seq (.seq (.region [
 ⟨(some 13),.mv (.t 0),none⟩,
 ⟨(some 14),.bin .geq .int (.t 13) (.c (.int .u64 256)),none⟩]) <|
 .cond (.t 14)
 (.seq (.region [
  ⟨(some 15),.mv (.t 0),none⟩,
  ⟨(some 16),.bin .shr .int (.t 15) (.c (.int .u64 8)),none⟩,
  ⟨(some 0),.mv (.t 16),none⟩]) <|
 .region [
  ⟨(some 17),.mv (.t 2),none⟩,
  ⟨(some 18),.bin .add .int (.t 17) (.c (.int .i64 8)),none⟩,
  ⟨(some 2),.mv (.t 18),none⟩])
 (.skip)) <|
 .seq (.region [
 ⟨(some 19),.mv (.t 2),none⟩,
 ⟨(some 20),.mv (.t 0),none⟩,
 ⟨(some 21),.conv .u8 (.t 20),none⟩,
 ⟨(some 22),.indexStr (.c (.str ⟨#[0,1,2,2,3,3,3,3,4,4,4,4,4,4,4,4,5,5,5,5,5,5,5,5,5,5,5,5,5,5,5,5,6,6,6,6,6,6,6,6,6,6,6,6,6,6,6,6,6,6,6,6,6,6,6,6,6,6,6,6,6,6,6,6,7,7,7,7,7,7,7,7,7,7,7,7,7,7,7,7,7,7,7,7,7,7,7,7,7,7,7,7,7,7,7,7,7,7,7,7,7,7,7,7,7,7,7,7,7,7,7,7,7,7,7,7,7,7,7,7,7,7,7,7,7,7,7,7,8,8,8,8,8,8,8,8,8,8,8,8,8,8,8,8,8,8,8,8,8,8,8,8,8,8,8,8,8,8,8,8,8,8,8,8,8,8,8,8,8,8,8,8,8,8,8,8,8,8,8,8,8,8,8,8,8,8,8,8,8,8,8,8,8,8,8,8,8,8,8,8,8,8,8,8,8,8,8,8,8,8,8,8,8,8,8,8,8,8,8,8,8,8,8,8,8,8,8,8,8,8,8,8,8,8,8,8,8,8,8,8,8,8,8,8,8,8,8,8,8,8,8,8,8,8,8,8]⟩)) (.t 21),none⟩,
 ⟨(some 23),.conv .i64 (.t 22),none⟩,
 ⟨(some 24),.bin .add .int (.t 19) (.t 23),none⟩,
 ⟨(some 2),.mv (.t 24),none⟩]) <|
 .ret,
 none⟩
def tJ:aq:=ai Tryz.f182 _
def OJ:aq:=ai Tryz.f183 _
structure Code (tab:Nat->Option aq):Prop where
 facetroomlaw21_DualKeeps:tab dj=some cY
 facetroomlaw21_DualSpans:tab fh=some c_facetroomlaw21_DualSpans
 facetroomlaw21_DualBack:tab fM=some fR
 facetroomlaw21_alive:tab eh=some ij
 facetroomlaw21_great:tab ee=some dq
 dual_Of:tab ph=some ym
 facetroomref21_Unit:tab eK=some iz
 facetroomref21_SameCons:tab dy=some fQ
 facetroomlaw21_keeps:tab cW=some ig
 facetroomref21_GreatGens:tab fd=some fu
 dual_Span:tab sZ=some tQ
 facetroomref21_Great:tab g9=some ic
 vec_Mix:tab rS=some yd
 facetroomref21_Same:tab iw=some iA
 whole_Of:tab qh=some wD
 vec_Scale:tab kz=some tE
 facetroomlaw21_con:tab fg=some jj
 facetroomlaw21_gen:tab fe=some ji
 facetroomlaw21_points:tab dS=some gQ
 facetroomlaw21_eq:tab gf=some jA
 vec_Of:tab vD=some Bb
 facetroomref21_GreatCons:tab dg=some fw
 dual_checked_api_Con:tab O4=some il
 dual_conRow:tab dJ=some pX
 dual_none:tab jf=some tO
 dual_points:tab lC=some c_dual_points
 dual_made:tab oj=some tP
 facetroomref05_Of:tab fZ=some jx
 facetroomref07_Same:tab eM=some iB
 vec_Dot:tab pg=some ye
 whole_Sign:tab mE=some rq
 facetroomref07_Great:tab dZ=some ie
 dual_checked_api_Gen:tab hZ=some ik
 dual_genRow:tab lD=some pW
 dual_odd:tab qq=some wM
 dual_cons:tab ol=some c_dual_cons
 whole_Check:tab iY=some pK
 vec_checked:tab lh=some pM
 vec_Mix_f1:tab Qp=some rt
 vec_each:tab mF=some wE
 facetroomref21_SameGens:tab dx=some fP
 nat_Of:tab vF=some Be
 whole_made:tab mD=some rp
 vec_Scale_f1:tab j8=some oK
 dual_Points:tab y6=some pY
 dual_checked_api_Con_f1:tab OP=some fV
 slices_ContainsFunc_Sl_api_Con_api_Con:tab bD=some OE
 dual_checked_api_Con_f2:tab dz=some fU
 dual_unit:tab oi=some tN
 cone_Gens:tab Qh=some c_cone_Gens
 slices_ContainsFunc_Sl_api_Vec_api_Vec:tab bC=some cy
 dual_points_f1:tab iQ=some mo
 dual_first:tab mM=some rA
 facetroomref01_Of:tab P7=some jy
 facetroomref05_Same:tab eN=some iC
 vec_product:tab kZ=some pL
 vec_sum:tab rR=some yc
 whole_sign:tab mC=some rn
 dual_checked_api_Gen_f1:tab fO=some fT
 slices_ContainsFunc_Sl_api_Gen_api_Gen:tab cx=some cz
 dual_checked_api_Gen_f2:tab fN=some Pj
 vec_Same:tab qj=some wH
 nat_Check:tab kD=some tK
 vec_Check:tab kC=some tG
 nat_trim:tab mJ=some wI
 slices_IndexFunc_Sl_api_Con_api_Con:tab bS=some cP
 cone_checked:tab kg=some c_cone_checked
 cone_long:tab oo=some tV
 cone_all:tab qx=some wT
 P_cone_under_add:tab cC=some c_P_cone_under_add
 rows_Echelon:tab ke=some oO
 rows_Reduce:tab ly=some pS
 slices_SortFunc_Sl_api_Vec_api_Vec:tab cS=some OH
 cone_Gens_f1:tab h9=some oQ
 slices_IndexFunc_Sl_api_Vec_api_Vec:tab bR=some cN
 facetroomref01_Same:tab cX=some iD
 whole_Mul:tab nV=some tz
 whole_Add:tab nX=some tD
 slices_IndexFunc_Sl_api_Gen_api_Gen:tab cL=some cO
 slices_EqualFunc_api_Vec_api_Vec_api_Int_api_Int:tab aX=some bM
 whole_Same:tab gV=some rr
 slices_ContainsFunc_api_Vec_api_Int:tab bT=some cQ
 vec_Check_f1:tab ka=some oM
 slices_Clip_api_Nat_uint64:tab cj=some O5
 rows_Check:tab jD=some rx
 P_cone_under_add_f1:tab eQ=some iG
 P_cone_under_cut:tab Pt=some c_P_cone_under_cut
 P_cone_under_fold:tab gg=some c_P_cone_under_fold
 rows_formed:tab lv=some pQ
 P_rows_form_rest:tab gF=some kn
 vec_Twin:tab qi=some wF
 vec_Cmp:tab rT=some yf
 whole_checked:tab jr=some ny
 mul_Mul:tab rX=some yj
 whole_sum:tab nS=some tu
 slices_Equal_api_Nat_uint64:tab cG=some dW
 slices_IndexFunc_api_Vec_api_Int:tab cm=some dr
 cone_dot:tab mQ=some wS
 cone_sign:tab jg=some tT
 P_cone_under_mask:tab OW=some jB
 cone_near:tab kE=some tU
 cone_neg:tab mO=some wP
 cone_mix:tab mP=some wQ
 slices_Clone_Sl_api_Vec_api_Vec:tab cr=some du
 slices_Delete_Sl_api_Vec_api_Vec:tab Oy=some dt
 P_rows_form_put:tab eR=some c_P_rows_form_put
 vec_Prime:tab nY=some tF
 rows_pivot:tab mI=some rv
 rows_without:tab Qb=some oN
 vec_Twin_f1:tab lp=some pN
 slices_CompareFunc_api_Vec_api_Vec_api_Int_api_Int:tab aS=some bF
 vec_Cmp_f1:tab mH=some ru
 mul_splitter_make:tab fY=some jw
 mul_checked:tab lA=some pU
 nat_Add:tab rV=some yh
 nat_Sub:tab rU=some yg
 sat_Signs:tab nZ=some c_sat_Signs
 cone_has:tab qw=some wR
 whole_Neg:tab nU=some tx
 rows_before:tab lx=some QQ
 slices_Insert_Sl_api_Vec_api_Vec:tab ck=some OL
 vec_Content:tab lq=some pO
 vec_Prime_f1:tab j9=some oL
 rows_places:tab lu=some pP
 slices_Clone_api_Nat_uint64:tab b9=some OY
 whole_Cmp:tab nW=some tC
 mul_school:tab mL=some rz
 mul_parts:tab oh=some tM
 mul_sum:tab rW=some yi
 mul_rest:tab qp=some wL
 mul_up:tab vG=some Bf
 nat_checked:tab lz=some pT
 nat_joined:tab Qt=some ry
 math_bits_Add64:tab g8=some Qk
 math_bits_Sub64:tab PA=some kN
 gcd_Gcd:tab rY=some yl
 whole_Exact:tab kY=some pJ
 rows_places_f1:tab dR=some mm
 whole_Sub:tab nT=some tw
 math_bits_Mul64:tab PB=some kO
 mul_trim:tab qm=some wK
 nat_pairs:tab QA=some tH
 gcd_checked:tab lB=some pV
 div_Div:tab rZ=some yn
 whole_quotient:tab iP=some ml
 nat_pairs_f1:tab fc=some oP
 div_checked:tab lH=some pZ
 div_Word:tab qv=some wO
 math_bits_LeadingZeros64:tab de=some ft
 nat_Up:tab vE=some Bc
 P_div_divider_guess:tab eP=some iF
 P_div_divider_take:tab fj=some jk
 P_div_divider_back:tab fk=some jl
 div_trim:tab mN=some wN
 nat_Down:tab qk=some wJ
 slices_Backward_api_Nat_uint64:tab cu=some dH
 math_bits_Div64:tab gZ=some kQ
 math_bits_Len64:tab PC=some kP
 nat_asked:tab QB=some tJ
 slices_Backward_api_Nat_uint64_f1:tab aT=some OJ
end Go.Proofs.YtboamamhcfhanaaGreat.Ev
/- A part. -/
namespace Go.Proofs.YtboamamhcfhanaaGreat.Nn
set_option linter.all false
abbrev B:Nat:=18446744073709551616
def val:List Nat->Nat
 | []=>0
 | a :: l=>a+B*val l
def Lim (l:List Nat):Prop:=∀ a∈l,a<B
def F3 (l:List Nat):Prop:=l.getLast? ≠ some 0
theorem Lim.nil:Lim []:=fun a h=>by cases h
theorem Lim.cons {a:Nat} {l:List Nat} (h:a<B) (hl:Lim l):Lim (a :: l):=fun b hb=>by
 rcases List.mem_cons.1 hb with rfl | hb
 ·exact h
 ·exact hl b hb
theorem Lim.head {a:Nat} {l:List Nat} (h:Lim (a :: l)):a<B:=h a (List.mem_cons_self ..)
theorem Lim.tail {a:Nat} {l:List Nat} (h:Lim (a :: l)):Lim l:=fun b hb=>h b (List.mem_cons_of_mem _ hb)
theorem Lim.append {l m:List Nat} (h:Lim l) (h':Lim m):Lim (l++m):=fun b hb=>by
 rcases List.mem_append.1 hb with hb | hb
 ·exact h b hb
 ·exact h' b hb
theorem Lim.take {l:List Nat} (h:Lim l) (n:Nat):Lim (l.take n):=fun b hb=>h b (List.mem_of_mem_take hb)
theorem Lim.drop {l:List Nat} (h:Lim l) (n:Nat):Lim (l.drop n):=fun b hb=>h b (List.mem_of_mem_drop hb)
theorem Lim.replicate (n:Nat):Lim (List.replicate n 0):=fun b hb=>by
 rw [List.eq_of_mem_replicate hb]; decide
theorem Lim.at {l:List Nat} (h:Lim l) (i:Nat):l.getD i 0<B:=by
 rw [List.getD_eq_getElem?_getD]
 cases hi:l[i]? with
 | none=>show 0<B; decide
 | some a=>exact h a (List.mem_of_getElem? hi)
theorem my:∀ (l m:List Nat),val (l++m)=val l+B^l.length*val m
 | [],m=>by simp [val]
 | a :: l,m=>by
  simp only [List.cons_append,val,my l m,List.length_cons,Nat.pow_succ]
  rw [Nat.mul_add,<- Nat.mul_assoc,Nat.mul_comm (B^l.length) B]
  omega
theorem rH:∀ {l:List Nat},Lim l->val l<B^l.length
 | [],_=>by simp [val]
 | a :: l,h=>by
  have ih:=rH h.tail
  have ha:=h.head
  simp only [val,List.length_cons,Nat.pow_succ]
  have:B*(val l+1)<=B*B^l.length:=Nat.mul_le_mul_left B ih
  rw [Nat.mul_comm (B^l.length) B]
  rw [Nat.mul_add] at this
  omega
theorem eH (n:Nat):val (List.replicate n 0)=0:=by
 induction n with
 | zero=>rfl
 | succ n ih=>simp [List.replicate_succ,val,ih]
theorem iJ (l:List Nat) (a:Nat):val (l++[a])=val l+B^l.length*a:=by
 rw [my]; simp [val]
theorem C3:∀ {l m:List Nat},Lim l->Lim m->l.length=m.length->val l=val m->l=m
 | [],[],_,_,_,_=>rfl
 | [],_ :: _,_,_,h,_=>by simp at h
 | _ :: _,[],_,_,h,_=>by simp at h
 | a :: l,b :: m,h1,h2,h,e=>by
  have ha:=h1.head
  have hb:=h2.head
  simp only [val] at e
  have e1:a=b:=by
   have:(a+B*val l) % B=(b+B*val m) % B:=by rw [e]
   rw [Nat.add_mul_mod_self_left,Nat.add_mul_mod_self_left,Nat.mod_eq_of_lt ha,Nat.mod_eq_of_lt hb] at this
   exact this
  subst e1
  have e2:val l=val m:=Nat.eq_of_mul_eq_mul_left (by decide) (Nat.add_left_cancel e)
  rw [C3 h1.tail h2.tail (by simpa using h) e2]
theorem uq {l:List Nat} (hn:F3 l) (hne:l≠[]):B^(l.length-1)<=val l:=by
 rcases List.eq_nil_or_concat l with rfl | ⟨l',a,rfl⟩
 ·exact absurd rfl hne
 ·rw [List.concat_eq_append] at *
  rw [iJ]
  have ha:a≠0:=fun e=>hn (by rw [e]; simp)
  have:B^l'.length*1<=B^l'.length*a:=Nat.mul_le_mul_left _ (by omega)
  simp only [List.length_append,List.length_singleton,Nat.add_sub_cancel]
  omega
theorem JK {l m:List Nat} (h1:Lim l) (h2:Lim m) (n1:F3 l) (n2:F3 m) (e:val l=val m):l=m:=by
 have key:∀ {l m:List Nat},Lim l->F3 m->val l=val m->m.length<=l.length:=by
  intro l m h1 n2 e
  by_cases hm:m=[]
  ·subst hm; simp
  ·have g1:=rH h1
   have g2:=uq n2 hm
   apply Nat.le_of_not_lt
   intro hlt
   have:B^l.length<=B^(m.length-1):=Nat.pow_le_pow_right (by decide) (by omega)
   omega
 exact C3 h1 h2 (Nat.le_antisymm (key h2 n1 e.symm) (key h1 n2 e)) e
def ag (n:Nat):List Nat:=if h:n=0 then [] else n % B :: ag (n / B)
 termination_by n
 decreasing_by exact Nat.div_lt_self (by omega) (by decide)
theorem co:ag 0=[]:=by unfold ag; rfl
theorem gO {n:Nat} (h:n≠0):ag n=n % B :: ag (n / B):=by rw [ag,dif_neg h]
theorem bJ (n:Nat):val (ag n)=n:=by
 induction n using Nat.strongRecOn with
 | _ n ih =>
  by_cases h:n=0
  ·subst h; rw [co]; rfl
  ·rw [gO h]
   simp only [val]
   rw [ih _ (Nat.div_lt_self (by omega) (by decide))]
   have:=Nat.mod_add_div n B
   omega
theorem bz (n:Nat):Lim (ag n):=by
 induction n using Nat.strongRecOn with
 | _ n ih =>
  by_cases h:n=0
  ·subst h; rw [co]; exact Lim.nil
  ·rw [gO h]
   exact Lim.cons (Nat.mod_lt _ (by decide)) (ih _ (Nat.div_lt_self (by omega) (by decide)))
theorem cZ (n:Nat):F3 (ag n):=by
 induction n using Nat.strongRecOn with
 | _ n ih =>
  by_cases h:n=0
  ·subst h; rw [co]; simp [F3]
  ·rw [gO h]
   have ih:=ih _ (Nat.div_lt_self (by omega) (by decide:1<B))
   unfold F3 at ih ⊢
   by_cases h2:n / B=0
   ·rw [h2,co]
    have:n % B=n:=Nat.mod_eq_of_lt (by
     rcases Nat.lt_or_ge n B with h | h
     ·exact h
     ·have:=Nat.div_pos h (by decide:0<B); omega)
    rw [this]
    simp [h]
   ·rw [gO h2] at ih ⊢
    rw [List.getLast?_cons_cons]; exact ih
theorem sj {l:List Nat} (h:Lim l) (n:F3 l):ag (val l)=l:=JK (bz _) h (cZ _) n (bJ _)
theorem bk {n k:Nat} (h:n<B^k):(ag n).length<=k:=by
 by_cases h0:ag n=[]
 ·rw [h0]; simp
 ·have g:=uq (cZ n) h0
  rw [bJ] at g
  apply Nat.le_of_not_lt
  intro hlt
  have:B^k<=B^((ag n).length-1):=Nat.pow_le_pow_right (by decide) (by omega)
  omega
theorem gt (n:Nat):n<B^(ag n).length:=by
 have:=rH (bz n)
 rw [bJ] at this; exact this
theorem limbs_nil {n:Nat}:ag n=[] ↔ n=0:=by
 constructor
 ·intro h
  have:=bJ n
  rw [h] at this
  simpa [val] using this.symm
 ·rintro rfl; exact co
def db (l:List Nat):List Nat:=(l.reverse.dropWhile (· == 0)).reverse
theorem cK (l:List Nat):db (l++[0])=db l:=by simp [db]
theorem fE {l:List Nat} {a:Nat} (h:a≠0):db (l++[a])=l++[a]:=by simp [db,h]
theorem rI:db []=[]:=rfl
theorem uG:∀ (n:Nat) (l:List Nat),l.length=n->Lim l->db l=ag (val l)
 | 0,l,hl,_=>by
  have:l=[]:=List.eq_nil_of_length_eq_zero hl
  subst this
  rw [rI]; show []=ag 0; rw [co]
 | n+1,l,hl,h=>by
  rcases List.eq_nil_or_concat l with rfl | ⟨l',a,rfl⟩
  ·simp at hl
  ·rw [List.concat_eq_append] at *
   have hl':l'.length=n:=by simpa using hl
   have hlim:Lim l':=fun x hx=>h x (List.mem_append_left _ hx)
   by_cases ha:a=0
   ·subst ha
    rw [cK,uG n l' hl' hlim,iJ]; simp
   ·rw [fE ha,sj h]
    unfold F3
    simp [ha]
theorem dI {l:List Nat} (h:Lim l):db l=ag (val l):=uG _ l rfl h
end Go.Proofs.YtboamamhcfhanaaGreat.Nn
namespace Go.Proofs.YtboamamhcfhanaaGreat.Ev
open Go Nn
set_option linter.all false
abbrev Lb (H:Heap) (v:AV) (l:List Nat):Prop:=tX bX ad H v l
abbrev bZ (H:Heap) (v:AV) (n:Nat):Prop:=Lb H v (ag n)
def Sm (n:Nat):Prop:=(ag n).length<1099511627776
section
variable {tab:Nat->Option aq} {H:Heap} {s:AV} {l:List Nat}
theorem dO (hs:Lb H s l) {i:Nat} (hi:i<l.length):aZ H none (al s i)=some (.int .u64 (l.getD i 0:Nat)):=by
 obtain ⟨c,hc,h⟩:=SlV.at1 hs (i:=i) (a:=l.getD i 0) (by simp [hi,List.getD_eq_getElem?_getD])
 rw [h,hc]
theorem nat_Check (C:Code tab) (hw:Wf H) (hs:Lb H s l) (hbig:l.length<4611686018427387904) :
  Ans tab (.fn kD [s]) H fun v H'=>v=.int .i64 (if l.getLast? = some 0 then 8 else 0)/\Kp H H':=by
 refine OD C.nat_Check (by decide) fun T hl g0=>?_
 rcases List.eq_nil_or_concat l with rfl | ⟨l',a,rfl⟩
 ·have hle:lenV s=some (.int .i64 0):=hs.lenV
  refine zW (aC hl g0 hle) ?_
  exact ⟨rfl,zK⟩
 ·rw [List.concat_eq_append] at *
  have hle:lenV s=some (.int .i64 ((l'.length:Int)+1)):=by have:=hs.lenV; simpa using this
  have hwr:IntKind.i64.wrap ((l'.length:Int)+1-1)=(l'.length:Int):=by rw [wrap_i64] <;> simp at hbig <;> omega
  have hpos:(0:Int)<(l'.length:Int)+1:=by omega
  have hi:=SlV.idx1 hs .i64 l'.length (by simp)
  have hld:aZ H none (al s l'.length)=some (.int .u64 (a:Nat)):=by rw [dO hs (by simp)]; simp
  refine zW (jm hl g0 hle hwr hpos hi hld) ?_
  refine iteH.split (fun h=>?_) fun h=>?_
  ·refine zW (az hl g0) ?_
   exact ⟨by rw [if_pos]; simp; omega,zK⟩
  ·refine zW (az hl g0) ?_
   exact ⟨by rw [if_neg]; simp; omega,zK⟩
theorem nR (C:Code tab) (hw:Wf H) {ls:List (List Nat)} {ty:Nat} (hs:tX (pE (cB bX) ad) ty H s ls) (hbig:ls.length<4611686018427387904) (hc:∀ c∈ls,c.length<4611686018427387904/\c.getLast? ≠ some 0) :
  Ans tab (.fn lz [s]) H fun v H'=>v=.int .i64 0/\Kp H H':=by
 refine OD C.nat_checked (by decide) fun T hl g0=>?_
 refine zW (aC hl g0 hs.lenV) ?_
 refine ak H [] (fun _ _ _=>True) (a:=0) (N:=ls.length) rfl (by refine zW (az hl g0) ?_; rfl) (zV (az hl g0)) (Nat.zero_le _) (by omega) (by simp only [List.length_set,hl]; rfl) rfl (fun _ _ _ _ h=>h) zK trivial ?_ ?_
 ·intro j T1 H1 _ hj hl1 hi1 hs1 hk1 _
  have w1:=hk1.wf
  have le_hk1:=hk1.le
  have t6:ae T1 6=s:=(hs1.at_ 6 (by decide)).trans (zV (az hl g0))
  obtain ⟨c,hcr,hld⟩:=SlV.at1 (hs.mono hk1.sub) (List.getElem?_eq_getElem hj)
  have hix:=SlV.idx1 hs .i64 j hj
  have hcc:=hc _ (List.getElem_mem hj)
  simp only [List.length_set,hl] at hl1
  refine zW (cJ hl1 t6 hi1 hix hld) ?_
  refine AnsH.eq (nat_Check C zF hcr hcc.1) fun H2 h2=>?_
  rw [if_neg hcc.2]
  refine zW hl1 ?_
  have k2:Kp H H2:=Kp.trans zK h2
  have le_k2:=k2.le
  exact zK
 ·intro T1 H1 hl1 hs1 hk1 _
  simp only [List.length_set,hl] at hl1
  refine zW hl1 ?_
  exact zK
theorem gy (C:Code tab) (hw:Wf H) (hs:Lb H s l):Ans tab (.fn cj [s]) H fun v H'=>Lb H' v l/\Kp H H':=by
 refine OD C.slices_Clip_api_Nat_uint64 (by decide) fun T hl g0=>?_
 obtain ⟨v',e,hr⟩:=hs.clip .i64 .i64
 have e':cR 1 s none (some (.int .i64 (l.length:Int))) (some (.int .i64 (l.length:Int)))=some v':=e
 refine zW (bg hl g0 hs.lenV e') ?_
 exact ⟨hr.mono (Sub.bump H _),zK⟩
theorem nat_trim (C:Code tab) (hw:Wf H) (hs:Lb H s l) (hbig:l.length<4611686018427387904) :
  Ans tab (.fn mJ [s]) H fun v H'=>Lb H' v (db l)/\Kp H H':=by
 refine OD C.nat_trim (by decide) fun T hl g0=>?_
 refine zW (az hl g0) ?_
 refine bf H [0] (fun k vs H'=>∃ v,vs=[v]/\Lb H' v (l.take k)/\db (l.take k)=db l/\k<=l.length) l.length (by simp only [List.length_set]; exact hl) rfl zK ⟨s,by exact zV (az hl g0),by rw [List.take_length]; exact hs,by rw [List.take_length],Nat.le_refl _⟩ ?_
 rintro k T1 H1 hl1 hs1 hk1 ⟨v,hv,hr,ht,hk⟩
 have w1:=hk1.wf
 have le_hk1:=hk1.le
 simp only [List.map_cons,List.map_nil,List.cons.injEq,and_true] at hv
 rcases List.eq_nil_or_concat (l.take k) with h0 | ⟨l',a,h0⟩
 ·rw [h0] at hr ht
  have hle:lenV v=some (.int .i64 0):=hr.lenV
  refine zW (aC hl1 hv hle) ?_
  refine AnsH.use (gy C zF (hr.mono (Sub.bump H1 _))) ?_
  rintro v2 H2 ⟨h1,h2⟩
  have k2:Kp H H2:=Kp.trans zK h2
  have le_k2:=k2.le
  rw [<- ht]
  refine zW hl1 ?_
  exact ⟨h1,zK⟩
 ·rw [List.concat_eq_append] at h0
  have hk1':k=l'.length+1:=by have:=congrArg List.length h0; simp at this; omega
  have hl':l.take l'.length=l':=by
   have:=congrArg (List.take l'.length) h0
   rw [List.take_take,Nat.min_eq_left (by omega)] at this
   simpa using this
  rw [h0] at hr ht
  have hle:lenV v=some (.int .i64 ((l'.length:Int)+1)):=by have:=hr.lenV; simpa using this
  have hpos:(0:Int)<(l'.length:Int)+1:=by omega
  have hix:=SlV.idx1 hr .i64 l'.length (by simp)
  have hld:aZ H1 none (al v l'.length)=some (.int .u64 (a:Nat)):=by rw [dO hr (by simp)]; simp
  have hwr:IntKind.i64.wrap ((l'.length:Int)+1-1)=(l'.length:Int):=by rw [wrap_i64] <;> omega
  refine zW (jm hl1 hv hle hpos hix hld hwr) ?_
  refine iteH.split (fun ha=>?_) fun ha=>?_
  ·obtain ⟨v',e,hr'⟩:=hr.hi .i64 l'.length (by simp)
   have e':cR 1 v none (some (.int .i64 (l'.length:Int))) none=some v':=e
   have ha0:a=0:=by omega
   subst ha0
   refine zW (cJ hl1 hv hle hwr e') ?_
   refine ⟨zK,l'.length,by omega,v',rfl,?_,?_,by omega⟩
   ·rw [hl']
    have h3:Lb H1 v' l':=by simpa using hr'
    exact h3.mono (Sub.bump H1 _)
   ·rw [hl',<- ht,cK]
  ·have ha':a≠0:=by omega
   refine zW (az hl1 hv) ?_
   refine AnsH.use (gy C zF (hr.mono (Sub.bump H1 _))) ?_
   rintro v2 H2 ⟨h1,h2⟩
   have k2:Kp H H2:=Kp.trans zK h2
   have le_k2:=k2.le
   rw [fE ha'] at ht
   rw [<- ht]
   refine zW hl1 ?_
   exact ⟨h1,zK⟩
theorem nat_Of (C:Code tab) (hw:Wf H) {n:Nat} (hn:n<B):Ans tab (.fn vF [.int .u64 (n:Int)]) H fun v H'=>bZ H' v n/\Sm n/\Kp H H':=by
 refine OD C.nat_Of (by decide) fun T hl g0=>?_
 refine zW (az hl g0) ?_
 have k1:Kp H ((H.up 5).put (H.next+2) (.cells [.int .u64 (n:Int)] ad true)):=zK
 have le_k1:=k1.le
 have hs:Lb ((H.up 5).put (H.next+2) (.cells [.int .u64 (n:Int)] ad true)) (.own (H.next+2) 0 1 1 1 true) [n] :=
  (show Own (cB bX) ad H _ _ true _ [n] from ⟨_,rfl,aA _ _ _,Cells.one ⟨_,rfl,rfl⟩,by omega⟩).sl
 refine AnsH.use (nat_trim C k1.wf hs (by simp)) ?_
 rintro v H2 ⟨h1,h2⟩
 have e:db [n]=ag n:=by rw [dI (Lim.cons hn Lim.nil)]; simp [val]
 rw [e] at h1
 refine zW (az hl g0) ?_
 refine ⟨h1,?_,k1.trans h2⟩
 have:=bk (n:=n) (k:=1) (by simpa using hn)
 unfold Sm; omega
theorem whole_made (C:Code tab) (hw:Wf H) (hs:Lb H s l) (b:Bool) :
  Ans tab (.fn mD [.bool b,s]) H fun v H'=>v=.agg [.bool (b && decide (0<l.length)),s]/\Kp H H':=by
 refine ca C.whole_made (by decide) fun T hl g0 g1=>?_
 have o1:=hs.one
 cases b
 ·refine zW (bg hl g0 g1 hs.lenV) ?_
  exact zK
 ·refine zW (bg hl g0 g1 hs.lenV) ?_
  exact zK
end
def OI (f:Nat->Nat->Nat->Nat × Nat) (a b:List Nat):Nat->List Nat × Nat
 | 0=>([],0)
 | k+1=>((OI f a b k).1++[(f (a.getD k 0) (b.getD k 0) (OI f a b k).2).1],(f (a.getD k 0) (b.getD k 0) (OI f a b k).2).2)
theorem fK (f:Nat->Nat->Nat->Nat × Nat) (a b:List Nat):∀ k,(OI f a b k).1.length=k
 | 0=>rfl
 | k+1=>by simp [OI,fK f a b k]
section
variable {tab:Nat->Option aq} {H:Heap}
theorem nat_pairs (C:Code tab) (hw:Wf H) {sa sb:AV} (ha:One sa) (hb:One sb) :
  Ans tab (.fn QA [sa,sb]) H fun v H'=>v=.fn (.func fc) [] [.ptr H.next 0,.ptr (H.next+1) 0]/\H'.get H.next=some (.cells [sa] aE true)/\H'.get (H.next+1)=some (.cells [sb] aE true)/\H.next+2<=H'.next/\Kp H H':=by
 refine ca C.nat_pairs (by decide) fun T hl g0 g1=>?_
 refine zW (aC hl g0 g1) ?_
 exact ⟨by omega,zK⟩
theorem d8 (C:Code tab) {H0:Heap} {lb ba bb:Nat} {a b:List Nat} {sa sb:AV} (J:Nat->Heap->Prop) (hla:a.length<4611686018427387904) (hlb:b.length<4611686018427387904) {M:Nat} (hM:M=max a.length b.length)
  (hk:Kp H0 H) (h0:J 0 H) (hup:∀ k H m,J k H->J k (H.up m)) (hA:∀ k H,J k H->H.get ba=some (.cells [sa] aE true)/\Lb H sa a/\H.get bb=some (.cells [sb] aE true)/\Lb H sb b)
  (hr:∀ k H,k<M->Kp H0 H->J k H->Ans tab (.round lb [.int .u64 (a.getD k 0:Nat),.int .u64 (b.getD k 0:Nat)]) H fun v H'=>v=.bool true/\Kp H0 H'/\J (k+1) H') :
  Ans tab (.ent fc [.loopv lb,.ptr ba 0,.ptr bb 0]) H fun _ H'=>Kp H0 H'/\J M H':=by
 refine Ns C.nat_pairs_f1 (by decide) fun T hl g0 g1 g2=>?_
 obtain ⟨q1,q2,q3,q4⟩:=hA _ _ h0
 have hmax:E4 (.int .i64 (a.length:Int)) (.int .i64 (b.length:Int))=some (.int .i64 (M:Int)):=by rw [yY]; congr 2; split <;> omega
 refine zW (kU hl g0 g1 g2 q1 q3 q2.lenV q4.lenV hmax) ?_
 refine ak H0 [] (fun j _ H'=>J j H') (a:=0) (N:=M) rfl (by refine zW (bg hl g0 g1 g2) ?_; rfl) (zV (bg hl g0 g1 g2)) (Nat.zero_le _) (by omega) (by simp only [List.length_set,hl]; rfl) rfl (fun j _ H' m h=>hup _ _ _ h) zK (hup _ _ _ h0) ?_ ?_
 ·intro j T1 H1 _ hj hl1 hi1 hs1 hk1 hJ
  simp only [List.length_set,hl] at hl1
  have t0:ae T1 0=.loopv lb:=(hs1.at_ 0 (by decide)).trans (zV (az hl g0))
  have t1:ae T1 1=.ptr ba 0:=(hs1.at_ 1 (by decide)).trans (zV (cJ hl g0 g1 g2 g1))
  have t2:ae T1 2=.ptr bb 0:=(hs1.at_ 2 (by decide)).trans (zV (cJ hl g0 g1 g2 g2))
  obtain ⟨q1,q2,q3,q4⟩:=hA _ _ hJ
  have gz:∀ (l:List Nat),¬ j<l.length->l.getD j 0=0:=fun l h=>by rw [List.getD_eq_getElem?_getD,List.getElem?_eq_none (by omega)]; rfl
  have hround:∀ m,Ans tab (.round lb [.int .u64 (a.getD j 0:Nat),.int .u64 (b.getD j 0:Nat)]) (H1.up m) fun v H'=>v=.bool true/\Kp H0 H'/\J (j+1) H':=fun m=>hr j _ hj (hk1.up m) (hup _ _ _ hJ)
  refine zW (kU hl1 t0 t1 t2 hi1 q1 q3 q2.lenV q4.lenV) ?_
  refine iteH.split (fun h1=>?_) fun h1=>?_
  ·have x1:=SlV.idx1 q2 .i64 j h1
   have d1:=dO q2 h1
   refine zW (p9 hl1 t0 t1 t2 hi1 q1 q3 q2.lenV q4.lenV x1 d1) ?_
   refine iteH.split (fun h2=>?_) fun h2=>?_
   ·have x2:=SlV.idx1 q4 .i64 j h2
    have d2:=dO q4 h2
    refine zW (p9 hl1 t0 t1 t2 hi1 q1 q3 q2.lenV q4.lenV x2 d2) ?_
    refine AnsH.eq (hround _) fun H2 ⟨k2,j2⟩=>?_
    refine zW hl1 ?_
    exact ⟨zK,j2⟩
   ·rw [gz b h2] at hround
    refine zW (jm hl1 t0 t1 t2 hi1 q1 q3) ?_
    refine AnsH.eq (hround _) fun H2 ⟨k2,j2⟩=>?_
    refine zW hl1 ?_
    exact ⟨zK,j2⟩
  ·rw [gz a h1] at hround
   refine zW (kU hl1 t0 t1 t2 hi1 q1 q3 q2.lenV q4.lenV) ?_
   refine iteH.split (fun h2=>?_) fun h2=>?_
   ·have x2:=SlV.idx1 q4 .i64 j h2
    have d2:=dO q4 h2
    refine zW (p9 hl1 t0 t1 t2 hi1 q1 q3 q2.lenV q4.lenV x2 d2) ?_
    refine AnsH.eq (hround _) fun H2 ⟨k2,j2⟩=>?_
    refine zW hl1 ?_
    exact ⟨zK,j2⟩
   ·rw [gz b h2] at hround
    refine zW (jm hl1 t0 t1 t2 hi1 q1 q3) ?_
    refine AnsH.eq (hround _) fun H2 ⟨k2,j2⟩=>?_
    refine zW hl1 ?_
    exact ⟨zK,j2⟩
 ·intro T1 H1 hl1 hs1 hk1 hJ
  refine zW hl1 ?_
  exact ⟨hk1,hJ⟩
theorem qf {f:Src} {ps:List Nat} {asg body:ACode} {T:Tm} {Q:Ex->Tm->Heap->Prop} {fi:Nat} {args:List AV} (hf:gC (f.ev T) [.loopv H.next]=some (.fn fi args))
  (h:Ans tab (.ent fi args) ((H.up 1).put H.next (.loop T ps asg body .ready none)) fun _ H2 =>
   (H2.get H.next=some (.loop T ps asg body .ready none)/\Q .nrm T (H2.kill H.next))\/(H2.get H.next=some (.loop T ps asg body .done (some .ret))/\Q .ret T (H2.kill H.next)) \/
   (∃ id,H2.get H.next=some (.loop T ps asg body .done (some (.exit id)))/\Q (.exit id) T (H2.kill H.next))):rangeH tab f ps asg body () () T H Q ():=rangeH.use hf h
theorem nat_joined (C:Code tab) (hw:Wf H) {sa sb:AV} {a b:List Nat} (ha:Lb H sa a) (hb:Lb H sb b) (hla:a.length<4398046511104) (hlb:b.length<4398046511104) (la:Lim a) (lmb:Lim b) {fi:Nat} {f:Nat->Nat->Nat->Nat × Nat}
  (hg:∀ H x y c,x<B->y<B->c<=1->Ans tab (.fn fi [.int .u64 (x:Nat),.int .u64 (y:Nat),.int .u64 (c:Nat)]) H fun v H'=>v=.tup [.int .u64 ((f x y c).1:Nat),.int .u64 ((f x y c).2:Nat)]/\H'=H) (hc1:∀ x y c,x<B->y<B->c<=1->(f x y c).2<=1) :
  Ans tab (.fn Qt [sa,sb,.fn (.func fi) [] []]) H fun v H'=>∃ o,v=.tup [o,.int .u64 ((OI f a b (max a.length b.length)).2:Nat)]/\Bl (cB bX) ad H H' o (OI f a b (max a.length b.length)).1/\Kp H H':=by
 refine Qg C.nat_joined (by decide) fun T hl g0 g1 g2=>?_
 refine zW (bg hl g0 g1 g2) ?_
 have k1:Kp H ((((H.up 6).put H.next (.cells [.fn (.func fi) [] []] aD true)).put (H.next+1) (.cells [.nilSl] aE true)).put (H.next+1+1) (.cells [.int .u64 0] ad true)):=zK
 have le_k1:=k1.le
 refine AnsH.use (nat_pairs C k1.wf ha.one hb.one) ?_
 rintro v H2 ⟨rfl,b1,b2,hn2,hk2⟩
 have k2:=k1.trans hk2
 have p5:H2.get H.next=some (.cells [.fn (.func fi) [] []] aD true):=hk2.get (dC)
 have p6:H2.get (H.next+1)=some (.cells [.nilSl] aE true):=hk2.get (dC)
 have p7:H2.get (H.next+1+1)=some (.cells [.int .u64 0] ad true):=hk2.get (dC)
 have hn1:((((H.up 6).put H.next (.cells [.fn (.func fi) [] []] aD true)).put (H.next+1) (.cells [.nilSl] aE true)).put (H.next+1+1) (.cells [.int .u64 0] ad true)).next=H.next+6:=rfl
 rw [hn1] at b1 b2 hn2 ⊢
 refine zW (bg hl g0 g1 g2) ?_
 refine qf (fi:=fc) (args:=[.loopv H2.next,.ptr (H.next+6) 0,.ptr (H.next+6+1) 0]) (by refine zW (bg hl g0 g1 g2) ?_; rfl) ?_
 generalize he:Ent.loop _ _ _ _ _ _=e0
 have k3:Kp H ((H2.up 1).put H2.next e0):=zK
 have le_k3:=k3.le
 refine (d8 C (H0:=H) (a:=a) (b:=b) (sa:=sa) (sb:=sb) (M:=max a.length b.length) (fun k H'=>H'.get H2.next=some e0/\H'.get H.next=some (.cells [.fn (.func fi) [] []] aD true) /\
   (∃ o,H'.get (H.next+1)=some (.cells [o] aE true)/\Bl (cB bX) ad H H' o (OI f a b k).1/\∀ n,o ≠ .own (H.next+1+1) 0 n n 1 false)/\H'.get (H.next+1+1)=some (.cells [.int .u64 ((OI f a b k).2:Nat)] ad true)/\(OI f a b k).2<=1 /\
   H'.get (H.next+6)=some (.cells [sa] aE true)/\H'.get (H.next+6+1)=some (.cells [sb] aE true)/\Lb H' sa a/\Lb H' sb b) (by omega) (by omega) rfl k3
  ⟨by exact dC,by exact zV p5,⟨.nilSl,by exact zV p6,Bl.nil,fun n h=>by cases h⟩,by refine zW p7 ?_; rfl,Nat.zero_le _,by exact zV b1,by exact zV b2,ha.mono k3.sub,hb.mono k3.sub⟩ (fun _ _ _ h=>h) (fun k H' h=>⟨h.2.2.2.2.2.1,h.2.2.2.2.2.2.2.1,h.2.2.2.2.2.2.1,h.2.2.2.2.2.2.2.2⟩) ?_).mono ?_
 ·rintro k H1 hk hk1 ⟨j0,j5,⟨o,j6,jo,jn⟩,j7,j7',ja,jb,-,-⟩
  rw [<- he] at j0
  refine qI j0 rfl ?_
  refine zW (mw hl g0 g1 g2 j0 j5 j6 j7) ?_
  refine AnsH.eq (hg _ _ _ _ (la.at k) (lmb.at k) j7') fun H3 e3=>?_
  subst e3
  have hlt:=hk1.wf _ _ j0
  have hle:=hk1.le
  have hz:=hc1 _ _ _ (la.at k) (lmb.at k) j7'
  refine zW (mw hl g0 g1 g2 j0 j5 j6 j7) ?_
  generalize he2:Ent.loop _ _ _ _ LoopState.busy none=e2
  generalize hzz:f (a.getD k 0) (b.getD k 0) (OI f a b k).2=z
  have k4:Kp H (((H1.up 13).put H2.next e2).put (H.next+2) (.cells [.int .u64 (z.2:Nat)] ad true)):=zK
  have le_k4:=k4.le
  have q1:Bl (cB bX) ad H (((H1.up 13).put H2.next e2).put (H.next+2) (.cells [.int .u64 (z.2:Nat)] ad true)) o (OI f a b k).1 :=
   (Bl.put (show Bl _ _ _ (H1.up 13) _ _ from jo) (jo.ne j0 fun cs h=>by cases h) (SubT.nil _ _)).put jn (SubT.nil _ _)
  have hlen:=fK f a b k
  obtain ⟨n,H4,e1,q2,k5,hn4,hp⟩:=q1.push (ty2:=ad) (bytes:=8) (id:=H1.next+16) (id2:=H1.next+15) (k:=5) (cs:=[.int .u64 (z.1:Nat)]) (a:=z.1) (fun h=>by cases h) k4 ⟨_,rfl,rfl⟩
   (by show H1.next+13<=_; omega) (by show _<H1.next+13+5; omega) (by show H1.next+13<=_; omega) (by show _<H1.next+13+5; omega) (by omega) (by omega) (by omega)
  have e1':OC ((((H1.up 18).put H2.next e2).put (H.next+2) (.cells [.int .u64 (z.2:Nat)] ad true)).put (H1.next+15) (.cells [.int .u64 (z.1:Nat)] ad true)) (H1.next+16) 1 8 ad o (.own (H1.next+15) 0 1 1 1 true)=some (.own (H1.next+16) 0 n n 1 false,H4):=e1
  have r6:H4.get (H.next+1)=some (.cells [o] aE true):=hp (H.next+1) (.cells [o] aE true) (zV j6) (q1.ne (e:=.cells [o] aE true) (zV j6) fun cs h=>by injection h with _ h2; exact absurd h2 (by decide))
  refine zW (fW hl g0 g1 g2 e1' r6) ?_
  have ty1:∀ {o':AV} {cs:List AV},Ent.cells [o'] aE true ≠ .cells cs ad true:=fun h=>by injection h with _ h2; exact absurd h2 (by decide)
  have r0:H4.get H2.next=some e2:=hp H2.next e2 (dC) (q1.ne (e:=e2) (dC) fun cs h=>by rw [<- he2] at h; cases h)
  have r5:H4.get H.next=some (.cells [.fn (.func fi) [] []] aD true):=hp H.next _ (zV j5) (q1.ne (e:=.cells [.fn (.func fi) [] []] aD true) (zV j5) fun cs h=>by injection h with _ h2; exact absurd h2 (by decide))
  have r7:H4.get (H.next+2)=some (.cells [.int .u64 (z.2:Nat)] ad true):=hp (H.next+2) _ (dC) jn
  have ra:H4.get (H.next+6)=some (.cells [sa] aE true):=hp (H.next+6) (.cells [sa] aE true) (zV ja) (q1.ne (e:=.cells [sa] aE true) (zV ja) fun cs=>ty1)
  have rb:H4.get (H.next+7)=some (.cells [sb] aE true):=hp (H.next+7) (.cells [sb] aE true) (zV jb) (q1.ne (e:=.cells [sb] aE true) (zV jb) fun cs=>ty1)
  have hn4':H4.next=H1.next+18:=hn4
  have k6:Kp H ((H4.put (H.next+1) (.cells [.own (H1.next+16) 0 n n 1 false] aE true)).put H2.next e0):=zK
  have le_k6:=k6.le
  rw [uZ]
  refine zW (jm he2 he r0 r5 r7 ra rb) ?_
  refine ⟨k6,⟨_,rfl,?_,fun n' h=>by injection h; omega⟩,?_,?_,ha.mono k6.sub,hb.mono k6.sub⟩
  ·have:(OI f a b (k+1)).1=(OI f a b k).1++[z.1]:=by rw [<- hzz]; rfl
   rw [this]
   exact (q2.put (fun n' h=>by injection h; omega) (SubT.nil _ _)).put (fun n' h=>by injection h; omega) (SubT.nil _ _)
  ·rw [<- hzz]; rfl
  ·have:(OI f a b (k+1)).2=z.2:=by rw [<- hzz]; rfl
   rw [this,<- hzz]; exact hz
 ·rintro _ H' ⟨hk',j0,j5,⟨o,j6,jo,jn⟩,j7,j7',-⟩
  have hlt:=hk'.wf _ _ j0
  refine .inl ⟨j0,?_⟩
  refine zW (fW hl g0 g1 g2 j6 j7) ?_
  exact ⟨o,rfl,jo.kill (jo.ne j0 fun cs h=>by rw [<- he] at h; cases h) (SubT.nil _ _),zK⟩
end
theorem cD (l:List Nat) (k:Nat):val (l.take (k+1))=val (l.take k)+B^k*l.getD k 0:=by
 by_cases h:k<l.length
 ·rw [List.take_succ_eq_append_getElem h,iJ,List.length_take,Nat.min_eq_left (Nat.le_of_lt h)]
  simp [List.getD_eq_getElem?_getD,h]
 ·rw [List.take_of_length_le (by omega),List.take_of_length_le (by omega),List.getD_eq_getElem?_getD,List.getElem?_eq_none (by omega)]
  simp
def dU (x y c:Nat):Nat × Nat:=((x+y+c) % B,(x+y+c) / B)
def dm (x y c:Nat):Nat × Nat:=((x+B-y-c) % B,if x<y+c then 1 else 0)
theorem uv (x y c:Nat) (hx:x<B) (hy:y<B) (hc:c<=1):(dU x y c).2<=1:=by
 simp only [dU,B] at *; omega
theorem rj (x y c:Nat):(dm x y c).2<=1:=by
 unfold dm; simp only; split <;> omega
theorem ut {f:Nat->Nat->Nat->Nat × Nat} {a b:List Nat} (la:Lim a) (lb:Lim b) (h:∀ x y c,x<B->y<B->c<=1->(f x y c).2<=1):∀ k,(OI f a b k).2<=1
 | 0=>Nat.zero_le _
 | k+1=>h _ _ _ (la.at k) (lb.at k) (ut la lb h k)
theorem vP {f:Nat->Nat->Nat->Nat × Nat} {a b:List Nat} (h:∀ x y c,(f x y c).1<B):∀ k,Lim (OI f a b k).1
 | 0=>Lim.nil
 | k+1=>(vP h k).append (Lim.cons (h _ _ _) Lim.nil)
theorem Ea {a b:List Nat}:∀ k,val (OI dU a b k).1+B^k*(OI dU a b k).2=val (a.take k)+val (b.take k)
 | 0=>by simp [OI,val]
 | k+1=>by
  have ih:=Ea (a:=a) (b:=b) k
  rw [cD,cD]
  simp only [OI,iJ,fK]
  generalize OI dU a b k=r at ih ⊢
  generalize a.getD k 0=x
  generalize b.getD k 0=y
  simp only [dU]
  have e:=Nat.div_add_mod (x+y+r.2) B
  have:B^(k+1)*((x+y+r.2) / B)=B^k*(B*((x+y+r.2) / B)):=by rw [Nat.pow_succ,Nat.mul_assoc]
  rw [this]
  generalize B*((x+y+r.2) / B)=q at *
  generalize (x+y+r.2) % B=m at *
  have:B^k*(x+y+r.2)=B^k*q+B^k*m:=by rw [<- e,Nat.mul_add]
  rw [Nat.mul_add,Nat.mul_add] at this
  omega
theorem C8 {a b:List Nat} (la:Lim a) (lb:Lim b):∀ k,val (OI dm a b k).1+val (b.take k)=val (a.take k)+B^k*(OI dm a b k).2
 | 0=>by simp [OI,val]
 | k+1=>by
  have ih:=C8 la lb k
  have hc:(OI dm a b k).2<=1:=ut la lb (fun x y c _ _ _=>rj x y c) k
  rw [cD,cD]
  simp only [OI,iJ,fK]
  have hx:=la.at k
  have hy:=lb.at k
  generalize OI dm a b k=r at ih hc ⊢
  generalize a.getD k 0=x at *
  generalize b.getD k 0=y at *
  have key:(dm x y r.2).1+y+r.2=x+B*(dm x y r.2).2:=by
   clear ih
   simp only [dm,B] at *
   split <;> omega
  have:B^(k+1)*(dm x y r.2).2=B^k*(B*(dm x y r.2).2):=by rw [Nat.pow_succ,Nat.mul_assoc]
  rw [this]
  have:=congrArg (B^k * ·) key
  simp only [Nat.mul_add] at this
  generalize B^k*(B*(dm x y r.2).2)=q at *
  generalize B^k*(dm x y r.2).1=m at *
  omega
section
variable {tab:Nat->Option aq} {H:Heap}
theorem Py (C:Code tab) (H:Heap) (x y c:Nat) (_:x<B) (_:y<B) (hc:c<=1):Ans tab (.fn g8 [.int .u64 (x:Nat),.int .u64 (y:Nat),.int .u64 (c:Nat)]) H fun v H'=>v=.tup [.int .u64 ((dU x y c).1:Nat),.int .u64 ((dU x y c).2:Nat)]/\H'=H :=
 uw C.math_bits_Add64 rfl rfl (v:=.tup [.int .u64 ((dU x y c).1:Nat),.int .u64 ((dU x y c).2:Nat)]) (H':=H) (by
  show (if c<=1 then _ else _)=_
  rw [if_pos hc]; rfl) ⟨rfl,rfl⟩
theorem sL (C:Code tab) (H:Heap) (x y c:Nat) (_:x<B) (_:y<B) (hc:c<=1):Ans tab (.fn PA [.int .u64 (x:Nat),.int .u64 (y:Nat),.int .u64 (c:Nat)]) H fun v H'=>v=.tup [.int .u64 ((dm x y c).1:Nat),.int .u64 ((dm x y c).2:Nat)]/\H'=H :=
 uw C.math_bits_Sub64 rfl rfl (v:=.tup [.int .u64 ((dm x y c).1:Nat),.int .u64 ((dm x y c).2:Nat)]) (H':=H) (by
  show (if c<=1 then _ else _)=_
  rw [if_pos hc]; rfl) ⟨rfl,rfl⟩
theorem el {H H1:Heap} {b ty t1:Nat} {α:Type} {E:eU α} {x y:AV} {l m:List α} (hx:SlV E t1 H x l) (hy:SlV E t1 H y m) (hs:Sub H H1) (hg:H1.get b=some (.cells [x,y] ty true)):tX (pE E t1) ty H1 (.own b 0 2 2 1 true) [l,m] :=
 ⟨[x,y],Rd.own hg rfl (Nat.le_refl _),fun _ _ _ _ _ _ e=>by cases e; exact ⟨_,_,hg⟩,rfl,fun i a hi=>by
  match i with
  | 0=>simp at hi; subst hi; exact ⟨x,rfl,hx.mono hs⟩
  | 1=>simp at hi; subst hi; exact ⟨y,rfl,hy.mono hs⟩
  | i+2=>simp at hi⟩
theorem LN {H H1:Heap} {b ty t1:Nat} {α:Type} {E:eU α} {x:AV} {l:List α} (hx:SlV E t1 H x l) (hs:Sub H H1) (hg:H1.get b=some (.cells [x] ty true)):tX (pE E t1) ty H1 (.own b 0 1 1 1 true) [l] :=
 ⟨[x],Rd.own hg rfl (Nat.le_refl _),fun _ _ _ _ _ _ e=>by cases e; exact ⟨_,_,hg⟩,rfl,fun i a hi=>by
  match i with
  | 0=>simp at hi; subst hi; exact ⟨x,rfl,hx.mono hs⟩
  | i+1=>simp at hi⟩
theorem pD (a b:List Nat):a.take (max a.length b.length)=a:=List.take_of_length_le (by omega)
theorem nI (a b:List Nat):b.take (max a.length b.length)=b:=List.take_of_length_le (by omega)
theorem nat_Add (C:Code tab) (hw:Wf H) {sa sb:AV} {x y:Nat} (ha:bZ H sa x) (hb:bZ H sb y) (hx:Sm x) (hy:Sm y) :
  Ans tab (.fn rV [sa,sb]) H fun v H'=>∃ o,v=.tup [o,.int .i64 0]/\bZ H' o (x+y)/\Kp H H':=by
 refine ca C.nat_Add (by decide) fun T hl g0 g1=>?_
 have oa:=ha.one
 have ob:=hb.one
 unfold Sm at hx hy
 refine zW (aC hl g0 g1) ?_
 have k1:Kp H ((H.up 7).put (H.next+4) (.cells [sa,sb] aE true)):=zK
 have le_k1:=k1.le
 refine AnsH.eq (nR C k1.wf (el ha hb k1.sub (aA _ _ _)) (by simp) fun c hc=>?_) fun H2 hk2=>?_
 ·simp at hc
  rcases hc with rfl | rfl
  ·exact ⟨by omega,cZ x⟩
  ·exact ⟨by omega,cZ y⟩
 have k2:=k1.trans hk2
 have w2:=k2.wf
 refine zW (aC hl g0 g1) ?_
 refine AnsH.use (nat_joined C zF (ha.mono (k2.up _).sub) (hb.mono (k2.up _).sub) (by omega) (by omega) (bz x) (bz y) (f:=dU) (Py C) uv) ?_
 rintro v H3 ⟨o,rfl,ho,hk3⟩
 obtain ⟨k3,_,w3⟩:=zT H zK hk3
 have hlen:=fK dU (ag x) (ag y) (max (ag x).length (ag y).length)
 have hval:=Ea (a:=ag x) (b:=ag y) (max (ag x).length (ag y).length)
 rw [pD,nI,bJ,bJ] at hval
 have hlim:Lim (OI dU (ag x) (ag y) (max (ag x).length (ag y).length)).1:=vP (fun x y c=>Nat.mod_lt _ (by decide)) _
 have hle:=ut (bz x) (bz y) uv (max (ag x).length (ag y).length)
 generalize OI dU (ag x) (ag y) (max (ag x).length (ag y).length)=r at *
 refine zW (aC hl g0 g1) ?_
 obtain ⟨n,H4,e1,q2,k5,hn4,-⟩:=ho.push (ty2:=ad) (bytes:=8) (id:=H3.next+3) (id2:=H3.next+2) (k:=7) (cs:=[.int .u64 (r.2:Nat)]) (a:=r.2) (fun h=>by cases h) hk3 ⟨_,rfl,rfl⟩ (by omega) (by omega) (by omega) (by omega) (by omega) (by omega) (by omega)
 have e1':OC ((H3.up 7).put (H3.next+2) (.cells [.int .u64 (r.2:Nat)] ad true)) (H3.next+3) 1 8 ad o (.own (H3.next+2) 0 1 1 1 true)=some (.own (H3.next+3) 0 n n 1 false,H4):=e1
 refine zW (bg hl g0 g1 e1') ?_
 have w4:=k5.wf
 refine AnsH.use (nat_trim C zF q2.sl (by simp; omega)) ?_
 rintro v H5 ⟨h5,hk5⟩
 have k7:Kp H H5:=((k2.up _).trans k5).trans hk5
 have le_k7:=k7.le
 have e:db (r.1++[r.2])=ag (x+y):=by
  rw [dI (hlim.append (Lim.cons (by unfold B; omega) Lim.nil)),iJ,hlen,hval]
 rw [e] at h5
 refine zW (aC hl g0 g1) ?_
 exact ⟨v,rfl,h5,k7⟩
theorem nat_Sub (C:Code tab) (hw:Wf H) {sa sb:AV} {x y:Nat} (ha:bZ H sa x) (hb:bZ H sb y) (hx:Sm x) (hy:Sm y) :
  Ans tab (.fn rU [sa,sb]) H fun v H'=>Kp H H'/\if y<=x then ∃ o,v=.tup [o,.int .i64 0]/\bZ H' o (x-y) else v=.tup [.nilSl,.int .i64 10]:=by
 refine ca C.nat_Sub (by decide) fun T hl g0 g1=>?_
 have oa:=ha.one
 have ob:=hb.one
 unfold Sm at hx hy
 refine zW (aC hl g0 g1) ?_
 have k1:Kp H ((H.up 7).put (H.next+4) (.cells [sa,sb] aE true)):=zK
 have le_k1:=k1.le
 refine AnsH.eq (nR C k1.wf (el ha hb k1.sub (aA _ _ _)) (by simp) fun c hc=>?_) fun H2 hk2=>?_
 ·simp at hc
  rcases hc with rfl | rfl
  ·exact ⟨by omega,cZ x⟩
  ·exact ⟨by omega,cZ y⟩
 have k2:=k1.trans hk2
 have w2:=k2.wf
 refine zW (aC hl g0 g1) ?_
 refine AnsH.use (nat_joined C zF (ha.mono (k2.up _).sub) (hb.mono (k2.up _).sub) (by omega) (by omega) (bz x) (bz y) (f:=dm) (sL C) fun x y c _ _ _=>rj x y c) ?_
 rintro v H3 ⟨o,rfl,ho,hk3⟩
 obtain ⟨k3,_,w3⟩:=zT H zK hk3
 have hlen:=fK dm (ag x) (ag y) (max (ag x).length (ag y).length)
 have hval:=C8 (bz x) (bz y) (max (ag x).length (ag y).length)
 rw [pD,nI,bJ,bJ] at hval
 have hlim:Lim (OI dm (ag x) (ag y) (max (ag x).length (ag y).length)).1:=vP (fun x y c=>Nat.mod_lt _ (by decide)) _
 have hle:=ut (bz x) (bz y) (fun x y c _ _ _=>rj x y c) (max (ag x).length (ag y).length)
 have hlt:=rH hlim
 rw [hlen] at hlt
 generalize OI dm (ag x) (ag y) (max (ag x).length (ag y).length)=r at *
 refine zW (aC hl g0 g1) ?_
 refine iteH.split (fun h=>?_) fun h=>?_
 ·have h1:r.2=1:=by omega
  rw [h1] at hval
  have:¬ y<=x:=by omega
  refine zW (bg hl g0 g1 this) ?_
  exact zK
 ·have h1:r.2=0:=by omega
  rw [h1] at hval
  have hyx:y<=x:=by omega
  refine zW (aC hl g0 g1) ?_
  refine AnsH.use (nat_trim C zF (ho.sl.mono (Sub.bump H3 _)) (by omega)) ?_
  rintro v H5 ⟨h5,hk5⟩
  obtain ⟨k7,_,_⟩:=zT H zK hk5
  have e:db r.1=ag (x-y):=by
   rw [dI hlim]; congr 1; omega
  rw [e] at h5
  refine zW (aC hl g0 g1) ?_
  exact ⟨k7,by rw [if_pos hyx]; exact ⟨v,rfl,h5⟩⟩
end
section
variable {tab:Nat->Option aq} {H:Heap} {s:AV} {l:List Nat}
theorem iL (C:Code tab) (hw:Wf H) (hs:Lb H s l) (hbig:l.length<1099511627776):Ans tab (.fn b9 [s]) H fun v H'=>Lb H' v l/\Kp H H':=by
 refine OD C.slices_Clone_api_Nat_uint64 (by decide) fun T hl g0=>?_
 rcases hs.nilcase with ⟨rfl,rfl⟩ | hne
 ·have e:bP .eql .sl .nilSl .nilSl=some (.bool true):=rfl
  refine zW (aC hl g0 e) ?_
  exact ⟨SlV.nil _ _ _,zK⟩
 ·have ef:cM ([]:List AV) []=some []:=rfl
  refine zW (bg hl g0 hne ef) ?_
  have k1:Kp H ((H.up 7).put (H.next+3) (.cells [] ad true)):=zK
  have le_k1:=k1.le
  have h0:SlV (cB bX) ad ((H.up 7).put (H.next+3) (.cells [] ad true)) (.own (H.next+3) 0 0 0 1 true) ([]:List Nat) :=
   (show Own (cB bX) ad H _ (H.next+3) true _ [] from ⟨_,rfl,aA _ _ _,Cells.nil _ _,by omega⟩).sl
  obtain ⟨v',H2,e1,h2,hk2,hn2,hs2,-⟩:=SlV.app (l:=[]) (id:=H.next+5) (bytes:=8) h0 k1 (hs.mono k1.sub) (by omega) (by show _<H.next+7; omega) (by rw [au (by omega)]; exact hw.fresh (b:=H.next+5) (by omega)) (by simp; omega) (by simp; omega)
  have e1':OC ((H.up 7).put (H.next+3) (.cells [] ad true)) (H.next+5) 1 8 ad (.own (H.next+3) 0 0 0 1 true) s=some (v',H2):=e1
  refine zW (aC hl g0 e1') ?_
  exact ⟨h2,hk2⟩
def intE:eU Int where
 sz:=2
 tys:=[ad]
 R H cs z:=∃ v,cs=[.bool (decide (z<0)),v]/\bZ H v z.natAbs
 pos:=by omega
 len:=by rintro H cs z ⟨v,rfl,h⟩; exact ⟨rfl,by simp [h.one.2]; rfl⟩
 mono:=by rintro H H' cs z hs ⟨v,rfl,h⟩; exact ⟨v,rfl,h.monoT hs⟩
def IntV (H:Heap) (v:AV) (z:Int):Prop:=∃ w,v=.agg [.bool (decide (z<0)),w]/\bZ H w z.natAbs
def OV (z:Int):Prop:=Sm z.natAbs
theorem IntV.mono {H H':Heap} (hs:Sub H H') {v:AV} {z:Int} (h:IntV H v z):IntV H' v z:=by
 obtain ⟨w,rfl,h⟩:=h; exact ⟨w,rfl,h.mono hs⟩
theorem bN (n:Nat):(0<(ag n).length) ↔ n≠0:=by
 rw [List.length_pos_iff]
 exact not_congr limbs_nil
theorem OX (C:Code tab) (hw:Wf H) {v:AV} {z:Int} (hv:IntV H v z) (hz:OV z):Ans tab (.fn iY [v]) H fun v H'=>v=.int .i64 0/\Kp H H':=by
 obtain ⟨w,rfl,hn⟩:=hv
 unfold OV Sm at hz
 have ow:=hn.one
 refine OD C.whole_Check (by decide) fun T hl g0=>?_
 refine zW (az hl g0) ?_
 have k1:Kp H ((H.up 16).put H.next (.cells [.bool (decide (z<0)),w] aa true)):=zK
 have le_k1:=k1.le
 refine AnsH.eq (nat_Check C k1.wf (hn.mono k1.sub) (by omega)) fun H2 hk2=>?_
 rw [if_neg (cZ _)]
 have k2:=k1.trans hk2
 have b0:H2.get H.next=some (.cells [.bool (decide (z<0)),w] aa true):=hk2.get (aA _ _ _)
 refine zW (aC hl g0 @b0) ?_
 refine iteH.split (fun h=>?_) fun h=>?_
 ·have:¬ (ag z.natAbs).length=0:=by have:=(bN z.natAbs).2 (by omega); omega
  have e:decide (((ag z.natAbs).length:Int)=0)=false:=by simp; intro h; rw [h] at this; exact this rfl
  refine zW (fW hl g0 @b0 hn.lenV h e) ?_
  exact zK
 ·refine zW (bg hl g0 @b0 h) ?_
  exact zK
theorem js {ty:Nat} {v:AV} {l:List Int} (hs:SlV intE ty H v l) {i:Nat} (hi:i<l.length):∃ w,bZ H w (l[i]).natAbs/\aZ H (some 2) (al v (i*2))=some (.agg [.bool (decide (l[i]<0)),w])/\aZ H none (al v (i*2))=some (.bool (decide (l[i]<0)))/\aZ H none (al v (i*2+1))=some w:=by
 obtain ⟨cs,⟨w,rfl,hn⟩,-,h1,h2⟩:=hs.at (List.getElem?_eq_getElem hi)
 exact ⟨w,hn,h2,h1 0 _ rfl,h1 1 _ rfl⟩
theorem Dq {H1:Heap} {b ty:Nat} {x y:Int} {p q:AV} (hx:bZ H p x.natAbs) (hy:bZ H q y.natAbs) (hs:Sub H H1) (hg:H1.get b=some (.cells [.bool (decide (x<0)),p,.bool (decide (y<0)),q] ty true)):SlV intE ty H1 (.own b 0 2 2 2 true) [x,y] :=
 ⟨_,Rd.own hg rfl (Nat.le_refl _),fun _ _ _ _ _ _ e=>by cases e; exact ⟨_,_,hg⟩,rfl,fun i a hi=>by
  match i with
  | 0=>simp at hi; subst hi; exact ⟨p,rfl,hx.mono hs⟩
  | 1=>simp at hi; subst hi; exact ⟨q,rfl,hy.mono hs⟩
  | i+2=>simp at hi⟩
theorem fD (C:Code tab) (hw:Wf H) {v:AV} {ls:List Int} {ty:Nat} (hs:SlV intE ty H v ls) (hbig:ls.length<4611686018427387904) (hc:∀ z∈ls,OV z) :
  Ans tab (.fn jr [v]) H fun v H'=>v=.int .i64 0/\Kp H H':=by
 refine OD C.whole_checked (by decide) fun T hl g0=>?_
 refine zW (aC hl g0 hs.lenV) ?_
 refine ak H [] (fun _ _ _=>True) (a:=0) (N:=ls.length) rfl (by refine zW (az hl g0) ?_; rfl) (zV (az hl g0)) (Nat.zero_le _) (by omega) (by simp only [List.length_set,hl]; rfl) rfl (fun _ _ _ _ h=>h) zK trivial ?_ ?_
 ·intro j T1 H1 _ hj hl1 hi1 hs1 hk1 _
  have w1:=hk1.wf
  have le_hk1:=hk1.le
  have t6:ae T1 6=v:=(hs1.at_ 6 (by decide)).trans (zV (az hl g0))
  obtain ⟨w,hn,hld,-,-⟩:=js (hs.mono hk1.sub) hj
  have hix:Ox 2 v (.int .i64 (j:Int))=some (al v (j*2)):=SlV.idx hs .i64 j hj
  have hcc:=hc _ (List.getElem_mem hj)
  have ow:=hn.one
  simp only [List.length_set,hl] at hl1
  refine zW (cJ hl1 t6 hi1 hix hld) ?_
  have hle:=hk1.le
  refine AnsH.eq (OX C zF ⟨w,rfl,hn.mono (Kp.sub (H:=H1) zK)⟩ hcc) fun H2 hk2=>?_
  obtain ⟨k2,_,_⟩:=zT H zK hk2
  refine zW hl1 ?_
  exact zK
 ·intro T1 H1 hl1 hs1 hk1 _
  simp only [List.length_set,hl] at hl1
  refine zW hl1 ?_
  exact zK
theorem l8 {w:AV} {n:Nat} (b:Bool) (h:bZ H w n):IntV H (.agg [.bool (b && decide (0<(ag n).length)),w]) (if b then -(n:Int) else n):=by
 refine ⟨w,?_,?_⟩
 ·have:=bN n
  congr 3
  cases b
  ·simp
  ·simp only [Bool.true_and,if_true]
   by_cases h0:n=0
   ·simp [h0,co]
   ·have h1:=this.2 h0
    simp [h1]; omega
 ·cases b
  ·simpa using h
  ·simpa using h
theorem whole_Neg (C:Code tab) (hw:Wf H) {v:AV} {z:Int} (hv:IntV H v z) (hz:OV z):Ans tab (.fn nU [v]) H fun v H'=>∃ r,v=.tup [r,.int .i64 0]/\IntV H' r (-z)/\Kp H H':=by
 obtain ⟨w,rfl,hn⟩:=hv
 have ow:=hn.one
 refine OD C.whole_Neg (by decide) fun T hl g0=>?_
 refine zW (az hl g0) ?_
 refine AnsH.eq (OX C zF ⟨w,rfl,hn.mono (Kp.sub (H:=H) zK)⟩ hz) fun H2 hk2=>?_
 obtain ⟨k2,_,_⟩:=zT H zK hk2
 have b0:H2.get H.next=some (.cells [.bool (decide (z<0)),w] aa true):=hk2.get (dC)
 have b1:H2.get (H.next+1)=some (.cells [.bool false,.nilSl] aa true):=hk2.get (dC)
 refine zW (az hl g0) ?_
 refine aO ?_
 refine zD (bg hl g0 @b0 b1) ?_
 unfold OV Sm at hz
 have w2:=k2.wf
 refine AnsH.use (iL C zF (hn.mono (Kp.sub (H:=H) zK)) (by omega)) ?_
 rintro v3 H3 ⟨h3,hk3⟩
 obtain ⟨k3,_,w3⟩:=zT H zK hk3
 refine zD (bg hl g0 @b0 b1) ?_
 refine AnsH.use (whole_made C zF h3 _) ?_
 rintro v4 H4 ⟨rfl,hk4⟩
 obtain ⟨k4,_,_⟩:=zT H zK hk4
 have o3:=h3.one
 have c0:H3.get H.next=some (.cells [.bool (decide (z<0)),w] aa true):=hk3.get b0
 have d1:H4.get (H.next+1)=some (.cells [.bool false,.nilSl] aa true):=hk4.get (hk3.get b1)
 refine zD (fW hl g0 @b0 b1 c0 d1) ?_
 have lt1:=k4.wf _ _ d1
 refine ⟨_,rfl,?_,zK⟩
 have hm:=l8 (!decide (z<0)) ((h3.mono (Kp.sub (H:=H3) (Kp.trans zK hk4))).monoT (SubT.put_ty (e:=.cells [.bool (!decide (z<0) && decide (0<(ag z.natAbs).length)),v3] aa true) d1 (by decide)))
 have e:(if (!decide (z<0))=true then -((z.natAbs:Nat):Int) else ((z.natAbs:Nat):Int)) = -z:=by
  by_cases h:z<0 <;> simp [h] <;> omega
 rw [e] at hm
 exact hm
end
section
variable {tab:Nat->Option aq} {H:Heap}
theorem If (x y:Int):(decide (x<0) == decide (y<0))=decide ((x<0)=(y<0)):=by
 by_cases hx:x<0 <;> by_cases hy:y<0 <;> simp [hx,hy]
theorem whole_sum (C:Code tab) (hw:Wf H) {a b:AV} {x y:Int} (ha:IntV H a x) (hb:IntV H b y) (hx:OV x) (hy:OV y):Ans tab (.fn nS [a,b]) H fun v H'=>IntV H' v (x+y)/\Kp H H':=by
 obtain ⟨p,rfl,hp⟩:=ha
 obtain ⟨q,rfl,hq⟩:=hb
 have op:=hp.one
 have oq:=hq.one
 refine ca C.whole_sum (by decide) fun T hl g0 g1=>?_
 refine zW (aC hl g0 g1) ?_
 have fin:∀ (H3:Heap) (k3:Kp H H3) (bb:Bool) (o:AV) (n:Nat) (z:Int),H3.get (H.next+2)=some (.cells [.bool false,.nilSl] aa true)->Lb H3 o (ag n)->(if bb then -(n:Int) else n)=z ->
   IntV (H3.put (H.next+2) (.cells [.bool (bb && decide (0<(ag n).length)),o] aa true)) (.agg [.bool (bb && decide (0<(ag n).length)),o]) z/\Kp H (H3.put (H.next+2) (.cells [.bool (bb && decide (0<(ag n).length)),o] aa true)):=by
  intro H3 k3 bb o n z d1 ho hz
  have lt1:=k3.wf _ _ d1
  refine ⟨?_,zK⟩
  rw [<- hz]
  exact l8 bb (ho.monoT (SubT.put_ty d1 (by decide)))
 refine iteH.split (fun h=>?_) fun h=>?_
 ·rw [If] at h
  simp only [decide_eq_true_eq,eq_iff_iff] at h
  refine zW (aC hl g0 g1) ?_
  refine AnsH.use (nat_Add C zF (hp.mono (Kp.sub (H:=H) zK)) (hq.mono (Kp.sub (H:=H) zK)) hx hy) ?_
  rintro v H2 ⟨o,rfl,ho,hk2⟩
  obtain ⟨k2,_,w2⟩:=zT H zK hk2
  have b0:H2.get H.next=some (.cells [.bool (decide (x<0)),p] aa true):=hk2.get (dC)
  have b2:H2.get (H.next+2)=some (.cells [.bool false,.nilSl] aa true):=hk2.get (dC)
  refine zW (bg hl g0 g1 @b0) ?_
  refine AnsH.use (whole_made C zF (ho.mono (Kp.sub (H:=H2) zK)) _) ?_
  rintro v3 H3 ⟨rfl,hk3⟩
  obtain ⟨k3,_,_⟩:=zT H zK hk3
  have o3:=ho.one
  have d1:=hk3.get (b:=H.next+2) b2
  refine zW (bg hl g0 g1 d1) ?_
  refine fin H3 k3 _ _ _ _ d1 (ho.mono (Kp.sub (H:=H2) (Kp.trans zK hk3))) ?_
  by_cases h1:x<0 <;> simp [h1] <;> omega
 ·rw [If] at h
  simp only [decide_eq_true_eq,eq_iff_iff] at h
  refine zW (aC hl g0 g1) ?_
  refine AnsH.use (nat_Sub C zF (hp.mono (Kp.sub (H:=H) zK)) (hq.mono (Kp.sub (H:=H) zK)) hx hy) ?_
  rintro v H2 ⟨hk2,hr⟩
  obtain ⟨k2,_,w2⟩:=zT H zK hk2
  have b0:H2.get H.next=some (.cells [.bool (decide (x<0)),p] aa true):=hk2.get (dC)
  have b1:H2.get (H.next+1)=some (.cells [.bool (decide (y<0)),q] aa true):=hk2.get (dC)
  have b2:H2.get (H.next+2)=some (.cells [.bool false,.nilSl] aa true):=hk2.get (dC)
  by_cases hle:y.natAbs<=x.natAbs
  ·rw [if_pos hle] at hr
   obtain ⟨o,rfl,ho⟩:=hr
   refine zW (bg hl g0 g1 @b0) ?_
   refine AnsH.use (whole_made C zF (ho.mono (Kp.sub (H:=H2) zK)) _) ?_
   rintro v3 H3 ⟨rfl,hk3⟩
   obtain ⟨k3,_,_⟩:=zT H zK hk3
   have o3:=ho.one
   have d1:=hk3.get (b:=H.next+2) b2
   refine zW (bg hl g0 g1 d1) ?_
   refine fin H3 k3 _ _ _ _ d1 (ho.mono (Kp.sub (H:=H2) (Kp.trans zK hk3))) ?_
   by_cases h1:x<0 <;> simp [h1] <;> omega
  ·rw [if_neg hle] at hr
   subst hr
   refine zW (cJ hl g0 g1 @b0 b1) ?_
   refine AnsH.use (nat_Sub C zF (hq.mono (Kp.sub (H:=H) zK)) (hp.mono (Kp.sub (H:=H) zK)) hy hx) ?_
   rintro v H3 ⟨hk3,hr⟩
   rw [if_pos (by omega)] at hr
   obtain ⟨o,rfl,ho⟩:=hr
   obtain ⟨k3,_,w3⟩:=zT H zK hk3
   have c1:=hk3.get (b:=H.next+1) b1
   have c2:=hk3.get (b:=H.next+2) b2
   refine zW (bg hl g0 g1 @c1) ?_
   refine AnsH.use (whole_made C zF (ho.mono (Kp.sub (H:=H3) zK)) _) ?_
   rintro v4 H4 ⟨rfl,hk4⟩
   obtain ⟨k4,_,_⟩:=zT H zK hk4
   have o3:=ho.one
   have d1:=hk4.get (b:=H.next+2) c2
   refine zW (bg hl g0 g1 d1) ?_
   refine fin H4 k4 _ _ _ _ d1 (ho.mono (Kp.sub (H:=H3) (Kp.trans zK hk4))) ?_
   by_cases h1:y<0 <;> simp [h1] <;> omega
end
end Go.Proofs.YtboamamhcfhanaaGreat.Ev
