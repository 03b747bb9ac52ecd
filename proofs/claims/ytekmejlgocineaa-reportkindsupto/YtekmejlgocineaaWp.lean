/- A part. -/
import Derived.Test.YtekmejlgocineaaEvDraw5
namespace Go.Proofs.Ytekmejlgocineaa.Ev
open Go
set_option linter.all false
def eX {α:Type} (o:Option α) (Q:α->Prop):Prop:=match o with
 | some v=>Q v
 | none=>False
theorem wx {α:Type} (v:α) (Q:α->Prop):eX (some v) Q=Q v:=rfl
theorem nU {α β:Type} (o:Option α) (f:α->β) (Q:β->Prop):eX (o.map f) Q=eX o fun v=>Q (f v):=by cases o <;> rfl
def lenV:AV->Option AV
 | .own _ _ n _ _ _=>some (.int .i64 n)
 | .sl _ n=>some (.int .i64 n)
 | .nilSl=>some (.int .i64 0)
 | _=>none
def a7 (sz:Nat) (v i:AV):Option AV:=aF (fun s=>match s with | .t 0=>v | _=>i) (.indexAddr sz (.t 0) (.t 1))
def Al (off:Nat):AV->Option AV
 | .ptr b o=>some (.ptr b (o+off))
 | .dp cs o=>some (.dp cs (o+off))
 | _=>none
def qL (k:Option Nat) (off:Nat):AV->Option AV
 | .agg cs=>aB cs off k
 | _=>none
def uH (c a b:AV):Option AV:=match c with
 | .bool t=>some (if t then a else b)
 | _=>none
def ve (k:IntKind):AV->Option AV
 | .int _ n=>some (.int k (k.wrap n))
 | _=>none
def xh (i:Nat):AV->Option AV
 | .tup vs=>vs[i]?
 | _=>none
def gm (zero:List AV) (parts:List ((Nat × Nat) × AV)):Option AV:=(cD zero parts).map .agg
def nV:AV->Option AV
 | .ptr b o=>some (.ptr b o)
 | .dp cs o=>some (.dp cs o)
 | .fn (.func f) a c=>some (.fn (.func f) a c)
 | .loopv b=>some (.loopv b)
 | _=>none
def l3 (sz:Nat) (v:AV) (lo hi mx:Option AV):Option AV:=match v with
 | .str _=>none
 | v=>fd sz v lo hi mx
section
variable (tab:Nat->Option aN) (ev:Src->AV) (H:Heap) (id:Nat) (Q:AV->Heap->Prop)
theorem AE {o:AOp} {w:AV} (hc:∀ f args,o ≠ .call f args) (h:aF ev o=some w):fq tab ev H id o Q=Q w H:=by
 cases o
 case call f args=>exact absurd rfl (hc f args)
 all_goals
  unfold fq
  simp only [h]
theorem eV {o:AOp} (hc:∀ f args,o ≠ .call f args) (h:aF ev o=none):fq tab ev H id o Q=eX (aX ev H id o) fun r=>Q r.1 r.2:=by
 cases hh:aX ev H id o with
 | none =>
  cases o
  case call f args=>exact absurd rfl (hc f args)
  all_goals
   unfold fq
   simp only [h,hh]
   rfl
 | some r =>
  cases o
  case call f args=>exact absurd rfl (hc f args)
  all_goals
   unfold fq
   simp only [h,hh]
   rfl
theorem cM {o:AOp} {v:Option AV} (hc:∀ f args,o ≠ .call f args) (h:aF ev o=v) (hn:aX ev H id o=none):fq tab ev H id o Q=eX v fun v=>Q v H:=by
 cases v with
 | some w=>rw [AE tab ev H id Q hc h,wx]
 | none=>rw [eV tab ev H id Q hc h,hn]; rfl
theorem AF (c a b:Src):fq tab ev H id (.pick c a b) Q=eX (uH (ev c) (ev a) (ev b)) fun v=>Q v H :=
 cM tab ev H id Q (fun f a e=>by cases e) (by simp only [aF,uH]; cases ev c <;> rfl) rfl
theorem C3 (op:BinOp) (k:BK) (x y:Src):fq tab ev H id (.bin op k x y) Q=eX (cw op k (ev x) (ev y)) fun v=>Q v H :=
 cM tab ev H id Q (fun f a e=>by cases e) rfl rfl
theorem En (op:UnOp) (x:Src):fq tab ev H id (.un op x) Q=eX (Dc op (ev x)) fun v=>Q v H :=
 cM tab ev H id Q (fun f a e=>by cases e) rfl rfl
theorem AI (k:IntKind) (x:Src):fq tab ev H id (.conv k x) Q=eX (ve k (ev x)) fun v=>Q v H :=
 cM tab ev H id Q (fun f a e=>by cases e) (by simp only [aF,ve]; cases ev x <;> rfl) rfl
theorem CX (x:Src):fq tab ev H id (.len x) Q=eX (lenV (ev x)) fun v=>Q v H :=
 cM tab ev H id Q (fun f a e=>by cases e) (by simp only [aF,lenV]; cases ev x <;> rfl) rfl
theorem CY (sz:Nat) (x i:Src):fq tab ev H id (.indexAddr sz x i) Q=eX (a7 sz (ev x) (ev i)) fun v=>Q v H :=
 cM tab ev H id Q (fun f a e=>by cases e) (by simp only [aF,a7]) rfl
theorem Eo (off:Nat) (x:Src):fq tab ev H id (.fieldAddr off x) Q=eX (Al off (ev x)) fun v=>Q v H :=
 cM tab ev H id Q (fun f a e=>by cases e) (by simp only [aF,Al]; cases ev x <;> rfl) rfl
theorem yi (k:Option Nat) (off:Nat) (x:Src):fq tab ev H id (.field k off x) Q=eX (qL k off (ev x)) fun v=>Q v H :=
 cM tab ev H id Q (fun f a e=>by cases e) (by simp only [aF,qL]; cases ev x <;> rfl) rfl
theorem CZ (i:Nat) (x:Src):fq tab ev H id (.extract i x) Q=eX (xh i (ev x)) fun v=>Q v H :=
 cM tab ev H id Q (fun f a e=>by cases e) (by simp only [aF,xh]; cases ev x <;> rfl) rfl
theorem yj (z:List AV) (ps:List ((Nat × Nat) × Src)):fq tab ev H id (.build z ps) Q=eX (gm z (ps.map fun p=>(p.1,ev p.2))) fun v=>Q v H :=
 cM tab ev H id Q (fun f a e=>by cases e) (by simp only [aF,gm,Option.bind_eq_bind]; cases cD z (ps.map fun p=>(p.1,ev p.2)) <;> rfl) rfl
theorem yh (x:Src):fq tab ev H id (.nilCheck x) Q=eX (nV (ev x)) fun v=>Q v H :=
 cM tab ev H id Q (fun f a e=>by cases e) (by simp only [aF,nV]; cases ev x <;> rfl) rfl
theorem yg (sz:Nat) (x:Src) (lo hi mx:Option Src):fq tab ev H id (.slice sz x lo hi mx) Q=eX (l3 sz (ev x) (lo.map ev) (hi.map ev) (mx.map ev)) fun v=>Q v H :=
 cM tab ev H id Q (fun f a e=>by cases e) (by simp only [aF,l3]; cases ev x <;> rfl) rfl
theorem AH (k:Option Nat) (x:Src):fq tab ev H id (.load k x) Q=eX (bC H k (ev x)) fun v=>Q v H:=by
 rw [eV tab ev H id Q (fun f a e=>by cases e) rfl]
 show eX ((bC H k (ev x)).map fun v=>(v,H)) _=_
 rw [nU]
theorem yf (n:Nat) (x v:Src):fq tab ev H id (.store n x v) Q=eX (js H n (ev x) (ev v)) fun H'=>Q .undef H':=by
 rw [eV tab ev H id Q (fun f a e=>by cases e) rfl]
 show eX ((js H n (ev x) (ev v)).map fun H'=>(AV.undef,H')) _=_
 rw [nU]
theorem yl (ty:Nat) (z:List AV):fq tab ev H id (.alloc ty z) Q=Q (.ptr id 0) (H.put id (.cells z ty true)):=by
 rw [eV tab ev H id Q (fun f a e=>by cases e) rfl]; rfl
theorem AX (f:Nat) (a b args:List AV) (R:Task->Prop):(∃ t,gE (.fn (.func f) a b) args=some t/\R t)=R (.fn f (a++args++b)):=by simp [gE]
theorem vV (b:Nat) (args:List AV) (R:Task->Prop):(∃ t,gE (.loopv b) args=some t/\R t)=R (.round b args):=by simp [gE]
theorem vN (size bytes ty:Nat) (z:List AV) (x y:Src):fq tab ev H id (.append size bytes ty z x y) Q=eX (aX ev H id (.append size bytes ty z x y)) fun r=>Q r.1 r.2 :=
 eV tab ev H id Q (fun f a e=>by cases e) rfl
theorem AG (ty size bytes:Nat) (z:List AV) (l c:Src):fq tab ev H id (.mksl ty size bytes z l c) Q=eX (aX ev H id (.mksl ty size bytes z l c)) fun r=>Q r.1 r.2 :=
 eV tab ev H id Q (fun f a e=>by cases e) rfl
theorem oJ (ty size:Nat) (z:List AV) (n:Nat) (ps:List ((Nat × Nat) × Src)):fq tab ev H id (.buildSlice ty size z n ps) Q=eX (cD z (ps.map fun p=>(p.1,ev p.2))) fun cs=>Q (.own id 0 n n size true) (H.put id (.cells cs ty true)):=by
 rw [eV tab ev H id Q (fun f a e=>by cases e) rfl]
 have e:aX ev H id (.buildSlice ty size z n ps)=(cD z (ps.map fun p=>(p.1,ev p.2))).map fun cs=>(.own id 0 n n size true,H.put id (.cells cs ty true)):=by
  simp only [aX]
  cases cD z (ps.map fun p=>(p.1,ev p.2)) <;> rfl
 rw [e,nU]
end
section
variable {tab:Nat->Option aN} {T:Tm} {H:Heap} {Q:Tm->Heap->Prop} {id:Nat}
theorem lK (T:Tm) (i j:Nat) (v:AV) (h:i<T.length):aa (T.set i v) j=if i=j then v else aa T j:=by
 unfold aa
 rw [List.getD_eq_getElem?_getD,List.getD_eq_getElem?_getD,List.getElem?_set]
 by_cases hij:i=j
 ·subst hij; simp [h]
 ·simp [hij]
theorem DU (n:Nat):Src.ev T (.t n)=aa T n:=rfl
theorem ET (v:AV):Src.ev T (.c v)=v:=rfl
theorem l5 (d:Nat) (v:AV):gN T (some d) v=T.set d v:=rfl
theorem wq (v:AV):gN T none v=T:=rfl
end
theorem BT {H:Heap} {sz:Nat} {v:AV} {cells:List AV} (h:Rd H sz v cells) {k:IntKind} {j:Nat} (hj:j*sz+sz<=cells.length) (hsz:0<sz):a7 sz v (.int k (j:Int))=some (br v (j*sz)) :=
 h.index (ev:=fun s=>match s with | .t 0=>v | _=>.int k (j:Int)) (x:=.t 0) (i:=.t 1) rfl rfl hj hsz
theorem BO {H:Heap} {sz:Nat} {v:AV} {cells:List AV} (h:Rd H sz v cells) {n:Nat} (hn:cells.length=n*sz) (hsz:0<sz):lenV v=some (.int .i64 (n:Int)):=by
 have:=h.len (ev:=fun _=>v) (x:=.t 0) rfl hn hsz
 refine Eq.trans ?_ this
 simp only [aF,lenV]
 cases v <;> rfl
section
variable {tab:Nat->Option aN} {T:Tm} {H:Heap} {Q:Tm->Heap->Prop} {id:Nat}
end
theorem Cm {tab:Nat->Option aN} {f:Nat} {fn:aN} {args:List AV} {H:Heap} {Q:AV->Heap->Prop} (hf:tab f=some fn) (he:fn.ext=none) (hl:args.length=fn.nparams) (hn:fn.nparams<=fn.ntmps)
  (h:∀ T0:Tm,T0.length=fn.ntmps->(∀ i,i<args.length->aa T0 i=args.getD i .undef)->nc tab false fn.body T0 H fun x T' H'=>(x=.nrm\/x=.ret)/\∃ v,co T' H' fn.results=some v/\Q v H'):Ans tab (.fn f args) H Q:=by
 refine D9 hf he hl (h _ (by simp; omega) fun i hi=>?_)
 unfold aa
 rw [List.getD_eq_getElem?_getD,List.getD_eq_getElem?_getD,List.getElem?_append_left hi]
structure Sw (H H':Heap):Prop where
 sub:Sub H H'
 wf:Wf H'
theorem Sw.refl {H:Heap} (h:Wf H):Sw H H:=⟨Sub.refl H,h⟩
theorem Sw.bump {H H':Heap} (h:Sw H H') (k:Nat):Sw H { H' with next:=H'.next+k }:=⟨h.sub.bump_r k,h.wf.bump k⟩
theorem Sw.trans {H H' H'':Heap} (h:Sw H H') (h':Sw H' H''):Sw H H'':=⟨h.sub.trans h'.sub,h'.wf⟩
def sn (v:AV) (P Q:Prop):Prop:=match v with
 | .bool true=>P
 | .bool false=>Q
 | _=>False
theorem tX (b:Bool) (P Q:Prop):sn (.bool b) P Q=if b=true then P else Q:=by cases b <;> simp [sn]
section
variable {tab:Nat->Option aN} {rd:Bool} {T:Tm} {H:Heap} {Q:Ex->Tm->Heap->Prop}
theorem AJ (a b:ACode):nc tab rd (.seq a b) T H Q=nc tab rd a T H fun x T' H'=>match x with | .nrm=>nc tab rd b T' H' Q | x=>Q x T' H':=rfl
theorem ym (c:Src) (a b:ACode):nc tab rd (.cond c a b) T H Q=sn (c.ev T) (nc tab rd a T H Q) (nc tab rd b T H Q):=by
 show (match c.ev T with | .bool true=>nc tab rd a T H Q | .bool false=>nc tab rd b T H Q | _=>False)=_
 unfold sn
 split <;> rfl
theorem vP (id:Nat) (a:ACode):nc tab rd (.block id a) T H Q=nc tab rd a T H fun x T' H'=>match x with | .exit id'=>if id'=id then Q .nrm T' H' else Q (.exit id') T' H' | x=>Q x T' H':=rfl
theorem vO (a:ACode):nc tab rd (.scope a) T H Q=nc tab rd a T H fun x T' H'=>match x with | .goto _=>False | x=>Q x T' H':=rfl
end
section
variable (k:IntKind) (a b:Int)
theorem Cg:cw .eql .int (.int k a) (.int k b)=some (.bool (decide (a=b))):=by
 simp only [cw,gH,if_true]; congr 2
theorem Cc:cw .neq .int (.int k a) (.int k b)=some (.bool (!decide (a=b))):=by
 simp only [cw,gH,if_true]; congr 2
theorem vw:cw .lss .int (.int k a) (.int k b)=some (.bool (decide (a<b))):=by simp only [cw,gH,if_true]
theorem Cd:cw .leq .int (.int k a) (.int k b)=some (.bool (decide (a<=b))):=by simp only [cw,gH,if_true]
theorem Ce:cw .gtr .int (.int k a) (.int k b)=some (.bool (decide (b<a))):=by simp only [cw,gH,if_true,gt_iff_lt,ge_iff_le]
theorem Cf:cw .geq .int (.int k a) (.int k b)=some (.bool (decide (b<=a))):=by simp only [cw,gH,if_true,gt_iff_lt,ge_iff_le]
theorem qS:cw .add .int (.int k a) (.int k b)=some (.int k (k.wrap (a+b))):=by simp only [cw,gH,if_true]
theorem vt:cw .sub .int (.int k a) (.int k b)=some (.int k (k.wrap (a-b))):=by simp only [cw,gH,if_true]
theorem vu:cw .mul .int (.int k a) (.int k b)=some (.int k (k.wrap (a*b))):=by simp only [cw,gH,if_true]
theorem zJ (j:IntKind):ve k (.int j a)=some (.int k (k.wrap a)):=rfl
theorem wu (c:Bool) (x y:AV):uH (.bool c) x y=some (if c=true then x else y):=rfl
theorem Da (c:Bool):Dc .not (.bool c)=some (.bool !c):=rfl
theorem Ci (c e:Bool):cw .eql .bool (.bool c) (.bool e)=some (.bool (c == e)):=rfl
theorem Ch (c e:Bool):cw .neq .bool (.bool c) (.bool e)=some (.bool (!(c == e))):=rfl
end
theorem ae {x:Int} (h1 : -9223372036854775808<=x) (h2:x<9223372036854775808):IntKind.i64.wrap x=x:=by
 have e:IntKind.i64.wrap x=if x % 18446744073709551616 ≥ 9223372036854775808 then x % 18446744073709551616-18446744073709551616 else x % 18446744073709551616:=by
  simp [IntKind.wrap,IntKind.signed,IntKind.bits]
 rw [e]
 split <;> omega
theorem jq {x:Int}:IntKind.u64.wrap x=x % 18446744073709551616:=by
 simp [IntKind.wrap,IntKind.signed,IntKind.bits]
theorem gu {x:Int} (h1:0<=x) (h2:x<18446744073709551616):IntKind.u64.wrap x=x:=by rw [jq]; omega
theorem qU (k:IntKind) (n:Nat):iU (.int k (n:Int))=some n:=rfl
def Bld (H0 H:Heap) (sz ty:Nat) (v:AV) (cells:List AV):Prop :=
 (v=.nilSl/\cells=[])\/∃ b n,v=.own b 0 n n sz false/\H.get b=some (.cells cells ty true)/\cells.length=n*sz/\H0.get b=none
theorem Bld.nil {H0 H:Heap} {sz ty:Nat}:Bld H0 H sz ty .nilSl []:=.inl ⟨rfl,rfl⟩
theorem Bld.keep {H0 H H':Heap} {sz ty:Nat} {v:AV} {cells:List AV} (h:Bld H0 H sz ty v cells) (hk:∀ b e,H.get b=some e->H'.get b=some e):Bld H0 H' sz ty v cells:=by
 rcases h with h | ⟨b,n,h1,hb,h2⟩
 ·exact .inl h
 ·exact .inr ⟨b,n,h1,hk _ _ hb,h2⟩
theorem rY (H:Heap) (b c:Nat) (e:Ent):(H.put b e).get c=if c=b then some e else H.get c:=by rw [Heap.get_put]
theorem wQ (H:Heap) (b c:Nat):(H.kill b).get c=if c=b then none else H.get c:=by rw [Heap.get_kill]
def kh (v:AV):Option (List AV):=if v.cells.all AV.one=true then some v.cells else none
def BE (x y:AV):Option AV:=match x with
 | .int k a=>uS (.int k a) y
 | _=>none
def BC (x y:AV):Option AV:=match x with
 | .int k a=>uQ (.int k a) y
 | _=>none
theorem BD (k j:IntKind) (a b:Int):BE (.int k a) (.int j b)=some (.int k (if b > a then b else a)):=rfl
theorem BB (k j:IntKind) (a b:Int):BC (.int k a) (.int j b)=some (.int k (if b<a then b else a)):=rfl
theorem D5 (f:Fn) (a b:List AV):kh (.fn f a b)=some [.fn f a b]:=rfl
theorem Cb (k:IntKind) (a:Int):kh (.int k a)=some [.int k a]:=rfl
section
variable {tab:Nat->Option aN}
variable (ev:Src->AV) (H:Heap) (id:Nat) (Q:AV->Heap->Prop)
theorem C0 (ty:Nat) (x:Src):fq tab ev H id (.box ty x) Q=eX (kh (ev x)) fun cs=>Q (.ptr id 0) (H.put id (.cells cs ty true)):=by
 rw [eV tab ev H id Q (fun f a e=>by cases e) rfl]
 simp only [aX,kh]
 by_cases h:(ev x).cells.all AV.one=true
 ·rw [if_pos h,if_pos h]; rfl
 ·rw [if_neg h,if_neg h]; rfl
theorem CW (a b:Src):fq tab ev H id (.max [a,b]) Q=eX (BE (ev a) (ev b)) fun v=>Q v H:=by
 refine cM tab ev H id Q (fun f a e=>by cases e) ?_ rfl
 simp only [aF,BE,List.map_cons,List.map_nil]
 cases ev a <;> simp <;> rfl
theorem CV (a b:Src):fq tab ev H id (.min [a,b]) Q=eX (BC (ev a) (ev b)) fun v=>Q v H:=by
 refine cM tab ev H id Q (fun f a e=>by cases e) ?_ rfl
 simp only [aF,BC,List.map_cons,List.map_nil]
 cases ev a <;> simp <;> rfl
end
structure WC (tab:Nat->Option aN) (rd:Bool) (c:ACode) (T:Tm) (H:Heap) (Q:Ex->Tm->Heap->Prop):Prop where
 run:nc tab rd c T H Q
structure qY (tab:Nat->Option aN) (id:Nat) (os:List oF) (T:Tm) (H:Heap) (Q:Tm->Heap->Prop):Prop where
 run:mD tab id os T H Q
structure gU (tab:Nat->Option aN) (ev:Src->AV) (H:Heap) (id:Nat) (o:AOp) (Q:AV->Heap->Prop):Prop where
 run:fq tab ev H id o Q
theorem jR:WC=nc:=by funext tab rd c T H Q; exact propext ⟨fun h=>h.run,fun h=>⟨h⟩⟩
theorem nu:qY=mD:=by funext tab rd c T H Q; exact propext ⟨fun h=>h.run,fun h=>⟨h⟩⟩
theorem bF:gU=fq:=by funext tab rd c T H Q; exact propext ⟨fun h=>h.run,fun h=>⟨h⟩⟩
abbrev sO {α:Sort _} (_:α):Type:=Unit
def eG {α:Type} (o:Option α) (Q:α->Prop) (_:sO Q):Prop:=eX o Q
def vg (v:AV) (P Q:Prop) (_:sO P) (_:sO Q):Prop:=sn v P Q
def Do (id:Nat) (H:Heap) (F:Nat->Heap->Prop) (_:sO F):Prop:=F id H
def C9 (v:AV) (F:AV->Prop) (_:sO F):Prop:=F v
def v8 (tab:Nat->Option aN) (rd:Bool) (b:ACode) (Q:Ex->Tm->Heap->Prop) (x:Ex) (T:Tm) (H:Heap):Prop:=match x with
 | .nrm=>WC tab rd b T H Q
 | x=>Q x T H
def jM (id:Nat) (Q:Ex->Tm->Heap->Prop) (x:Ex) (T:Tm) (H:Heap):Prop:=match x with
 | .exit id'=>if id'=id then Q .nrm T H else Q (.exit id') T H
 | x=>Q x T H
def Bf (Q:Ex->Tm->Heap->Prop) (x:Ex) (T:Tm) (H:Heap):Prop:=match x with
 | .goto _=>False
 | x=>Q x T H
def tI (Inv:Nat->Tm->Heap->Prop) (k:Nat) (Q:Ex->Tm->Heap->Prop) (x:Ex) (T:Tm) (H:Heap):Prop:=match x with
 | .nrm=>∃ k',k'<k/\Inv k' T H
 | x=>Q x T H
def zN (v:AV) (args:List AV) (R:Task->Prop) (_:sO R):Prop:=∃ t,gE v args=some t/\R t
def AnsH (tab:Nat->Option aN) (t:Task) (H:Heap) (Q:AV->Heap->Prop) (_:sO Q):Prop:=Ans tab t H Q
def iteH (c:Prop) [Decidable c] (P Q:Prop) (_:sO P) (_:sO Q):Prop:=if c then P else Q
def EF (tab:Nat->Option aN) (rd:Bool) (body:ACode) (_:sO body) (T:Tm) (H:Heap) (Q:Ex->Tm->Heap->Prop) (_:sO Q):Prop:=WC tab rd (.loop body) T H Q
def Dq (tab:Nat->Option aN) (f:Src) (ps:List Nat) (asg body:ACode) (_:sO body) (_:sO asg) (T:Tm) (H:Heap) (Q:Ex->Tm->Heap->Prop) (_:sO Q):Prop:=WC tab false (.rangeFunc f ps asg body) T H Q
section
variable {tab:Nat->Option aN} {rd:Bool} {T:Tm} {H:Heap}
theorem mc {α:Type} (v:α) (Q:α->Prop):eG (some v) Q ()=Q v:=rfl
theorem ql (id:Nat) (H:Heap) (F:Nat->Heap->Prop):Do id H F ()=F id H:=rfl
theorem uA (v:AV) (F:AV->Prop):C9 v F ()=F v:=rfl
theorem tZ (b:Bool) (P Q:Prop):vg (.bool b) P Q () ()=iteH (b=true) P Q () ():=tX b P Q
theorem pC (P Q:Prop):iteH True P Q () ()=P:=if_pos trivial
theorem oh (P Q:Prop):iteH False P Q () ()=Q:=if_neg (fun h=>h)
theorem sw (f:Nat) (a b args:List AV) (R:Task->Prop):zN (.fn (.func f) a b) args R ()=R (.fn f (a++args++b)):=AX f a b args R
theorem ou (b:Nat) (args:List AV) (R:Task->Prop):zN (.loopv b) args R ()=R (.round b args):=vV b args R
theorem AnsH.use {t:Task} {H:Heap} {P Q:AV->Heap->Prop} (h:Ans tab t H P) (hq:∀ v H',P v H'->Q v H'):AnsH tab t H Q ():=h.mono hq
theorem AnsH.eq {t:Task} {H:Heap} {w:AV} {P:Heap->Prop} {Q:AV->Heap->Prop} (h:Ans tab t H fun v H'=>v=w/\P H') (hq:∀ H',P H'->Q w H'):AnsH tab t H Q ():=h.mono fun _ H' ⟨e,h1⟩=>e ▸ hq H' h1
theorem iteH.split {c:Prop} [Decidable c] {P Q:Prop} (h1:c->P) (h2:¬ c->Q):iteH c P Q () ():=by
 unfold iteH
 split
 ·exact h1 ‹_›
 ·exact h2 ‹_›
end
section
variable {tab:Nat->Option aN} (ev:Src->AV) (H:Heap) (id:Nat) (Q:AV->Heap->Prop)
theorem Cq (x:Src):gU tab ev H id (.mv x) Q=C9 (ev x) (fun v=>Q v H) ():=by rw [bF]; rfl
theorem Aw (f:Fn) (a b:List Src):gU tab ev H id (.mkfn f a b) Q=C9 (.fn f (a.map ev) (b.map ev)) (fun v=>Q v H) ():=by rw [bF]; rfl
theorem ye (ty:Nat) (z:List AV):gU tab ev H id (.alloc ty z) Q=Q (.ptr id 0) (H.put id (.cells z ty true)):=by rw [bF]; exact yl tab ev H id Q ty z
theorem Au (c a b:Src):gU tab ev H id (.pick c a b) Q=eG (uH (ev c) (ev a) (ev b)) (fun v=>Q v H) ():=by rw [bF,AF]; rfl
theorem sS (op:BinOp) (k:BK) (x y:Src):gU tab ev H id (.bin op k x y) Q=eG (cw op k (ev x) (ev y)) (fun v=>Q v H) ():=by rw [bF,C3]; rfl
theorem Ek (op:UnOp) (x:Src):gU tab ev H id (.un op x) Q=eG (Dc op (ev x)) (fun v=>Q v H) ():=by rw [bF,En]; rfl
theorem AB (k:IntKind) (x:Src):gU tab ev H id (.conv k x) Q=eG (ve k (ev x)) (fun v=>Q v H) ():=by rw [bF,AI]; rfl
theorem CQ (x:Src):gU tab ev H id (.len x) Q=eG (lenV (ev x)) (fun v=>Q v H) ():=by rw [bF,CX]; rfl
theorem CR (sz:Nat) (x i:Src):gU tab ev H id (.indexAddr sz x i) Q=eG (a7 sz (ev x) (ev i)) (fun v=>Q v H) ():=by rw [bF,CY]; rfl
theorem Em (off:Nat) (x:Src):gU tab ev H id (.fieldAddr off x) Q=eG (Al off (ev x)) (fun v=>Q v H) ():=by rw [bF,Eo]; rfl
theorem ya (k:Option Nat) (off:Nat) (x:Src):gU tab ev H id (.field k off x) Q=eG (qL k off (ev x)) (fun v=>Q v H) ():=by rw [bF,yi]; rfl
theorem CS (i:Nat) (x:Src):gU tab ev H id (.extract i x) Q=eG (xh i (ev x)) (fun v=>Q v H) ():=by rw [bF,CZ]; rfl
theorem yd (z:List AV) (ps:List ((Nat × Nat) × Src)):gU tab ev H id (.build z ps) Q=eG (gm z (ps.map fun p=>(p.1,ev p.2))) (fun v=>Q v H) ():=by rw [bF,yj]; rfl
theorem x8 (x:Src):gU tab ev H id (.nilCheck x) Q=eG (nV (ev x)) (fun v=>Q v H) ():=by rw [bF,yh]; rfl
theorem xY (sz:Nat) (x:Src) (lo hi mx:Option Src):gU tab ev H id (.slice sz x lo hi mx) Q=eG (l3 sz (ev x) (lo.map ev) (hi.map ev) (mx.map ev)) (fun v=>Q v H) ():=by rw [bF,yg]; rfl
theorem Ay (k:Option Nat) (x:Src):gU tab ev H id (.load k x) Q=eG (bC H k (ev x)) (fun v=>Q v H) ():=by rw [bF,AH]; rfl
theorem vM (size bytes ty:Nat) (z:List AV) (x y:Src):gU tab ev H id (.append size bytes ty z x y) Q=eG (aX ev H id (.append size bytes ty z x y)) (fun r=>Q r.1 r.2) ():=by rw [bF,vN]; rfl
theorem Av (ty size bytes:Nat) (z:List AV) (l c:Src):gU tab ev H id (.mksl ty size bytes z l c) Q=eG (aX ev H id (.mksl ty size bytes z l c)) (fun r=>Q r.1 r.2) ():=by rw [bF,AG]; rfl
theorem oI (ty size:Nat) (z:List AV) (n:Nat) (ps:List ((Nat × Nat) × Src)):gU tab ev H id (.buildSlice ty size z n ps) Q=eG (cD z (ps.map fun p=>(p.1,ev p.2))) (fun cs=>Q (.own id 0 n n size true) (H.put id (.cells cs ty true))) ():=by rw [bF,oJ]; rfl
theorem CT (ty:Nat) (x:Src):gU tab ev H id (.box ty x) Q=eG (kh (ev x)) (fun cs=>Q (.ptr id 0) (H.put id (.cells cs ty true))) ():=by rw [bF,C0]; rfl
theorem CP (a b:Src):gU tab ev H id (.max [a,b]) Q=eG (BE (ev a) (ev b)) (fun v=>Q v H) ():=by rw [bF,CW]; rfl
theorem CO (a b:Src):gU tab ev H id (.min [a,b]) Q=eG (BC (ev a) (ev b)) (fun v=>Q v H) ():=by rw [bF,CV]; rfl
theorem xX (n:Nat) (x v:Src):gU tab ev H id (.store n x v) Q=eG (js H n (ev x) (ev v)) (fun H1=>Q .undef H1) ():=by rw [bF,yf]; rfl
theorem AD (f:Src) (args:List Src):gU tab ev H id (.call f args) Q=zN (ev f) (args.map ev) (fun t=>AnsH tab t H Q ()) ():=by rw [bF]; rfl
end
section
variable {tab:Nat->Option aN} {rd:Bool} {T:Tm} {H:Heap} {Q:Ex->Tm->Heap->Prop}
theorem AC (c:Src) (a b:ACode):WC tab rd (.cond c a b) T H Q=vg (c.ev T) (WC tab rd a T H Q) (WC tab rd b T H Q) () ():=by rw [jR]; exact ym c a b
theorem vJ (ops:List oF):WC tab rd (.region ops) T H Q=Do H.next { H with next:=H.next+ops.length } (fun id H'=>qY tab id ops T H' (Q .nrm)) ():=by rw [jR,nu]; rfl
theorem CM (a b:ACode):WC tab rd (.seq a b) T H Q=WC tab rd a T H (v8 tab rd b Q):=by
 rw [jR,AJ]
 congr 1
 funext x T H
 cases x <;> simp [v8,jR]
theorem rf (id:Nat) (a:ACode):WC tab rd (.block id a) T H Q=WC tab rd a T H (jM id Q):=by rw [jR]; exact vP id a
theorem xZ (a:ACode):WC tab rd (.scope a) T H Q=WC tab rd a T H (Bf Q):=by rw [jR]; exact vO a
theorem At:WC tab rd .skip T H Q=Q .nrm T H:=by rw [jR]; rfl
theorem AA (id:Nat):WC tab rd (.exit id) T H Q=Q (.exit id) T H:=by rw [jR]; rfl
theorem Az (id:Nat):WC tab rd (.goto id) T H Q=Q (.goto id) T H:=by rw [jR]; rfl
theorem CN:WC tab rd .ret T H Q=Q .ret T H:=by rw [jR]; rfl
theorem yN (b:ACode):v8 tab rd b Q .nrm T H=WC tab rd b T H Q:=rfl
theorem yM (b:ACode):v8 tab rd b Q .ret T H=Q .ret T H:=rfl
theorem vZ (b:ACode) (i:Nat):v8 tab rd b Q (.exit i) T H=Q (.exit i) T H:=rfl
theorem vY (b:ACode) (i:Nat):v8 tab rd b Q (.goto i) T H=Q (.goto i) T H:=rfl
theorem zY (i:Nat):jM i Q .nrm T H=Q .nrm T H:=rfl
theorem zS (i:Nat):jM i Q .ret T H=Q .ret T H:=rfl
theorem xu (i j:Nat):jM i Q (.goto j) T H=Q (.goto j) T H:=rfl
theorem xv (i j:Nat):jM i Q (.exit j) T H=iteH (j=i) (Q .nrm T H) (Q (.exit j) T H) () ():=rfl
theorem yQ:Bf Q .nrm T H=Q .nrm T H:=rfl
theorem yP:Bf Q .ret T H=Q .ret T H:=rfl
theorem wc (i:Nat):Bf Q (.exit i) T H=Q (.exit i) T H:=rfl
theorem rS (Inv:Nat->Tm->Heap->Prop) (k:Nat):tI Inv k Q .nrm T H = ∃ k',k'<k/\Inv k' T H:=rfl
theorem zh (Inv:Nat->Tm->Heap->Prop) (k:Nat):tI Inv k Q .ret T H=Q .ret T H:=rfl
theorem wF (Inv:Nat->Tm->Heap->Prop) (k i:Nat):tI Inv k Q (.exit i) T H=Q (.exit i) T H:=rfl
theorem wE (Inv:Nat->Tm->Heap->Prop) (k i:Nat):tI Inv k Q (.goto i) T H=Q (.goto i) T H:=rfl
theorem Ax (c:ACode):WC tab rd (.loop c) T H Q=EF tab rd c () T H Q ():=rfl
theorem x6 (f:Src) (ps:List Nat) (a c:ACode):WC tab false (.rangeFunc f ps a c) T H Q=Dq tab f ps a c () () T H Q ():=rfl
end
section
variable {tab:Nat->Option aN} {T:Tm} {H:Heap} {Q:Tm->Heap->Prop} {id:Nat}
theorem pS:qY tab id [] T H Q=Q T H:=by rw [nu]; rfl
theorem nw (d:Option Nat) (o:AOp) (os:List oF):qY tab id (⟨d,o,none⟩ :: os) T H Q=gU tab (Src.ev T) H id o fun v H'=>qY tab (id+1) os (gN T d v) H' Q:=by rw [nu,bF]; rfl
theorem jO {f:Nat} {fn:aN} {args:List AV} {Q:AV->Heap->Prop} (hf:tab f=some fn) (he:fn.ext=none) (hl:args.length=fn.nparams) (hn:fn.nparams<=fn.ntmps)
  (h:∀ T0:Tm,T0.length=fn.ntmps->(∀ i,i<args.length->aa T0 i=args.getD i .undef)->WC tab false fn.body T0 H fun x T' H'=>(x=.nrm\/x=.ret)/\∃ v,co T' H' fn.results=some v/\Q v H'):Ans tab (.fn f args) H Q :=
 Cm hf he hl hn fun T0 h1 h2=>(h T0 h1 h2).run
end
section
variable {tab:Nat->Option aN}
end
def Heap.up (H:Heap) (k:Nat):Heap:={ H with next:=H.next+k }
theorem Et (H:Heap) (a b:Nat):(H.up a).up b=H.up (a+b):=by simp [Heap.up,Nat.add_assoc]
theorem Dr (H:Heap) (b k:Nat) (e:Ent):(H.put b e).up k=(H.up k).put b e:=rfl
theorem BS (H:Heap) (b k:Nat):(H.kill b).up k=(H.up k).kill b:=rfl
theorem fO (H:Heap) (k:Nat):(H.up k).next=H.next+k:=rfl
theorem next_put (H:Heap) (b:Nat) (e:Ent):(H.put b e).next=H.next:=rfl
theorem next_kill (H:Heap) (b:Nat):(H.kill b).next=H.next:=rfl
theorem qC (H:Heap) (k b:Nat):(H.up k).get b=H.get b:=rfl
theorem aq (H:Heap) (b:Nat) (e:Ent):(H.put b e).get b=some e:=by rw [rY,if_pos rfl]
theorem bo {H:Heap} {b c:Nat} {e:Ent} (h:c≠b):(H.put b e).get c=H.get c:=by rw [rY,if_neg h]
theorem fH {H:Heap} {b c:Nat} (h:c≠b):(H.kill b).get c=H.get c:=by rw [wQ,if_neg h]
structure Kp (H H':Heap):Prop where
 wf0:Wf H
 wf:Wf H'
 le:H.next<=H'.next
 same:∀ b,b<H.next->H'.get b=H.get b
theorem Kp.sub {H H':Heap} (h:Kp H H'):Sub H H':=⟨h.le,fun b e hb=>(h.same b (h.wf0 b e hb)).trans hb⟩
theorem Kp.refl {H:Heap} (h:Wf H):Kp H H:=⟨h,h,Nat.le_refl _,fun _ _=>rfl⟩
theorem Kp.up {H H':Heap} (h:Kp H H') (k:Nat):Kp H (H'.up k):=⟨h.wf0,h.wf.bump k,Nat.le_trans h.le (Nat.le_add_right _ _),h.same⟩
theorem Kp.trans {H H' H'':Heap} (h:Kp H H') (h':Kp H' H''):Kp H H'':=⟨h.wf0,h'.wf,Nat.le_trans h.le h'.le,fun b hb=>(h'.same b (Nat.lt_of_lt_of_le hb h.le)).trans (h.same b hb)⟩
theorem Kp.get {H H':Heap} (h:Kp H H') {b:Nat} {e:Ent} (hb:H.get b=some e):H'.get b=some e:=h.sub.get b e hb
theorem Kp.put {H H':Heap} (h:Kp H H') {b:Nat} {e:Ent} (h1:H.next<=b) (h2:b<H'.next):Kp H (H'.put b e):=⟨h.wf0,h.wf.put h2 e,h.le,fun c hc=>by rw [bo (by omega)]; exact h.same c hc⟩
theorem Kp.kill {H H':Heap} (h:Kp H H') {b:Nat} (h1:H.next<=b):Kp H (H'.kill b):=⟨h.wf0,h.wf.kill b,h.le,fun c hc=>by rw [fH (by omega)]; exact h.same c hc⟩
theorem Kp.old {H H':Heap} (h:Kp H H') {b:Nat} {e:Ent} (hb:H.get b=some e):b<H.next:=h.wf0 b e hb
theorem Kp.free {H H':Heap} (h:Kp H H') {b:Nat} (h1:b<H.next) (h2:H.get b=none):H'.get b=none:=(h.same b h1).trans h2
def u9 (os:List oF):List Nat:=os.filterMap (·.dst)
def dt:ACode->List Nat
 | .region os=>u9 os
 | .draw ds _=>ds.filterMap (·.dst)
 | .drawF ds _ l _=>(ds++[l]).filterMap (·.dst)
 | .seq a b=>dt a++dt b
 | .cond _ a b=>dt a++dt b
 | .block _ a=>dt a
 | .loop a=>dt a
 | .scope a=>dt a
 | _=>[]
def oL (res:List (Nat × Option (Option Nat))) (Q:AV->Heap->Prop) (x:Ex) (T:Tm) (H:Heap):Prop:=(x=.nrm\/x=.ret)/\∃ v,co T H res=some v/\Q v H
theorem yW {res:List (Nat × Option (Option Nat))} {Q:AV->Heap->Prop} {T:Tm} {H:Heap}:oL res Q .nrm T H=eG (co T H res) (fun v=>Q v H) ():=by
 unfold oL eG eX
 cases co T H res <;> simp
theorem yV {res:List (Nat × Option (Option Nat))} {Q:AV->Heap->Prop} {T:Tm} {H:Heap}:oL res Q .ret T H=eG (co T H res) (fun v=>Q v H) ():=by
 unfold oL eG eX
 cases co T H res <;> simp
def oN (H:Heap) (v:AV):Option (Option Nat)->Option AV
 | none=>some v
 | some k=>match v with
  | .ptr b o=>bC H k (.ptr b o)
  | _=>none
theorem wm (H:Heap) (v:AV):oN H v none=some v:=rfl
theorem yX (H:Heap) (b o:Nat) (k:Option Nat):oN H (.ptr b o) (some k)=bC H k (.ptr b o):=rfl
theorem jV (T:Tm) (H:Heap) (r:Nat × Option (Option Nat)):kE T H r=oN H (aa T r.1) r.2:=by
 obtain ⟨n,k⟩:=r
 cases k with
 | none=>rfl
 | some k=>simp only [kE,oN]; cases aa T n <;> rfl
def De (a b:Option AV):Option AV:=a.bind fun a=>b.bind fun b=>some (.tup [a,b])
def Dd (a b c:Option AV):Option AV:=a.bind fun a=>b.bind fun b=>c.bind fun c=>some (.tup [a,b,c])
theorem vT (a b:AV):De (some a) (some b)=some (.tup [a,b]):=rfl
theorem vS (a b c:AV):Dd (some a) (some b) (some c)=some (.tup [a,b,c]):=rfl
theorem Dn (T:Tm) (H:Heap):co T H []=some (.tup []):=rfl
theorem Dm (T:Tm) (H:Heap) (r:Nat) (k:Option (Option Nat)):co T H [(r,k)]=oN H (aa T r) k:=by
 show (List.mapM (kE T H) [(r,k)]).bind _=_
 rw [<- jV T H (r,k)]
 simp only [List.mapM_cons,List.mapM_nil]
 cases kE T H (r,k) <;> rfl
theorem Dl (T:Tm) (H:Heap) (r s:Nat) (k l:Option (Option Nat)):co T H [(r,k),(s,l)]=De (oN H (aa T r) k) (oN H (aa T s) l):=by
 show (List.mapM (kE T H) [(r,k),(s,l)]).bind _=_
 rw [<- jV T H (r,k),<- jV T H (s,l)]
 simp only [List.mapM_cons,List.mapM_nil,De]
 cases kE T H (r,k) <;> cases kE T H (s,l) <;> rfl
theorem yT (T:Tm) (H:Heap) (r s t:Nat) (k l m:Option (Option Nat)):co T H [(r,k),(s,l),(t,m)]=Dd (oN H (aa T r) k) (oN H (aa T s) l) (oN H (aa T t) m):=by
 show (List.mapM (kE T H) [(r,k),(s,l),(t,m)]).bind _=_
 rw [<- jV T H (r,k),<- jV T H (s,l),<- jV T H (t,m)]
 simp only [List.mapM_cons,List.mapM_nil,Dd]
 cases kE T H (r,k) <;> cases kE T H (s,l) <;> cases kE T H (t,m) <;> rfl
section
variable {tab:Nat->Option aN} {f n:Nat} {res:List (Nat × Option (Option Nat))} {body:ACode} {H:Heap} {Q:AV->Heap->Prop}
theorem jp {a:AV} (hf:tab f=some ⟨1,n,res,body,none⟩) (hn:1<=n) (h:∀ T:Tm,T.length=n->aa T 0=a->WC tab false body T H (oL res Q)):Ans tab (.fn f [a]) H Q :=
 jO hf rfl rfl hn fun T hl g=>h T hl (g 0 (by simp))
theorem i9 {a b:AV} (hf:tab f=some ⟨2,n,res,body,none⟩) (hn:2<=n) (h:∀ T:Tm,T.length=n->aa T 0=a->aa T 1=b->WC tab false body T H (oL res Q)):Ans tab (.fn f [a,b]) H Q :=
 jO hf rfl rfl hn fun T hl g=>h T hl (g 0 (by simp)) (g 1 (by simp))
theorem qE {a b c:AV} (hf:tab f=some ⟨3,n,res,body,none⟩) (hn:3<=n) (h:∀ T:Tm,T.length=n->aa T 0=a->aa T 1=b->aa T 2=c->WC tab false body T H (oL res Q)):Ans tab (.fn f [a,b,c]) H Q :=
 jO hf rfl rfl hn fun T hl g=>h T hl (g 0 (by simp)) (g 1 (by simp)) (g 2 (by simp))
theorem wT {a b c d:AV} (hf:tab f=some ⟨4,n,res,body,none⟩) (hn:4<=n) (h:∀ T:Tm,T.length=n->aa T 0=a->aa T 1=b->aa T 2=c->aa T 3=d->WC tab false body T H (oL res Q)):Ans tab (.fn f [a,b,c,d]) H Q :=
 jO hf rfl rfl hn fun T hl g=>h T hl (g 0 (by simp)) (g 1 (by simp)) (g 2 (by simp)) (g 3 (by simp))
end
theorem Fv (a:AV) (l:List AV):xh 0 (.tup (a :: l))=some a:=rfl
theorem Fu (a b:AV) (l:List AV):xh 1 (.tup (a :: b :: l))=some b:=rfl
theorem Ft (a b c:AV) (l:List AV):xh 2 (.tup (a :: b :: c :: l))=some c:=rfl
theorem DR (off b o:Nat):Al off (.ptr b o)=some (.ptr b (o+off)):=rfl
theorem xe (k:Option Nat) (off:Nat) (cs:List AV):qL k off (.agg cs)=aB cs off k:=rfl
theorem By (b o:Nat):nV (.ptr b o)=some (.ptr b o):=rfl
theorem Dw (f:Nat) (a c:List AV):nV (.fn (.func f) a c)=some (.fn (.func f) a c):=rfl
def tS (neg:Bool) (n:Nat):AV->AV->Option AV
 | .agg a,.agg b=>(match n with | 0=>r8 a b | n+1=>jB (n+1) a b).map fun r=>.bool (if neg then !r else r)
 | _,_=>none
theorem yb {tab:Nat->Option aN} (ev:Src->AV) (H:Heap) (id:Nat) (Q:AV->Heap->Prop) (neg:Bool) (n:Nat) (x y:Src):gU tab ev H id (.eqAgg neg n x y) Q=eG (tS neg n (ev x) (ev y)) (fun v=>Q v H) ():=by
 rw [bF,cM tab ev H id Q (o:=.eqAgg neg n x y) (v:=tS neg n (ev x) (ev y)) (fun f a e=>by cases e) (by simp only [aF]; cases ev x <;> cases ev y <;> rfl) rfl]; rfl
def Ei (len size:Nat) (k:Option Nat) (v i:AV):Option AV:=aF (fun s=>match s with | .t 0=>v | _=>i) (.indexAgg len size k (.t 0) (.t 1))
theorem re {tab:Nat->Option aN} (ev:Src->AV) (H:Heap) (id:Nat) (Q:AV->Heap->Prop) (len size:Nat) (k:Option Nat) (x i:Src):gU tab ev H id (.indexAgg len size k x i) Q=eG (Ei len size k (ev x) (ev i)) (fun v=>Q v H) ():=by
 rw [bF,cM tab ev H id Q (o:=.indexAgg len size k x i) (v:=Ei len size k (ev x) (ev i)) (fun f a e=>by cases e) (by simp only [aF,Ei]) rfl]; rfl
theorem Fr (k:IntKind) (a b:AV):Ei 2 1 none (.agg [a,b]) (.int k 0)=some a:=rfl
theorem Fq (k:IntKind) (a b:AV):Ei 2 1 none (.agg [a,b]) (.int k 1)=some b:=rfl
theorem DV (a b c d:Bool):tS false 0 (.agg [.bool a,.bool b]) (.agg [.bool c,.bool d])=some (.bool (a == c && b == d)):=rfl
theorem Db (k:IntKind) (n:Int):Dc .neg (.int k n)=some (.int k (k.wrap (0-n))):=rfl
section
variable (a b:Nat)
theorem xE (x y:Int):cw .add .int (.int .i64 x) (.int .i64 y)=some (.int .i64 (IntKind.i64.wrap (x+y))):=qS _ _ _
theorem xw (x y:Int):cw .sub .int (.int .i64 x) (.int .i64 y)=some (.int .i64 (IntKind.i64.wrap (x-y))):=vt _ _ _
theorem xA (x y:Int):cw .mul .int (.int .i64 x) (.int .i64 y)=some (.int .i64 (IntKind.i64.wrap (x*y))):=vu _ _ _
theorem xC:cw .add .int (.int .u64 (a:Int)) (.int .u64 (b:Int))=some (.int .u64 (((a+b) % 18446744073709551616:Nat):Int)):=by
 rw [qS,jq]; congr 2
theorem xz:cw .mul .int (.int .u64 (a:Int)) (.int .u64 (b:Int))=some (.int .u64 (((a*b) % 18446744073709551616:Nat):Int)):=by
 rw [vu,jq]; congr 2
theorem pI (h:b<=18446744073709551616):cw .sub .int (.int .u64 (a:Int)) (.int .u64 (b:Int))=some (.int .u64 (((a+18446744073709551616-b) % 18446744073709551616:Nat):Int)):=by
 rw [vt,jq]; congr 2; omega
theorem uj:cw .and .int (.int .u64 (a:Int)) (.int .u64 4294967295)=some (.int .u64 ((a % 4294967296:Nat):Int)):=by
 have e:(BitVec.ofInt 64 (a:Int) &&& BitVec.ofInt 64 4294967295).toNat=a % 4294967296:=by
  rw [BitVec.toNat_and]
  have h1:(BitVec.ofInt 64 (a:Int)).toNat=a % 2^64:=by simp
  have h2:(BitVec.ofInt 64 4294967295).toNat=2^32-1:=by decide
  rw [h1,h2,Nat.and_two_pow_sub_one_eq_mod]
  omega
 show some (AV.int .u64 (IntKind.u64.wrap ((BitVec.ofInt 64 (a:Int) &&& BitVec.ofInt 64 4294967295).toNat:Nat)))=_
 rw [e,gu (by omega) (by omega)]
theorem ke {k:IntKind} (hb:b<64):cw .shr .int (.int .u64 (a:Int)) (.int k (b:Int))=some (.int .u64 ((a / 2^b:Nat):Int)):=by
 show iL .shr .u64 (a:Int) (b:Int)=_
 unfold iL
 rw [if_neg (by omega)]
 have h1:Nat.min (b:Int).toNat IntKind.u64.bits=b:=by
  have:IntKind.u64.bits=64:=rfl
  rw [this,Int.toNat_natCast]; exact Nat.min_eq_left (by omega)
 simp only [h1]
 congr 2
 rw [Int.fdiv_eq_ediv_of_nonneg _ (Int.le_of_lt (Int.pow_pos (by omega)))]
 simp
theorem xy:cw .shr .int (.int .u64 (a:Int)) (.int .u64 32)=some (.int .u64 ((a / 4294967296:Nat):Int)):=ke a 32 (by omega)
end
theorem tw (T:Tm) (t:Nat) (v:AV) (r:List (Nat × AV)):ku T ((t,v) :: r)=ku (T.set t v) r:=rfl
theorem wp (T:Tm):ku T []=T:=rfl
def ik (v:AV) (w:Bool) (P Q:Prop) (_:sO P) (_:sO Q):Prop:=match v with
 | .bool b=>if b=w then P else Q
 | .tup []=>Q
 | _=>False
theorem rW (b w:Bool) (P Q:Prop):ik (.bool b) w P Q () ()=iteH (b=w) P Q () ():=rfl
theorem tL (w:Bool) (P Q:Prop):ik (.tup []) w P Q () ()=Q:=rfl
section
variable {tab:Nat->Option aN} {rd:Bool} {T:Tm} {H:Heap}
theorem vH {Q:Tm->Heap->Prop} {id:Nat} (d:Option Nat) (o:AOp) (t:Nat) (w:Bool) (os:List oF):qY tab id (⟨d,o,some (t,w)⟩ :: os) T H Q =
  ik (aa T t) w (gU tab (Src.ev T) H id o fun v H'=>qY tab (id+1) os (gN T d v) H' Q) (qY tab (id+1) os (gN T d (.tup [])) H Q) () ():=by
 rw [nu,bF]
 have hw:bG T (some (t,w))=match aa T t with | .bool b=>some (b == w) | .tup []=>some false | _=>none:=by
  unfold aa
  rw [List.getD_eq_getElem?_getD]
  cases h:T[t]? with
  | none=>simp only [bG,h]; rfl
  | some v =>
   simp only [bG,h,Option.getD_some]
   cases v with
   | tup vs=>cases vs <;> rfl
   | _=>rfl
 conv=>lhs; unfold mD
 simp only [hw,ik]
 cases aa T t with
 | bool b=>cases b <;> cases w <;> rfl
 | tup vs=>cases vs <;> rfl
 | _=>rfl
theorem sR {Q:Ex->Tm->Heap->Prop} (ops:List oF):WC tab rd (.region ops) T H Q=Do H.next (H.up ops.length) (fun id H'=>qY tab id ops T H' (Q .nrm)) ():=vJ ops
theorem tY (P Q:Prop):vg (.bool true) P Q () ()=P:=rfl
theorem sq (P Q:Prop):vg (.bool false) P Q () ()=Q:=rfl
end
def oS (id id1 i n c k:Nat) (body:ACode):ACode :=
 .block id (.loop (.seq (.region [⟨some c,.bin .lss .int (.t i) (.t n),none⟩]) (.seq (.cond (.t c) .skip (.exit id)) (.seq (.block id1 body)
  (.region [⟨some k,.bin .add .int (.t i) (.c (.int .i64 1)),none⟩,⟨some i,.mv (.t k),none⟩])))))
def dN (id:Nat) (c:ACode):ACode:=.block id (.loop c)
def eN:ACode->Bool
 | .rangeM ..=>false
 | .scopeL ..=>false
 | .seq a b=>eN a && eN b
 | .cond _ a b=>eN a && eN b
 | .block _ a=>eN a
 | .loop a=>eN a
 | .scope a=>eN a
 | _=>true
structure Same (D:List Nat) (T T':Tm):Prop where
 len:T'.length=T.length
 at_:∀ s,s ∉ D->aa T' s=aa T s
theorem Same.refl (D:List Nat) (T:Tm):Same D T T:=⟨rfl,fun _ _=>rfl⟩
theorem Same.trans {D D':List Nat} {T T' T'':Tm} (h:Same D T T') (h':Same D' T' T''):Same (D++D') T T'' :=
 ⟨h'.len.trans h.len,fun s hs=>(h'.at_ s fun h1=>hs (List.mem_append_right _ h1)).trans (h.at_ s fun h1=>hs (List.mem_append_left _ h1))⟩
theorem Same.wide {D D':List Nat} {T T':Tm} (h:Same D T T') (hd:∀ s,s∈D->s∈D'):Same D' T T':=⟨h.len,fun s hs=>h.at_ s fun h1=>hs (hd s h1)⟩
theorem er (T:Tm) (i j:Nat) (v:AV) (h:i≠j):aa (T.set i v) j=aa T j:=by
 unfold aa
 rw [List.getD_eq_getElem?_getD,List.getD_eq_getElem?_getD,List.getElem?_set]
 rw [if_neg h]
theorem wS (T:Tm) (i j:Nat) (v:AV):aa (T.set i v) j=if i=j then (if i<T.length then v else .undef) else aa T j:=by
 by_cases h:i<T.length
 ·rw [lK T i j v h]; simp [h]
 ·unfold aa
  rw [List.set_eq_of_length_le (by omega)]
  by_cases hij:i=j
  ·subst hij; rw [List.getD_eq_getElem?_getD,List.getElem?_eq_none (by omega)]; simp [h]
  ·simp [hij]
theorem Same.put (T:Tm) (d:Option Nat) (v:AV):Same d.toList T (gN T d v):=by
 cases d with
 | none=>exact Same.refl _ _
 | some d=>exact ⟨by simp [gN],fun s hs=>er T d s v fun e=>hs (by simp [e])⟩
theorem pq {cal:iH}:∀ (os:List oF) (id:Nat) (T:Tm) (H:Heap) (T':Tm) (H':Heap),io cal id os T H=some (T',H')->Same (u9 os) T T'
 | [],id,T,H,T',H',h=>by cases h; exact Same.refl _ _
 | o :: os,id,T,H,T',H',h=>by
  have key:∀ v H1,io cal (id+1) os (gN T o.dst v) H1=some (T',H')->Same (u9 (o :: os)) T T':=fun v H1 h1=>by
   refine ((Same.put T o.dst v).trans (pq os _ _ _ _ _ h1)).wide fun s hs=>?_
   unfold u9 at hs ⊢
   cases hd:o.dst with
   | none=>rw [List.filterMap_cons_none hd]; simpa [hd] using hs
   | some d=>rw [List.filterMap_cons_some hd]; simpa [hd] using hs
  unfold io at h
  split at h
  ·split at h
   ·exact key _ _ h
   ·cases h
  ·exact key _ _ h
  ·cases h
theorem mH:∀ (ds:List gb) (vs:List AV) (T:Tm),Same (ds.filterMap (·.dst)) T (eJ T ds vs)
 | [],vs,T=>by cases vs <;> exact Same.refl _ _
 | d :: ds,[],T=>⟨rfl,fun _ _=>rfl⟩
 | d :: ds,v :: vs,T=>by
  refine ((Same.put T d.dst v).trans (mH ds vs _)).wide fun s hs=>?_
  cases hd:d.dst with
  | none=>rw [List.filterMap_cons_none hd]; simpa [hd] using hs
  | some d'=>rw [List.filterMap_cons_some hd]; simpa [hd] using hs
theorem pB {D:List Nat} {body:Tm->Heap->Option (Ex × Tm × Heap)} (hb:∀ T H x T' H',body T H=some (x,T',H')->Same D T T') :
  ∀ (n:Nat) (T:Tm) (H:Heap) (x:Ex) (T':Tm) (H':Heap),og body n T H=some (x,T',H')->Same D T T'
 | 0,_,_,_,_,_,h=>by cases h
 | n+1,T,H,x,T',H',h=>by
  unfold og at h
  split at h
  ·rename_i T1 H1 h1
   exact ((hb _ _ _ _ _ h1).trans (pB hb n _ _ _ _ _ h)).wide fun s hs=>by simpa using hs
  ·exact hb _ _ _ _ _ h
theorem cY {cal:iH} {m:Nat} {rd:Bool}:∀ (c:ACode) (T:Tm) (H:Heap) (x:Ex) (T':Tm) (H':Heap),eN c=true->aw cal m rd c T H=some (x,T',H')->Same (dt c) T T'
 | .skip,T,H,x,T',H',_,h=>by cases h; exact Same.refl _ _
 | .exit _,T,H,x,T',H',_,h=>by cases h; exact Same.refl _ _
 | .goto _,T,H,x,T',H',_,h=>by cases h; exact Same.refl _ _
 | .ret,T,H,x,T',H',_,h=>by cases h; exact Same.refl _ _
 | .region os,T,H,x,T',H',_,h=>by
  simp only [aw] at h
  split at h
  ·rename_i h1; cases h; exact pq _ _ _ _ _ _ h1
  ·cases h
 | .draw ds late,T,H,x,T',H',_,h=>by
  simp only [aw] at h
  split at h
  ·rename_i h1
   cases h
   unfold sg at h1
   split at h1
   ·cases h1
   ·split at h1
    ·cases h1; exact mH _ _ _
    ·cases h1
  ·cases h
 | .drawF ..,T,H,x,T',H',_,h=>by cases h
 | .seq a b,T,H,x,T',H',hp,h=>by
  simp only [eN,Bool.and_eq_true] at hp
  simp only [aw] at h
  split at h
  ·rename_i T1 H1 h1
   exact (cY a _ _ _ _ _ hp.1 h1).trans (cY b _ _ _ _ _ hp.2 h)
  ·exact (cY a _ _ _ _ _ hp.1 h).wide fun s hs=>List.mem_append_left _ hs
 | .cond c a b,T,H,x,T',H',hp,h=>by
  simp only [eN,Bool.and_eq_true] at hp
  simp only [aw] at h
  split at h
  ·exact (cY a _ _ _ _ _ hp.1 h).wide fun s hs=>List.mem_append_left _ hs
  ·exact (cY b _ _ _ _ _ hp.2 h).wide fun s hs=>List.mem_append_right _ hs
  ·cases h
 | .block id a,T,H,x,T',H',hp,h=>by
  simp only [aw] at h
  split at h
  ·rename_i h1
   split at h
   ·cases h; exact cY a _ _ _ _ _ hp h1
   ·cases h; exact cY a _ _ _ _ _ hp h1
  ·exact cY a _ _ _ _ _ hp h
 | .loop a,T,H,x,T',H',hp,h=>by
  simp only [aw] at h
  exact pB (fun T H x T' H' h1=>cY a _ _ _ _ _ hp h1) _ _ _ _ _ _ h
 | .scope a,T,H,x,T',H',hp,h=>by
  simp only [aw] at h
  split at h
  ·cases h
  ·exact cY a _ _ _ _ _ hp h
 | .rangeFunc f ps asg body,T,H,x,T',H',_,h=>by
  have:T'=T:=by
   simp only [aw] at h
   split at h
   ·cases h
   ·split at h
    ·split at h
     ·split at h
      ·cases h; rfl
      ·split at h <;> first | (cases h; rfl) | cases h
      ·cases h
     ·cases h
    ·cases h
  subst this; exact Same.refl _ _
 | .rangeM ..,T,H,x,T',H',hp,h=>by cases hp
 | .scopeL ..,T,H,x,T',H',hp,h=>by cases hp
def WB (tab:Nat->Option aN) (rd:Bool) (c:ACode) (T:Tm) (H:Heap) (Q:Ex->Tm->Heap->Prop):Prop:=∃ x T' H',Eg tab rd c T H x T' H'/\Q x T' H'
section
variable {tab:Nat->Option aN} {rd:Bool}
theorem WC.wb {c:ACode} {T:Tm} {H:Heap} {Q:Ex->Tm->Heap->Prop} (h:WC tab rd c T H Q):WB tab rd c T H Q:=fC c T H Q h.run
theorem WB.same {c:ACode} {T:Tm} {H:Heap} {Q:Ex->Tm->Heap->Prop} (h:WB tab rd c T H Q) (hp:eN c=true):WB tab rd c T H fun x T' H'=>Same (dt c) T T'/\Q x T' H':=by
 obtain ⟨x,T',H',⟨N,g⟩,hq⟩:=h
 exact ⟨x,T',H',⟨N,g⟩,cY c _ _ _ _ _ hp (g N N (Nat.le_refl _) (Nat.le_refl _)),hq⟩
theorem WB.mono {c:ACode} {T:Tm} {H:Heap} {Q Q':Ex->Tm->Heap->Prop} (h:WB tab rd c T H Q) (hq:∀ x T' H',Q x T' H'->Q' x T' H'):WB tab rd c T H Q':=by
 obtain ⟨x,T',H',hb,h⟩:=h
 exact ⟨x,T',H',hb,hq _ _ _ h⟩
theorem lY {a b:ACode} {T:Tm} {H:Heap} {Q:Ex->Tm->Heap->Prop} (h:WB tab rd a T H fun x T' H'=>match x with | .nrm=>WB tab rd b T' H' Q | x=>Q x T' H'):WB tab rd (.seq a b) T H Q:=by
 obtain ⟨x,T1,H1,⟨N1,g1⟩,h1⟩:=h
 by_cases hx:x=.nrm
 ·subst hx
  obtain ⟨y,T2,H2,⟨N2,g2⟩,h2⟩:=h1
  refine ⟨y,T2,H2,⟨N1+N2,fun m n hm hn=>?_⟩,h2⟩
  simp only [aw,g1 m n (by omega) (by omega)]
  exact g2 m n (by omega) (by omega)
 ·refine ⟨x,T1,H1,⟨N1,fun m n hm hn=>?_⟩,?_⟩
  ·simp only [aw,g1 m n hm hn]
   all_goals (cases x <;> first | rfl | exact absurd rfl hx)
  ·cases x <;> first | exact h1 | exact absurd rfl hx
theorem AR {c:Src} {a b:ACode} {T:Tm} {H:Heap} {Q:Ex->Tm->Heap->Prop} {v:Bool} (hc:c.ev T=.bool v) (h:if v=true then WB tab rd a T H Q else WB tab rd b T H Q):WB tab rd (.cond c a b) T H Q:=by
 cases v with
 | true =>
  obtain ⟨x,T1,H1,⟨N1,g1⟩,h1⟩:=h
  exact ⟨x,T1,H1,⟨N1,fun m n hm hn=>by simp only [aw,hc]; exact g1 m n hm hn⟩,h1⟩
 | false =>
  obtain ⟨x,T1,H1,⟨N1,g1⟩,h1⟩:=h
  exact ⟨x,T1,H1,⟨N1,fun m n hm hn=>by simp only [aw,hc]; exact g1 m n hm hn⟩,h1⟩
theorem yv {id:Nat} {a:ACode} {T:Tm} {H:Heap} {Q:Ex->Tm->Heap->Prop} (h:WB tab rd a T H (jM id Q)):WB tab rd (.block id a) T H Q:=by
 obtain ⟨x,T1,H1,⟨N1,g1⟩,h1⟩:=h
 cases x with
 | exit id' =>
  simp only [jM] at h1
  by_cases hi:id'=id
  ·rw [if_pos hi] at h1
   exact ⟨.nrm,T1,H1,⟨N1,fun m n hm hn=>by simp only [aw,g1 m n hm hn,if_pos hi]⟩,h1⟩
  ·rw [if_neg hi] at h1
   exact ⟨.exit id',T1,H1,⟨N1,fun m n hm hn=>by simp only [aw,g1 m n hm hn,if_neg hi]⟩,h1⟩
 | nrm=>exact ⟨_,T1,H1,⟨N1,fun m n hm hn=>by simp only [aw,g1 m n hm hn]⟩,h1⟩
 | goto l=>exact ⟨_,T1,H1,⟨N1,fun m n hm hn=>by simp only [aw,g1 m n hm hn]⟩,h1⟩
 | ret=>exact ⟨_,T1,H1,⟨N1,fun m n hm hn=>by simp only [aw,g1 m n hm hn]⟩,h1⟩
theorem AP {T:Tm} {H:Heap} {Q:Ex->Tm->Heap->Prop} (h:Q .nrm T H):WB tab rd .skip T H Q:=⟨.nrm,T,H,⟨0,fun _ _ _ _=>rfl⟩,h⟩
theorem AQ {i:Nat} {T:Tm} {H:Heap} {Q:Ex->Tm->Heap->Prop} (h:Q (.exit i) T H):WB tab rd (.exit i) T H Q:=⟨.exit i,T,H,⟨0,fun _ _ _ _=>rfl⟩,h⟩
theorem nd {body:ACode} {Q:Ex->Tm->Heap->Prop} (Inv:Nat->Tm->Heap->Prop)
  (hr:∀ k T H,Inv k T H->WB tab rd body T H (tI Inv k Q)):∀ (k:Nat) (T:Tm) (H:Heap),Inv k T H->WB tab rd (.loop body) T H Q:=by
 have key:∀ (k:Nat) (T:Tm) (H:Heap),Inv k T H->∃ x T' H',Q x T' H'/\∃ N,∀ m n j,N<=m->N<=n->N<=j->og (aw (gy tab dP m n) m rd body) j T H=some (x,T',H'):=by
  intro k
  induction k using Nat.strongRecOn with
  | _ k ih =>
   intro T H hI
   obtain ⟨x,T1,H1,⟨N1,g1⟩,h1⟩:=hr k T H hI
   by_cases hx:x=.nrm
   ·subst hx
    obtain ⟨k',hk,hI'⟩:=h1
    obtain ⟨y,T2,H2,hq,N2,g2⟩:=ih k' hk T1 H1 hI'
    refine ⟨y,T2,H2,hq,N1+N2+1,fun m n j hm hn hj=>?_⟩
    obtain ⟨j',rfl⟩:∃ j',j=j'+1:=⟨j-1,by omega⟩
    unfold og
    rw [g1 m n (by omega) (by omega)]
    exact g2 m n j' (by omega) (by omega) (by omega)
   ·refine ⟨x,T1,H1,by cases x <;> first | exact h1 | exact absurd rfl hx,N1+1,fun m n j hm hn hj=>?_⟩
    obtain ⟨j',rfl⟩:∃ j',j=j'+1:=⟨j-1,by omega⟩
    unfold og
    rw [g1 m n (by omega) (by omega)]
    cases x <;> first | rfl | exact absurd rfl hx
 intro k T H hI
 obtain ⟨x,T',H',hq,N,g⟩:=key k T H hI
 exact ⟨x,T',H',⟨N,fun m n hm hn=>g m n m hm hn hm⟩,hq⟩
theorem WB.wcLoop {id:Nat} {body:ACode} {T:Tm} {H:Heap} {Q:Ex->Tm->Heap->Prop} (h:WB tab rd (.loop body) T H (jM id Q)):WC tab rd (.block id (.loop body)) T H Q:=by
 rw [rf]
 exact ⟨h⟩
def xa (id id1:Nat) (P:Tm->Heap->Prop) (Q:Ex->Tm->Heap->Prop) (x:Ex) (T:Tm) (H:Heap):Prop:=match x with
 | .nrm=>P T H
 | .exit e=>if e=id1 then P T H else if e=id then Q .nrm T H else Q (.exit e) T H
 | x=>Q x T H
section
variable {id id1:Nat} {P:Tm->Heap->Prop} {Q:Ex->Tm->Heap->Prop} {T:Tm} {H:Heap}
theorem zz:xa id id1 P Q .nrm T H=P T H:=rfl
theorem zy:xa id id1 P Q .ret T H=Q .ret T H:=rfl
theorem wU (l:Nat):xa id id1 P Q (.goto l) T H=Q (.goto l) T H:=rfl
theorem wV (e:Nat):xa id id1 P Q (.exit e) T H=iteH (e=id1) (P T H) (iteH (e=id) (Q .nrm T H) (Q (.exit e) T H) () ()) () ():=rfl
end
def CA (L i n c k:Nat) (D live:List Nat):Bool :=
 decide (i<L) && decide (n<L) && decide (c<L) && decide (k<L) && i != n && i != c && i != k && n != c && n != k && c != k && !D.contains i && !D.contains n && live.all fun s=>s != i && s != c && s != k
theorem fI {id id1 i n c k:Nat} {body:ACode} {T:Tm} {H:Heap} {Q:Ex->Tm->Heap->Prop} {L a N:Nat} (H0:Heap) (live:List Nat) (P:Nat->List AV->Heap->Prop)
  (hl:T.length=L) (ha:aa T i=.int .i64 (a:Int)) (hn:aa T n=.int .i64 (N:Int)) (haN:a<=N) (hN:N<9223372036854775807) (hok:CA L i n c k (dt body) live=true) (hp:eN body=true)
  (hup:∀ j vs H m,P j vs H->P j vs (H.up m))
  (hk0:Kp H0 H) (h0:P a (live.map (aa T)) H)
  (hb:∀ j T1 H1,a<=j->j<N->T1.length=L->aa T1 i=.int .i64 (j:Int)->Same (i :: c :: k :: dt body) T T1->Kp H0 H1->P j (live.map (aa T1)) H1 ->
   WC tab rd body T1 H1 (xa id id1 (fun T2 H2=>Kp H0 H2/\P (j+1) (live.map (aa T2)) H2) Q))
  (he:∀ T1 H1,T1.length=L->Same (i :: c :: k :: dt body) T T1->Kp H0 H1->P N (live.map (aa T1)) H1->Q .nrm T1 H1) :
  WC tab rd (oS id id1 i n c k body) T H Q:=by
 have hok':=hok
 simp only [CA,Bool.and_eq_true,decide_eq_true_eq,bne_iff_ne,ne_eq,Bool.not_eq_true',List.all_eq_true] at hok
 obtain ⟨⟨⟨⟨⟨⟨⟨⟨⟨⟨⟨⟨o1,o2⟩,o3⟩,o4⟩,o5⟩,o6⟩,o7⟩,o8⟩,o9⟩,o10⟩,o11⟩,o12⟩,o13⟩:=hok
 have hDi:i ∉ dt body:=fun h=>by rw [List.contains_iff_mem.2 h] at o11; cases o11
 have hDn:n ∉ dt body:=fun h=>by rw [List.contains_iff_mem.2 h] at o12; cases o12
 have hnS:n ∉ i :: c :: k :: dt body:=by
  simp only [List.mem_cons,not_or]; exact ⟨fun h=>o5 h.symm,o8,o9,hDn⟩
 have hlive:∀ {T1 T2:Tm},(∀ s,s≠i->s≠c->s≠k->aa T2 s=aa T1 s)->live.map (aa T2)=live.map (aa T1):=fun h=>by
  refine List.map_congr_left fun s hs=>?_
  obtain ⟨⟨q1,q2⟩,q3⟩:=o13 s hs
  exact h s q1 q2 q3
 unfold oS
 refine WB.wcLoop ?_
 refine nd (fun r T1 H1=>∃ j,r=N-j/\a<=j/\j<=N/\T1.length=L/\aa T1 i=.int .i64 (j:Int)/\Same (i :: c :: k :: dt body) T T1/\Kp H0 H1/\P j (live.map (aa T1)) H1) ?_ (N-a) T H ⟨a,rfl,Nat.le_refl _,haN,hl,ha,Same.refl _ _,hk0,h0⟩
 rintro r T1 H1 ⟨j,rfl,haj,hjN,hl1,hi1,hs1,hk1,hP1⟩
 have hn1:aa T1 n=.int .i64 (N:Int):=(hs1.at_ n hnS).trans hn
 refine lY (WC.wb ?_)
 rw [sR]
 simp only [ql,nw,pS,sS,DU,hi1,hn1,vw,mc,l5]
 have hk2:Kp H0 (H1.up 1):=hk1.up 1
 have hP2:P j (live.map (aa (T1.set c (.bool (decide ((j:Int)<(N:Int))))))) (H1.up 1):=by
  rw [hlive (T1:=T1) fun s q1 q2 q3=>er _ _ _ _ (Ne.symm q2)]
  exact hup _ _ _ _ hP1
 have hs2:Same (i :: c :: k :: dt body) T (T1.set c (.bool (decide ((j:Int)<(N:Int))))) :=
  (hs1.trans (Same.put T1 (some c) (.bool (decide ((j:Int)<(N:Int)))))).wide fun s hs=>by
   rcases List.mem_append.1 hs with hs | hs
   ·exact hs
   ·simp only [Option.toList_some,List.mem_singleton] at hs; subst hs; simp
 have hl2:(T1.set c (.bool (decide ((j:Int)<(N:Int))))).length=L:=by simp [hl1]
 have hi2:aa (T1.set c (.bool (decide ((j:Int)<(N:Int))))) i=.int .i64 (j:Int):=by rw [er _ _ _ _ (Ne.symm o6)]; exact hi1
 have hc2:aa (T1.set c (.bool (decide ((j:Int)<(N:Int))))) c=.bool (decide ((j:Int)<(N:Int))):=by
  rw [lK _ _ _ _ (by omega),if_pos rfl]
 generalize hT2:T1.set c (.bool (decide ((j:Int)<(N:Int))))=T2 at hP2 hs2 hl2 hi2 hc2 ⊢
 refine lY (AR (v:=decide ((j:Int)<(N:Int))) hc2 ?_)
 by_cases hj:j<N
 ·have e1:decide ((j:Int)<(N:Int))=true:=by simp; omega
  rw [if_pos e1]
  refine AP ?_
  refine lY (yv ?_)
  refine (((hb j T2 (H1.up 1) haj hj hl2 hi2 hs2 hk2 hP2).wb).same hp).mono ?_
  rintro x T3 H3 ⟨hs3,hq⟩
  have fin:Kp H0 H3/\P (j+1) (live.map (aa T3)) H3->WB tab rd (.region [⟨some k,.bin .add .int (.t i) (.c (.int .i64 1)),none⟩,⟨some i,.mv (.t k),none⟩]) T3 H3 (tI (fun r T1 H1=>∃ j,r=N-j/\a<=j/\j<=N/\T1.length=L/\aa T1 i=.int .i64 (j:Int)/\Same (i :: c :: k :: dt body) T T1/\Kp H0 H1/\P j (live.map (aa T1)) H1) (N-j) (jM id Q)):=by
   rintro ⟨hk3,hP3⟩
   have hi3:aa T3 i=.int .i64 (j:Int):=(hs3.at_ i hDi).trans hi2
   have hl3:T3.length=L:=hs3.len.trans hl2
   have hwr:IntKind.i64.wrap ((j:Int)+1)=((j+1:Nat):Int):=by rw [ae (by omega) (by omega)]; simp
   refine WC.wb ?_
   rw [sR]
   simp only [ql,nw,pS,sS,Cq,uA,DU,ET,hi3,qS,mc,l5,hwr]
   rw [lK _ _ _ _ (by omega),if_pos rfl,rS]
   refine ⟨N-(j+1),by omega,j+1,rfl,by omega,by omega,by simp [hl3],?_,?_,hk3.up _,?_⟩
   ·rw [lK _ _ _ _ (by simp; omega),if_pos rfl]
   ·refine ((hs2.trans hs3).trans ((Same.put T3 (some k) _).trans (Same.put _ (some i) _))).wide fun s hs=>?_
    rcases List.mem_append.1 hs with hs | hs
    ·rcases List.mem_append.1 hs with hs | hs
     ·exact hs
     ·exact List.mem_cons_of_mem _ (List.mem_cons_of_mem _ (List.mem_cons_of_mem _ hs))
    ·rcases List.mem_append.1 hs with hs | hs
     ·simp only [Option.toList_some,List.mem_singleton] at hs; subst hs; simp
     ·simp only [Option.toList_some,List.mem_singleton] at hs; subst hs; simp
   ·rw [hlive (T1:=T3) fun s q1 q2 q3=>by rw [er _ _ _ _ (Ne.symm q1),er _ _ _ _ (Ne.symm q3)]]
    exact hup _ _ _ _ hP3
  cases x with
  | nrm=>exact fin hq
  | exit e =>
   simp only [xa] at hq
   simp only [jM]
   by_cases h1:e=id1
   ·rw [if_pos h1] at hq ⊢; exact fin hq
   ·rw [if_neg h1] at hq ⊢
    simp only [tI,jM]; exact hq
  | goto l=>exact hq
  | ret=>exact hq
 ·have e1:decide ((j:Int)<(N:Int))=false:=by simp; omega
  have:j=N:=by omega
  subst this
  rw [if_neg (by rw [e1]; simp)]
  refine AQ ?_
  show jM id Q (.exit id) T2 (H1.up 1)
  simp only [jM,if_pos]
  exact he T2 (H1.up 1) hl2 hs2 hk2 hP2
def Cr (id:Nat) (P:Tm->Heap->Prop) (Q:Ex->Tm->Heap->Prop) (x:Ex) (T:Tm) (H:Heap):Prop:=match x with
 | .nrm=>P T H
 | .exit e=>if e=id then Q .nrm T H else Q (.exit e) T H
 | x=>Q x T H
section
variable {id:Nat} {P:Tm->Heap->Prop} {Q:Ex->Tm->Heap->Prop} {T:Tm} {H:Heap}
theorem AL:Cr id P Q .nrm T H=P T H:=rfl
theorem AK:Cr id P Q .ret T H=Q .ret T H:=rfl
theorem yn (l:Nat):Cr id P Q (.goto l) T H=Q (.goto l) T H:=rfl
theorem yo (e:Nat):Cr id P Q (.exit e) T H=iteH (e=id) (Q .nrm T H) (Q (.exit e) T H) () ():=rfl
end
theorem aQ {id:Nat} {c:ACode} {T:Tm} {H:Heap} {Q:Ex->Tm->Heap->Prop} {L:Nat} (H0:Heap) (live:List Nat) (P:Nat->List AV->Heap->Prop) (k0:Nat)
  (hl:T.length=L) (hp:eN c=true) (hk0:Kp H0 H) (h0:P k0 (live.map (aa T)) H)
  (hb:∀ k T1 H1,T1.length=L->Same (dt c) T T1->Kp H0 H1->P k (live.map (aa T1)) H1->WC tab rd c T1 H1 (Cr id (fun T2 H2=>Kp H0 H2/\∃ k',k'<k/\P k' (live.map (aa T2)) H2) Q)):WC tab rd (dN id c) T H Q:=by
 unfold dN
 refine WB.wcLoop ?_
 refine nd (fun k T1 H1=>T1.length=L/\Same (dt c) T T1/\Kp H0 H1/\P k (live.map (aa T1)) H1) ?_ k0 T H ⟨hl,Same.refl _ _,hk0,h0⟩
 rintro k T1 H1 ⟨hl1,hs1,hk1,hP1⟩
 refine ((hb k T1 H1 hl1 hs1 hk1 hP1).wb.same hp).mono ?_
 rintro x T2 H2 ⟨hs2,hq⟩
 cases x with
 | nrm =>
  obtain ⟨hk2,k',hk',hP2⟩:=hq
  exact ⟨k',hk',hs2.len.trans hl1,(hs1.trans hs2).wide fun s hs=>by simpa using hs,hk2,hP2⟩
 | exit e=>exact hq
 | goto l=>exact hq
 | ret=>exact hq
end
def Fd (e:Option Ent) (k:Option Nat) (o:Nat):Option AV:=match e with
 | some (.cells cs _ _)=>aB cs o k
 | _=>none
theorem DC (H:Heap) (k:Option Nat) (b o:Nat):bC H k (.ptr b o)=Fd (H.get b) k o:=by
 simp only [bC,Fd]
 cases H.get b with
 | none=>rfl
 | some e=>cases e <;> rfl
theorem py (cs:List AV) (ty:Nat) (rw:Bool) (k:Option Nat) (o:Nat):Fd (some (.cells cs ty rw)) k o=aB cs o k:=rfl
def sM (e:Option Ent) (n o:Nat) (v:AV):Option Ent:=match e with
 | some (.cells cs ty true)=>if v.cells.length=n/\o+n<=cs.length/\v.cells.all AV.one=true then some (.cells (cs.take o++v.cells++cs.drop (o+n)) ty true) else none
 | _=>none
theorem Dj (H:Heap) (n b o:Nat) (v:AV):js H n (.ptr b o) v=(sM (H.get b) n o v).map fun e=>H.put b e:=by
 simp only [js,sM]
 split
 ·rename_i cs ty h
  simp only [h]
  split <;> rfl
 ·rename_i h
  split
  ·rename_i cs ty hg
   exact absurd hg (h cs ty)
  ·rfl
theorem wB {α β:Type} (f:α->β) (a:α):(some a).map f=some (f a):=rfl
theorem FK (a:AV) (l:List AV):aB (a :: l) 0 none=some a:=rfl
theorem FJ (a b:AV) (l:List AV):aB (a :: b :: l) 1 none=some b:=rfl
theorem FI (a b c:AV) (l:List AV):aB (a :: b :: c :: l) 2 none=some c:=rfl
theorem Fl (a b:AV):aB [a,b] 0 (some 2)=some (.agg [a,b]):=rfl
theorem Fk (a b c:AV):aB [a,b,c] 0 (some 3)=some (.agg [a,b,c]):=rfl
def kj (v:AV):Prop:=v.cells=[v]/\v.one=true
theorem ay (b:Bool):kj (.bool b):=⟨rfl,rfl⟩
theorem aA (k:IntKind) (n:Int):kj (.int k n):=⟨rfl,rfl⟩
theorem bh (f:Fn) (a b:List AV):kj (.fn f a b):=⟨rfl,rfl⟩
theorem aO (b o:Nat):kj (.ptr b o):=⟨rfl,rfl⟩
theorem aM:kj .nilSl:=⟨rfl,rfl⟩
theorem aP (b o n c z:Nat) (x:Bool):kj (.own b o n c z x):=⟨rfl,rfl⟩
theorem bd (cs:List AV) (n:Nat):kj (.sl cs n):=⟨rfl,rfl⟩
theorem aR (b:Nat):kj (.map b):=⟨rfl,rfl⟩
theorem Rd.one {H:Heap} {sz:Nat} {v:AV} {cells:List AV} (h:Rd H sz v cells):kj v:=by
 obtain ⟨-,h1,n,hn,-⟩:=h
 cases v <;> first | exact ⟨rfl,rfl⟩ | exact absurd rfl (h1 _) | (simp [gG] at hn; done)
theorem zR {v:AV} (h:kj v):kh v=some [v]:=by
 unfold kh; rw [h.1]; simp [h.2]
theorem E3 {a b:AV} (ha:kj a) (hb:kj b):kh (.agg [a,b])=some [a,b]:=by
 simp [kh,AV.cells,ha.2,hb.2]
theorem DZ {x y a b:AV} (ha:kj a) (hb:kj b):gm [x,y] [((0,1),a),((1,1),b)]=some (.agg [a,b]):=by
 simp [gm,cD,ha.1,ha.2,hb.1,hb.2]
theorem EP {x a:AV} (ha:kj a):cD [x] [((0,1),a)]=some [a]:=by simp [cD,ha.1,ha.2]
theorem EO {x y a b:AV} (ha:kj a) (hb:kj b):cD [x,y] [((0,1),a),((1,1),b)]=some [a,b]:=by simp [cD,ha.1,ha.2,hb.1,hb.2]
theorem Ez {cs:List AV} {ty o:Nat} {v:AV} (h:kj v):sM (some (.cells cs ty true)) 1 o v=if o<cs.length then some (.cells (cs.set o v) ty true) else none:=by
 simp only [sM,h.1]
 by_cases ho:o<cs.length
 ·rw [if_pos ⟨rfl,by omega,by simp [h.2]⟩,if_pos ho]
  congr 2
  rw [List.set_eq_take_append_cons_drop,if_pos ho]
  simp
 ·rw [if_neg (fun h=>ho (by have:=h.2.1; omega)),if_neg ho]
theorem FL {x y a b:AV} {ty:Nat} (ha:kj a) (hb:kj b):sM (some (.cells [x,y] ty true)) 2 0 (.agg [a,b])=some (.cells [a,b] ty true):=by
 simp [sM,AV.cells,ha.2,hb.2]
theorem EN {x y z a b c:AV} (ha:kj a) (hb:kj b) (hc:kj c):cD [x,y,z] [((0,1),a),((1,1),b),((2,1),c)]=some [a,b,c]:=by simp [cD,ha.1,ha.2,hb.1,hb.2,hc.1,hc.2]
theorem DP {p q r t a b c d:AV} (ha:kj a) (hb:kj b) (hc:kj c) (hd:kj d):cD [p,q,r,t] [((0,2),.agg [a,b]),((2,2),.agg [c,d])]=some [a,b,c,d]:=by
 simp [cD,AV.cells,ha.2,hb.2,hc.2,hd.2]
theorem DQ {p q a b:AV} (ha:kj a) (hb:kj b):cD [p,q] [((0,2),.agg [a,b])]=some [a,b]:=by
 simp [cD,AV.cells,ha.2,hb.2]
theorem D4 (z:List AV):gm z []=some (.agg z):=rfl
theorem DG {H H':Heap} {b:Nat} {e:Ent} (h1:H.next<=b) (h2:b<H'.next):Kp H (H'.put b e) ↔ Kp H H':=by
 refine ⟨fun h=>⟨h.wf0,fun c e' hc=>?_,h.le,fun c hc=>?_⟩,fun h=>h.put h1 h2⟩
 ·by_cases hb:c=b
  ·rw [hb]; exact h2
  ·exact h.wf c e' (by rw [bo hb]; exact hc)
 ·have:=h.same c hc
  rwa [bo (by omega)] at this
theorem pZ {H:Heap} {b:Nat} {e:Ent} (h:H.get b=none):Sub H (H.put b e):=(Sub.refl H).put h e
theorem BR {H H':Heap} {b:Nat} (h1:H.next<=b) (h:Kp H H'):Kp H (H'.kill b) ↔ True:=⟨fun _=>trivial,fun _=>h.kill h1⟩
theorem EH {H H':Heap} {k:Nat} (h:Kp H H'):Kp H (H'.up k) ↔ True:=⟨fun _=>trivial,fun _=>h.up k⟩
theorem DF {H:Heap} {k:Nat} (h:Wf H):Kp H (H.up k) ↔ True:=⟨fun _=>trivial,fun _=>(Kp.refl h).up k⟩
theorem BQ {H:Heap} (h:Wf H):Kp H H ↔ True:=⟨fun _=>trivial,fun _=>Kp.refl h⟩
theorem C4 {H:Heap} {b:Nat} {e:Ent} (h2:b<H.next):Wf (H.put b e) ↔ Wf H:=by
 refine ⟨fun h c e' hc=>?_,fun h=>h.put h2 e⟩
 by_cases hb:c=b
 ·rw [hb]; exact h2
 ·exact h c e' (by rw [bo hb]; exact hc)
theorem Ep {H:Heap} {k:Nat} (h:Wf H):Wf (H.up k) ↔ True:=⟨fun _=>trivial,fun _=>h.bump k⟩
theorem AM {H:Heap} {b:Nat} (h:Wf H):Wf (H.kill b) ↔ True:=⟨fun _=>trivial,fun _=>h.kill b⟩
structure Ldd (H:Heap) (k:Option Nat) (p w:AV):Prop where
 ld:bC H k p=some w
 put:∀ H' b e,H.next<=b->bC (H'.put b e) k p=bC H' k p
 kill:∀ H' b,H.next<=b->bC (H'.kill b) k p=bC H' k p
theorem zi (H:Heap) (m:Nat) (k:Option Nat) (p:AV):bC (H.up m) k p=bC H k p:=rfl
theorem wI {H H':Heap} (h:Sub H H') {k:Option Nat} {p w:AV} (hl:bC H k p=some w):bC H' k p=some w:=by
 unfold bC at hl ⊢
 split at hl
 ·split at hl
  ·rename_i hb
   rw [h.get _ _ hb]; exact hl
  ·cases hl
 ·exact hl
 ·cases hl
theorem Ldd.of {H:Heap} (hw:Wf H) {k:Option Nat} {p w:AV} (h:bC H k p=some w):Ldd H k p w:=by
 refine ⟨h,fun H' b e hb=>?_,fun H' b hb=>?_⟩
 all_goals
  cases p with
  | ptr c o =>
   have:c<H.next:=by
    simp only [bC] at h
    split at h
    ·rename_i hc; exact hw c _ hc
    ·cases h
   simp only [bC]
   first | rw [bo (by omega)] | rw [fH (by omega)]
  | _=>rfl
theorem Ldd.mono {H H':Heap} (h:Kp H H') {k:Option Nat} {p w:AV} (hl:Ldd H k p w):Ldd H' k p w:=Ldd.of h.wf (wI h.sub hl.ld)
def SubT (tys:List Nat) (H H':Heap):Prop:=∀ b cs t r,t∈tys->H.get b=some (.cells cs t r)->H'.get b=some (.cells cs t r)
theorem Sub.t {H H':Heap} (h:Sub H H') (tys:List Nat):SubT tys H H':=fun b cs t r _ hb=>h.get b _ hb
theorem SubT.of {tys tys':List Nat} {H H':Heap} (h:SubT tys H H') (hs:∀ t,t∈tys'->t∈tys):SubT tys' H H':=fun b cs t r ht hb=>h b cs t r (hs t ht) hb
def FR (H:Heap) (ty:Nat) (v:AV):Prop:=∀ b off n c z x,v=.own b off n c z x->∃ cs r,H.get b=some (.cells cs ty r)
structure gC (α:Type) where
 sz:Nat
 tys:List Nat
 R:Heap->List AV->α->Prop
 pos:0<sz
 len:∀ {H cs a},R H cs a->cs.length=sz/\cs.all AV.one=true
 mono:∀ {H H' cs a},SubT tys H H'->R H cs a->R H' cs a
variable {α:Type}
def Cells (E:gC α) (H:Heap) (cells:List AV) (l:List α):Prop:=cells.length=l.length*E.sz/\∀ i a,l[i]? = some a->E.R H ((cells.drop (i*E.sz)).take E.sz) a
def SlV (E:gC α) (ty:Nat) (H:Heap) (v:AV) (l:List α):Prop:=∃ cells,Rd H E.sz v cells/\FR H ty v/\Cells E H cells l
theorem Cells.mono {E:gC α} {H H':Heap} (h:SubT E.tys H H') {cells:List AV} {l:List α} (hc:Cells E H cells l):Cells E H' cells l:=⟨hc.1,fun i a hi=>E.mono h (hc.2 i a hi)⟩
theorem SlV.monoT {E:gC α} {ty:Nat} {H H':Heap} (h:SubT (ty :: E.tys) H H') {v:AV} {l:List α} (hs:SlV E ty H v l):SlV E ty H' v l:=by
 obtain ⟨cells,⟨h0,h1,n,h2,h3⟩,ht,hc⟩:=hs
 refine ⟨cells,⟨h0,h1,n,h2,?_⟩,fun b off n c z x e=>?_,hc.mono (h.of fun t ht=>List.mem_cons_of_mem _ ht)⟩
 ·unfold bE at h3 ⊢
  split at h3
  ·rename_i b off n' c sz ex
   obtain ⟨cs,r,hb⟩:=ht b off _ c sz ex rfl
   rw [hb] at h3
   rw [h b cs ty r (List.mem_cons_self ..) hb]; exact h3
  ·exact h3
  ·exact h3
  ·exact h3
  ·cases h3
 ·obtain ⟨cs,r,hb⟩:=ht b off n c z x e
  exact ⟨cs,r,h b cs ty r (List.mem_cons_self ..) hb⟩
theorem SlV.mono {E:gC α} {ty:Nat} {H H':Heap} (h:Sub H H') {v:AV} {l:List α} (hs:SlV E ty H v l):SlV E ty H' v l:=hs.monoT (h.t _)
theorem SlV.one {E:gC α} {ty:Nat} {H:Heap} {v:AV} {l:List α} (hs:SlV E ty H v l):kj v:=by
 obtain ⟨cells,h1,h2⟩:=hs; exact h1.one
theorem SlV.nil (E:gC α) (ty:Nat) (H:Heap):SlV E ty H .nilSl []:=⟨[],Rd.nil H E.sz,(fun _ _ _ _ _ _ e=>by cases e),by simp,fun i a h=>by simp at h⟩
theorem SlV.lenV {E:gC α} {ty:Nat} {H:Heap} {v:AV} {l:List α} (hs:SlV E ty H v l):lenV v=some (.int .i64 (l.length:Int)):=by
 obtain ⟨cells,h1,-,h2⟩:=hs
 exact BO h1 h2.1 E.pos
theorem SlV.idx {E:gC α} {ty:Nat} {H:Heap} {v:AV} {l:List α} (hs:SlV E ty H v l) (k:IntKind) (i:Nat) (hi:i<l.length):a7 E.sz v (.int k (i:Int))=some (br v (i*E.sz)):=by
 obtain ⟨cells,h1,-,h2⟩:=hs
 have:=E.pos
 refine BT h1 ?_ E.pos
 rw [h2.1,<- Nat.succ_mul]
 exact Nat.mul_le_mul_right _ hi
theorem xg {H:Heap} {sz:Nat} {v:AV} {cells:List AV} (h:Rd H sz v cells) (hne:cells≠[]) (off o:Nat):Al off (br v o)=some (br v (o+off)):=by
 obtain ⟨-,h1,n,hn,hf⟩:=h
 cases v with
 | own b f m c s e=>simp [br,Al,Nat.add_assoc]
 | sl cs m=>simp [br,Al]
 | nilSl =>
  simp only [bE] at hf
  split at hf
  ·cases hf; exact absurd rfl hne
  ·cases hf
 | str s=>exact absurd rfl (h1 _)
 | _=>simp [gG] at hn
theorem SlV.fa {E:gC α} {ty:Nat} {H:Heap} {v:AV} {l:List α} (hs:SlV E ty H v l) (hne:0<l.length) (off o:Nat):Al off (br v o)=some (br v (o+off)):=by
 obtain ⟨cells,h1,-,h2⟩:=hs
 refine xg h1 (fun h=>?_) off o
 have:=h2.1
 rw [h] at this
 have:=Nat.mul_pos hne E.pos
 simp at *
 omega
theorem SlV.at {E:gC α} {ty:Nat} {H:Heap} {v:AV} {l:List α} (hs:SlV E ty H v l) {i:Nat} {a:α} (hi:l[i]? = some a):∃ cs,E.R H cs a/\cs.length=E.sz/\(∀ j c,cs[j]? = some c->bC H none (br v (i*E.sz+j))=some c)/\bC H (some E.sz) (br v (i*E.sz))=some (.agg cs):=by
 obtain ⟨cells,h1,-,h2⟩:=hs
 have hlt:i<l.length:=(List.getElem?_eq_some_iff.1 hi).1
 have hle:i*E.sz+E.sz<=cells.length:=by rw [h2.1,<- Nat.succ_mul]; exact Nat.mul_le_mul_right _ hlt
 have:=E.pos
 refine ⟨_,h2.2 i a hi,by simp; omega,fun j c hj=>?_,?_⟩
 ·refine h1.load (by simp) ?_
  rw [List.getElem?_take] at hj
  split at hj
  ·rw [List.getElem?_drop] at hj
   simpa [aB] using hj
  ·cases hj
 ·refine h1.load (by simp; omega) ?_
  simp only [aB]
  rw [if_pos hle]
structure E9 (α:Type) where
 tys:List Nat
 R:Heap->AV->α->Prop
 one:∀ {H v a},R H v a->kj v
 mono:∀ {H H' v a},SubT tys H H'->R H v a->R H' v a
def mY (e:E9 α):gC α where
 sz:=1
 tys:=e.tys
 R H cs a:=∃ v,cs=[v]/\e.R H v a
 pos:=by omega
 len:=by rintro H cs a ⟨v,rfl,h⟩; exact ⟨rfl,by simp [(e.one h).2]⟩
 mono:=by rintro H H' cs a hs ⟨v,rfl,h⟩; exact ⟨v,rfl,e.mono hs h⟩
abbrev FE (e:E9 α) (ty:Nat) (H:Heap) (v:AV) (l:List α):Prop:=SlV (mY e) ty H v l
theorem SlV.at1 {e:E9 α} {ty:Nat} {H:Heap} {v:AV} {l:List α} (hs:FE e ty H v l) {i:Nat} {a:α} (hi:l[i]? = some a):∃ c,e.R H c a/\bC H none (br v i)=some c:=by
 obtain ⟨cs,⟨c,rfl,hr⟩,-,h2,-⟩:=hs.at hi
 refine ⟨c,hr,?_⟩
 have:=h2 0 c rfl
 simpa [mY] using this
theorem SlV.idx1 {e:E9 α} {ty:Nat} {H:Heap} {v:AV} {l:List α} (hs:FE e ty H v l) (k:IntKind) (i:Nat) (hi:i<l.length):a7 1 v (.int k (i:Int))=some (br v i):=by
 have:=SlV.idx hs k i hi
 simpa [mY] using this
def qA (k:IntKind):E9 Int:=⟨[],fun _ v a=>v=.int k a,fun h=>h ▸ aA _ _,fun _ h=>h⟩
theorem Cells.take {E:gC α} {H:Heap} {cells:List AV} {l:List α} (h:Cells E H cells l) {n:Nat} (hn:n<=l.length):Cells E H (cells.take (n*E.sz)) (l.take n):=by
 have hm:=Nat.mul_le_mul_right E.sz hn
 refine ⟨by rw [List.length_take,List.length_take,h.1,Nat.min_eq_left hm,Nat.min_eq_left hn],fun i a hi=>?_⟩
 rw [List.getElem?_take] at hi
 split at hi
 ·rename_i hin
  have:=h.2 i a hi
  have h1:i*E.sz+E.sz<=n*E.sz:=by rw [<- Nat.succ_mul]; exact Nat.mul_le_mul_right _ hin
  rw [List.drop_take,List.take_take,Nat.min_eq_left (by omega)]
  exact this
 ·cases hi
theorem Cells.drop {E:gC α} {H:Heap} {cells:List AV} {l:List α} (h:Cells E H cells l) (n:Nat):Cells E H (cells.drop (n*E.sz)) (l.drop n):=by
 refine ⟨by rw [List.length_drop,List.length_drop,h.1,Nat.sub_mul],fun i a hi=>?_⟩
 rw [List.getElem?_drop] at hi
 have:=h.2 _ a hi
 rw [List.drop_drop,<- Nat.add_mul]
 exact this
theorem Cells.append {E:gC α} {H:Heap} {c1 c2:List AV} {l1 l2:List α} (h1:Cells E H c1 l1) (h2:Cells E H c2 l2):Cells E H (c1++c2) (l1++l2):=by
 refine ⟨by rw [List.length_append,List.length_append,h1.1,h2.1,Nat.add_mul],fun i a hi=>?_⟩
 by_cases hlt:i<l1.length
 ·rw [List.getElem?_append_left hlt] at hi
  have:=h1.2 i a hi
  have hle:i*E.sz+E.sz<=c1.length:=by rw [h1.1,<- Nat.succ_mul]; exact Nat.mul_le_mul_right _ hlt
  rw [List.drop_append_of_le_length (by omega),List.take_append_of_le_length (by rw [List.length_drop]; omega)]
  exact this
 ·rw [List.getElem?_append_right (by omega)] at hi
  have:=h2.2 _ a hi
  have e:i*E.sz=c1.length+(i-l1.length)*E.sz:=by rw [h1.1,<- Nat.add_mul]; congr 1; omega
  rw [e,List.drop_append,List.drop_eq_nil_of_le (by omega),List.nil_append,Nat.add_sub_cancel_left]
  exact this
theorem Cells.nil (E:gC α) (H:Heap):Cells E H [] []:=⟨by simp,fun i a h=>by simp at h⟩
theorem Cells.one {E:gC α} {H:Heap} {cs:List AV} {a:α} (h:E.R H cs a):Cells E H cs [a]:=by
 refine ⟨by simp [(E.len h).1],fun i b hi=>?_⟩
 cases i with
 | zero=>simp at hi; subst hi; simp [<- (E.len h).1]; exact h
 | succ i=>simp at hi
theorem Cells.set {E:gC α} {H:Heap} {cells cs:List AV} {l:List α} (h:Cells E H cells l) {i:Nat} {a:α} (hi:i<l.length) (hr:E.R H cs a):Cells E H (cells.take (i*E.sz)++cs++cells.drop (i*E.sz+E.sz)) (l.set i a):=by
 have e:l.set i a=l.take i++[a]++l.drop (i+1):=by rw [List.set_eq_take_append_cons_drop,if_pos hi]; simp
 rw [e]
 have:=h.drop (i+1)
 rw [Nat.succ_mul] at this
 exact ((h.take (Nat.le_of_lt hi)).append (Cells.one hr)).append this
theorem Cells.ones {E:gC α} {H:Heap} {cells:List AV} {l:List α} (h:Cells E H cells l):cells.all AV.one=true:=by
 rw [List.all_eq_true]
 intro c hc
 obtain ⟨j,hj,rfl⟩:=List.getElem_of_mem hc
 have hp:=E.pos
 have hlt:j / E.sz<l.length:=by
  apply Nat.div_lt_of_lt_mul
  rw [Nat.mul_comm,<- h.1]; exact hj
 have:=(E.len (h.2 (j / E.sz) _ (List.getElem?_eq_getElem hlt))).2
 rw [List.all_eq_true] at this
 refine this _ ?_
 have hm:j % E.sz<E.sz:=Nat.mod_lt _ hp
 have e:=Nat.div_add_mod j E.sz
 refine List.mem_of_getElem? (i:=j % E.sz) ?_
 rw [List.getElem?_take,if_pos hm,List.getElem?_drop]
 rw [Nat.mul_comm,e,List.getElem?_eq_getElem hj]
def Own (E:gC α) (ty:Nat) (H0 H:Heap) (b:Nat) (ex:Bool) (v:AV) (l:List α):Prop :=
 ∃ cells,v=.own b 0 l.length l.length E.sz ex/\H.get b=some (.cells cells ty true)/\Cells E H cells l/\H0.next<=b
theorem Own.sl {E:gC α} {ty:Nat} {H0 H:Heap} {b:Nat} {ex:Bool} {v:AV} {l:List α} (h:Own E ty H0 H b ex v l):SlV E ty H v l:=by
 obtain ⟨cells,rfl,hb,hc,-⟩:=h
 exact ⟨cells,Rd.own hb hc.1 (Nat.le_refl _),fun _ _ _ _ _ _ e=>by cases e; exact ⟨_,_,hb⟩,hc⟩
def Bl (E:gC α) (ty:Nat) (H0 H:Heap) (v:AV) (l:List α):Prop:=(v=.nilSl/\l=[])\/∃ b,Own E ty H0 H b false v l
theorem Bl.nil {E:gC α} {ty:Nat} {H0 H:Heap}:Bl E ty H0 H .nilSl []:=.inl ⟨rfl,rfl⟩
theorem Bl.sl {E:gC α} {ty:Nat} {H0 H:Heap} {v:AV} {l:List α} (h:Bl E ty H0 H v l):SlV E ty H v l:=by
 rcases h with ⟨rfl,rfl⟩ | ⟨b,h⟩
 ·exact SlV.nil E ty H
 ·exact h.sl
theorem Own.monoT {E:gC α} {ty:Nat} {H0 H H':Heap} (hs:SubT (ty :: E.tys) H H') {b:Nat} {ex:Bool} {v:AV} {l:List α} (h:Own E ty H0 H b ex v l):Own E ty H0 H' b ex v l:=by
 obtain ⟨cells,rfl,hb,hc,h0⟩:=h
 exact ⟨cells,rfl,hs b _ _ _ (List.mem_cons_self ..) hb,hc.mono (hs.of fun t ht=>List.mem_cons_of_mem _ ht),h0⟩
theorem Own.mono {E:gC α} {ty:Nat} {H0 H H':Heap} (hs:Sub H H') {b:Nat} {ex:Bool} {v:AV} {l:List α} (h:Own E ty H0 H b ex v l):Own E ty H0 H' b ex v l:=h.monoT (hs.t _)
theorem Bl.monoT {E:gC α} {ty:Nat} {H0 H H':Heap} (hs:SubT (ty :: E.tys) H H') {v:AV} {l:List α} (h:Bl E ty H0 H v l):Bl E ty H0 H' v l:=by
 rcases h with h | ⟨b,h⟩
 ·exact .inl h
 ·exact .inr ⟨b,h.monoT hs⟩
theorem Bl.mono {E:gC α} {ty:Nat} {H0 H H':Heap} (hs:Sub H H') {v:AV} {l:List α} (h:Bl E ty H0 H v l):Bl E ty H0 H' v l:=h.monoT (hs.t _)
theorem Bl.put {E:gC α} {ty:Nat} {H0 H:Heap} {v:AV} {l:List α} (h:Bl E ty H0 H v l) {b:Nat} {e:Ent} (hne:∀ n,v ≠ .own b 0 n n E.sz false) (hs:SubT E.tys H (H.put b e)):Bl E ty H0 (H.put b e) v l:=by
 rcases h with h | ⟨b',cells,rfl,hb,hc,h0⟩
 ·exact .inl h
 ·exact .inr ⟨b',cells,rfl,by rw [bo (fun e1=>hne _ (by rw [e1]))]; exact hb,hc.mono hs,h0⟩
theorem Bl.kill {E:gC α} {ty:Nat} {H0 H:Heap} {v:AV} {l:List α} (h:Bl E ty H0 H v l) {b:Nat} (hne:∀ n,v ≠ .own b 0 n n E.sz false) (hs:SubT E.tys H (H.kill b)):Bl E ty H0 (H.kill b) v l:=by
 rcases h with h | ⟨b',cells,rfl,hb,hc,h0⟩
 ·exact .inl h
 ·exact .inr ⟨b',cells,rfl,by rw [fH (fun e1=>hne _ (by rw [e1]))]; exact hb,hc.mono hs,h0⟩
theorem SubT.nil (H H':Heap):SubT [] H H':=fun _ _ _ _ h=>by cases h
theorem SubT.put {tys:List Nat} {H:Heap} {b:Nat} {e:Ent} (h:∀ cs t r,t∈tys->H.get b≠some (.cells cs t r)):SubT tys H (H.put b e):=fun c cs t r ht hc=>by
 rw [bo (fun e1=>h cs t r ht (by rw [<- e1]; exact hc))]; exact hc
theorem Bl.base {E:gC α} {ty:Nat} {H0 H1 H:Heap} (hs:H0.next<=H1.next) {v:AV} {l:List α} (h:Bl E ty H1 H v l):Bl E ty H0 H v l:=by
 rcases h with h | ⟨b,cells,h1,h2,h3,h4⟩
 ·exact .inl h
 ·exact .inr ⟨b,cells,h1,h2,h3,Nat.le_trans hs h4⟩
def iV (H:Heap) (id size bytes ty:Nat) (x y:AV):Option (AV × Heap):=match gG y with
 | none=>none
 | some m=>match bE H size m y with
  | none=>none
  | some news=>dm H id size bytes ty x m news (match y with | .own b _ _ _ _ _=>some b | _=>none)
theorem CU {tab:Nat->Option aN} (ev:Src->AV) (H:Heap) (id:Nat) (Q:AV->Heap->Prop) (size bytes ty:Nat) (z:List AV) (x y:Src) :
  gU tab ev H id (.append size bytes ty z x y) Q=eG (iV H id size bytes ty (ev x) (ev y)) (fun r=>Q r.1 r.2) ():=by rw [vM]; rfl
def FN (H:Heap) (id ty size bytes:Nat) (z:List AV) (l c:AV):Option (AV × Heap):=match iU l,iU c with
 | some l,some c=>if l<=c/\bytes*c<=2^47/\c<2^63/\z.length=size then some (.own id 0 l c size true,H.put id (.cells ((List.replicate c z).flatten) ty true)) else none
 | _,_=>none
theorem El {tab:Nat->Option aN} (ev:Src->AV) (H:Heap) (id:Nat) (Q:AV->Heap->Prop) (ty size bytes:Nat) (z:List AV) (l c:Src) :
  gU tab ev H id (.mksl ty size bytes z l c) Q=eG (FN H id ty size bytes z (ev l) (ev c)) (fun r=>Q r.1 r.2) ():=by rw [Av]; rfl
theorem Bl.app {E:gC α} {ty ty2 bytes id:Nat} {H0 H:Heap} {v w:AV} {l l2:List α} (h:Bl E ty H0 H v l) (hty:ty ∉ E.tys) (hk:Kp H0 H) (hy:SlV E ty2 H w l2) (hid:H0.next<=id) (hid2:id<H.next) (hfree:H.get id=none)
  (hne:∀ b n,v=.own b 0 n n E.sz false->∀ off m c z x,w ≠ .own b off m c z x) (hb:(l.length+l2.length)*bytes<=70368744177664) (hl:l.length+l2.length<4611686018427387904) :
  ∃ v' H',iV H id E.sz bytes ty v w=some (v',H')/\Bl E ty H0 H' v' (l++l2)/\Kp H0 H'/\H'.next=H.next/\(∀ b e,H.get b=some e->(∀ n,v ≠ .own b 0 n n E.sz false)->H'.get b=some e)/\(0<l2.length->∃ n,v'=.own id 0 n n E.sz false):=by
 obtain ⟨news,hr,hty2,hc⟩:=hy
 obtain ⟨m,hm,hlen⟩:=hr.length
 obtain ⟨-,-,m',hm',hf⟩:=hr
 rw [hm] at hm'; cases hm'
 have hml:m=l2.length:=Nat.eq_of_mul_eq_mul_right E.pos (by rw [<- hlen,hc.1])
 subst hml
 obtain ⟨fr,hfr0⟩:∃ fr,(match w with | .own b _ _ _ _ _=>some b | _=>none)=fr:=⟨_,rfl⟩
 have hap:iV H id E.sz bytes ty v w=dm H id E.sz bytes ty v l2.length news fr:=by
  unfold iV
  rw [hm]
  simp only
  rw [hf]
  simp only
  rw [hfr0]
 rw [hap]
 have hones:=hc.ones
 have hnf:∀ {b e},H.get b=some e->b≠id:=fun hb e1=>by rw [e1,hfree] at hb; cases hb
 rcases h with ⟨rfl,rfl⟩ | ⟨b,cells,rfl,hb0,hcl,hb1⟩
 ·by_cases h0:l2.length=0
  ·refine ⟨.nilSl,H,by simp only [dm]; rw [if_pos h0],.inl ⟨rfl,by simpa using h0⟩,hk,rfl,fun b e hb _=>hb,fun h=>by omega⟩
  ·refine ⟨_,_,by simp only [dm]; rw [if_neg h0,if_pos ⟨by simpa using hb,by simpa using hl⟩],.inr ⟨id,news,by simp,aq _ _ _,?_,hid⟩,hk.put hid hid2,rfl,fun b e hb _=>?_,fun _=>⟨_,rfl⟩⟩
   ·have:=hc.mono (H':=H.put id (.cells news ty true)) fun c cs t r _ hce=>by rw [bo (hnf hce)]; exact hce
    simpa using this
   ·rw [bo (hnf hb)]; exact hb
 ·have hbid:b≠id:=hnf hb0
  have hfr:fr≠some b:=by
   rw [<- hfr0]
   cases w with
   | own b' off m c z x =>
    simp only [ne_eq,Option.some.injEq]
    intro e1; subst e1
    exact hne _ _ rfl _ _ _ _ _ rfl
   | _=>simp
  simp only [dm,hb0]
  rw [if_pos ⟨trivial,hb,hl,trivial,by simp; exact Nat.le_of_eq hcl.1.symm⟩]
  by_cases h0:l2.length=0
  ·rw [if_pos (by omega),if_pos h0]
   refine ⟨_,H,rfl,.inr ⟨b,cells,?_,hb0,?_,hb1⟩,hk,rfl,fun b e hb _=>hb,fun h=>by omega⟩
   ·simp [h0]
   ·have:l2=[]:=List.eq_nil_of_length_eq_zero h0
    subst this; simpa using hcl
  ·rw [if_neg (by omega)]
   simp only [Bool.false_eq_true,if_false]
   rw [if_pos ⟨trivial,trivial,hfr,hones⟩]
   have hsub:∀ c e,H.get c=some e->c≠b->((H.kill b).put id (.cells (cells.take (l.length*E.sz)++news) ty true)).get c=some e:=fun c e hc hcb=>by
    rw [bo (hnf hc),fH hcb]; exact hc
   refine ⟨_,_,rfl,.inr ⟨id,_,by simp,aq _ _ _,?_,hid⟩,(hk.kill hb1).put hid hid2,rfl,fun c e hc he=>hsub c e hc fun e1=>?_,fun _=>⟨_,rfl⟩⟩
   ·have hs:SubT E.tys H ((H.kill b).put id (.cells (cells.take (l.length*E.sz)++news) ty true)):=fun c cs t r ht hc=>hsub c _ hc fun e1=>by
     subst e1
     rw [hb0] at hc; cases hc
     exact hty ht
    have ht:cells.take (l.length*E.sz)=cells:=by rw [<- hcl.1,List.take_length]
    rw [ht] at hs ⊢
    exact (hcl.mono hs).append (hc.mono hs)
   ·subst e1
    exact he _ rfl
theorem Bl.push {E:gC α} {ty ty2 bytes id id2 k:Nat} {H0 H:Heap} {v:AV} {l:List α} {cs:List AV} {a:α} (h:Bl E ty H0 H v l) (hty:ty ∉ E.tys) (hk:Kp H0 H) (hr:E.R H cs a) (hid:H.next<=id) (hidk:id<H.next+k) (hid2:H.next<=id2) (hid2k:id2<H.next+k) (hne:id≠id2)
  (hb:(l.length+1)*bytes<=70368744177664) (hl:l.length+1<4611686018427387904) :
  ∃ n H',iV ((H.up k).put id2 (.cells cs ty2 true)) id E.sz bytes ty v (.own id2 0 1 1 E.sz true)=some (.own id 0 n n E.sz false,H')/\Bl E ty H0 H' (.own id 0 n n E.sz false) (l++[a])/\Kp H0 H'/\H'.next=H.next+k/\(∀ b e,H.get b=some e->(∀ n,v ≠ .own b 0 n n E.sz false)->H'.get b=some e):=by
 have hle:=hk.le
 have hf:∀ {c},H.next<=c->H.get c=none:=fun hc=>hk.wf.fresh hc
 have hsub:Sub H ((H.up k).put id2 (.cells cs ty2 true)):=(Sub.bump H k).put (hf hid2) _
 have hk':Kp H0 ((H.up k).put id2 (.cells cs ty2 true)):=(hk.up k).put (by omega) hid2k
 have hy:SlV E ty2 ((H.up k).put id2 (.cells cs ty2 true)) (.own id2 0 1 1 E.sz true) [a]:=by
  have:Own E ty2 H0 ((H.up k).put id2 (.cells cs ty2 true)) id2 true (.own id2 0 1 1 E.sz true) [a]:=⟨cs,rfl,aq _ _ _,Cells.one (E.mono (hsub.t _) hr),by omega⟩
  exact this.sl
 obtain ⟨v',H',e1,e2,e3,e4,e5,e6⟩:=(h.mono hsub).app (id:=id) (bytes:=bytes) hty hk' hy (by omega) hidk (by rw [bo hne]; exact hf hid) (fun b n hv off m c z x hw=>by
  cases hw
  rcases h with ⟨h,-⟩ | ⟨b',cells,h,hb',-⟩
  ·rw [h] at hv; cases hv
  ·rw [h] at hv; cases hv
   have:=hk.wf _ _ hb'
   omega) hb hl
 obtain ⟨n,rfl⟩:=e6 (by simp)
 exact ⟨n,H',e1,e2,e3,e4,fun b e hbe he=>e5 b e (hsub.get _ _ hbe) he⟩
theorem SlV.app {E:gC α} {ty ty2 bytes id b off:Nat} {H0 H:Heap} {w:AV} {l l2:List α} (h:SlV E ty H (.own b off l.length l.length E.sz true) l) (hk:Kp H0 H) (hy:SlV E ty2 H w l2) (hid:H0.next<=id) (hid2:id<H.next) (hfree:H.get id=none)
  (hb:(l.length+l2.length)*bytes<=70368744177664) (hl:l.length+l2.length<4611686018427387904) :
  ∃ v' H',iV H id E.sz bytes ty (.own b off l.length l.length E.sz true) w=some (v',H')/\SlV E ty H' v' (l++l2)/\Kp H0 H'/\H'.next=H.next/\Sub H H'/\(0<l2.length->Own E ty H0 H' id false v' (l++l2)):=by
 obtain ⟨cells,hr0,ht,hcl⟩:=h
 obtain ⟨cs,rw0,hg⟩:=ht _ _ _ _ _ _ rfl
 obtain ⟨-,-,n0,hn0,hf0⟩:=hr0
 simp only [gG,Option.some.injEq] at hn0
 subst hn0
 simp only [bE,hg] at hf0
 obtain ⟨news,hr,hty2,hc⟩:=hy
 obtain ⟨m,hm,hlen⟩:=hr.length
 obtain ⟨-,-,m',hm',hf⟩:=hr
 rw [hm] at hm'; cases hm'
 have hml:m=l2.length:=Nat.eq_of_mul_eq_mul_right E.pos (by rw [<- hlen,hc.1])
 obtain ⟨fr,hfr0⟩:∃ fr,(match w with | .own b _ _ _ _ _=>some b | _=>none)=fr:=⟨_,rfl⟩
 subst hml
 have hnf:∀ {b e},H.get b=some e->b≠id:=fun hb e1=>by rw [e1,hfree] at hb; cases hb
 split at hf0
 ·rename_i hcond
  cases hf0
  have hap:∀ fr,dm H id E.sz bytes ty (.own b off l.length l.length E.sz true) l2.length news fr=if l2.length=0 then some (.own b off l.length l.length E.sz true,H) else some (.own id 0 (l.length+l2.length) (l.length+l2.length) E.sz false,H.put id (.cells ((cs.drop off).take (l.length*E.sz)++news) ty true)):=fun fr=>by
   simp only [dm,hg]
   rw [if_pos ⟨trivial,hb,hl,trivial,hcond.2.2⟩]
   by_cases h0:l2.length=0
   ·rw [if_pos (by omega),if_pos h0,if_pos h0]
   ·rw [if_neg (by omega),if_neg h0]
    simp
  have e:∀ x,iV H id E.sz bytes ty x w=dm H id E.sz bytes ty x l2.length news fr:=fun x=>by
   unfold iV
   rw [hm]
   simp only
   rw [hf]
   simp only
   rw [hfr0]
  by_cases h0:l2.length=0
  ·refine ⟨_,H,by rw [e,hap,if_pos h0],?_,hk,rfl,Sub.refl H,fun h=>by omega⟩
   have:l2=[]:=List.eq_nil_of_length_eq_zero h0
   subst this
   rw [List.append_nil]
   refine ⟨_,⟨Nat.le_refl _,(fun s h=>by cases h),l.length,rfl,?_⟩,ht,hcl⟩
   simp only [bE,hg]
   rw [if_pos hcond]
  ·have hs:Sub H (H.put id (.cells ((cs.drop off).take (l.length*E.sz)++news) ty true)):=⟨Nat.le_refl _,fun c e hc=>by rw [bo (hnf hc)]; exact hc⟩
   refine ⟨_,_,by rw [e,hap,if_neg h0],?_,hk.put hid hid2,rfl,hs,fun _=>⟨_,by rw [List.length_append],aq _ _ _,(hcl.mono (hs.t _)).append (hc.mono (hs.t _)),hid⟩⟩
   refine ⟨(cs.drop off).take (l.length*E.sz)++news,Rd.own (aq _ _ _) ?_ (Nat.le_refl _),fun _ _ _ _ _ _ e=>by cases e; exact ⟨_,_,aq _ _ _⟩,(hcl.mono (hs.t _)).append (hc.mono (hs.t _))⟩
   rw [List.length_append,hcl.1,hc.1,Nat.add_mul]
 ·cases hf0
def mJ (l:List Nat):List AV:=l.map fun a=>.int .u64 ((a:Nat):Int)
theorem wM (l:List Nat):(mJ l).length=l.length:=by simp [mJ]
theorem wL (l:List Nat) (j a:Nat):(mJ l).set j (.int .u64 (a:Int))=mJ (l.set j a):=by simp [mJ,List.map_set]
theorem A4 {l:List Nat} {j:Nat} (h:j<l.length):aB (mJ l) j none=some (.int .u64 ((l.getD j 0:Nat):Int)):=by
 simp [aB,mJ,List.getD_eq_getElem?_getD,h]
theorem zk (n:Nat):(List.replicate n [AV.int .u64 0]).flatten=mJ (List.replicate n 0):=by
 induction n with
 | zero=>rfl
 | succ n ih=>rw [List.replicate_succ,List.flatten_cons,ih]; rfl
theorem nn {b off n c sz j:Nat} {x:Bool} {k:IntKind} (h:j<n):a7 sz (.own b off n c sz x) (.int k (j:Int))=some (.ptr b (off+j*sz)):=by
 show aF _ (.indexAddr sz (.t 0) (.t 1))=_
 simp [aF,qU,h]
theorem qw (b off n c sz:Nat) (x:Bool):lenV (.own b off n c sz x)=some (.int .i64 (n:Int)):=rfl
theorem DJ {α:Type} {a b:Nat} {x y:α} (h:a<b):(if a<b then x else y)=x:=if_pos h
def kV (o:AOp):Bool:=o.looks || o.isPure
section
variable (tab:Nat->Option aN)
def yr (base:Nat) (T:Tm) (i:Nat) (d:gb) (s:DS) (K:DS->Prop):Prop:=match d.cls,d.looks with
 | 0,(k,adds) :: _=>kV d.op=true/\gU tab (Src.ev T) (cV base s.Es (s.Cs.getD k default) adds) 0 d.op fun v _=>K ⟨s.Vs++[v],s.Cs,s.Es++[none]⟩
 | 1,_=>d.op.makes=true/\gU tab (Src.ev T) (Heap.nil 0) (base+i) d.op fun v H'=>K ⟨s.Vs++[v],s.Cs,s.Es++[H'.get (base+i)]⟩
 | 2,[(k,adds)]=>gU tab (Src.ev T) (cV base s.Es (s.Cs.getD k default) adds) (base+i) d.op fun v H'=>K ⟨s.Vs++[v],s.Cs++[H'],s.Es++[none]⟩
 | _,_=>False
def sV (base:Nat) (d:gb) (s:DS) (K:DS->Prop):Prop:=match d.cls,d.looks with
 | 2,[(k,adds)]=>K ⟨s.Vs++[.tup []],s.Cs++[cV base s.Es (s.Cs.getD k default) adds],s.Es++[none]⟩
 | 2,_=>False
 | _,_=>K ⟨s.Vs++[.tup []],s.Cs,s.Es++[none]⟩
def wd (base:Nat) (T0:Tm):Nat->List gb->DS->(DS->Prop)->Prop
 | _,[],s,Q=>Q s
 | i,d :: ds,s,Q=>match bG (bL T0 s.Vs d.uses) d.guard with
  | none=>False
  | some true=>yr tab base (bL T0 s.Vs d.uses) i d s fun s'=>wd base T0 (i+1) ds s' Q
  | some false=>sV base d s fun s'=>wd base T0 (i+1) ds s' Q
end
section
variable {tab:Nat->Option aN}
theorem ri {base i:Nat} {T0:Tm} {d:gb} {s:DS} {K:DS->Prop} (hw:bG (bL T0 s.Vs d.uses) d.guard=some true) (h:yr tab base (bL T0 s.Vs d.uses) i d s K) :
  ∃ s',K s'/\∃ N,∀ m n,N<=m->N<=n->gk (gy tab dP m n) base T0 i d s=some s':=by
 obtain ⟨dst,op,guard,uses,cls,looks⟩:=d
 simp only at hw
 unfold yr at h
 simp only at h
 split at h
 ·rename_i k adds r
  obtain ⟨hz,h⟩:=h
  have h:=h.run
  obtain ⟨v,H',hk,N,g⟩:=gY h
  refine ⟨_,hk,N,fun m n hm hn=>?_⟩
  have g:=g m n hm hn
  unfold gk
  simp only [hw]
  cases hp:aF (Src.ev (bL T0 s.Vs uses)) op with
  | some w =>
   have:nh (gy tab dP m n) (Src.ev (bL T0 s.Vs uses)) (cV base s.Es (s.Cs.getD k default) adds) 0 op=some (w,cV base s.Es (s.Cs.getD k default) adds):=by
    cases op <;> first | (simp only [nh,hp]; done) | (simp [aF] at hp; done)
   rw [this] at g
   cases g; rfl
  | none =>
   have hh:aX (Src.ev (bL T0 s.Vs uses)) (cV base s.Es (s.Cs.getD k default) adds) 0 op=some (v,H'):=by
    cases op <;> first | (simp only [nh,hp] at g; exact g) | (simp [kV,AOp.looks,AOp.isPure] at hz; done)
   have hl:op.looks=true:=by
    cases op <;> first | rfl | (simp [aX] at hh; done) | (simp [kV,AOp.looks,AOp.isPure] at hz; done)
   simp only [hh,hl,if_true]
 ·obtain ⟨hz,h⟩:=h
  have h:=h.run
  obtain ⟨v,H',hk,N,g⟩:=gY h
  refine ⟨_,hk,N,fun m n hm hn=>?_⟩
  have g:=g m n hm hn
  unfold gk
  simp only [hw,hz,if_true]
  have hp:aF (Src.ev (bL T0 s.Vs uses)) op=none:=by cases op <;> first | rfl | (simp [AOp.makes] at hz; done)
  have hh:aX (Src.ev (bL T0 s.Vs uses)) (Heap.nil 0) (base+i) op=some (v,H'):=by
   cases op <;> first | (simp only [nh,hp] at g; exact g) | (simp [AOp.makes] at hz; done)
  simp only [hh]
 ·have h:=h.run
  obtain ⟨v,H',hk,N,g⟩:=gY h
  refine ⟨_,hk,N,fun m n hm hn=>?_⟩
  have g:=g m n hm hn
  unfold gk
  simp only [hw,g]
 ·exact h.elim
theorem pV {cal:iH} {base i:Nat} {T0:Tm} {d:gb} {s:DS} {K:DS->Prop} (hw:bG (bL T0 s.Vs d.uses) d.guard=some false) (h:sV base d s K):∃ s',K s'/\∀ cal,gk cal base T0 i d s=some s':=by
 obtain ⟨dst,op,guard,uses,cls,looks⟩:=d
 simp only at hw
 unfold sV at h
 simp only at h
 split at h
 ·refine ⟨_,h,fun cal=>?_⟩
  unfold gk; simp only [hw]
 ·exact h.elim
 ·rename_i h1 h2
  refine ⟨_,h,fun cal=>?_⟩
  unfold gk
  simp only [hw]
theorem ny {base:Nat} {T0:Tm}:∀ (ds:List gb) (i:Nat) (s:DS) (Q:DS->Prop),wd tab base T0 i ds s Q->∃ s',Q s'/\∃ N,∀ m n,N<=m->N<=n->kO (gy tab dP m n) base T0 i ds s=some s'
 | [],i,s,Q,h=>⟨s,h,0,fun _ _ _ _=>rfl⟩
 | d :: ds,i,s,Q,h=>by
  unfold wd at h
  split at h
  ·exact h.elim
  ·rename_i hw
   obtain ⟨s1,h1,N1,g1⟩:=ri hw h
   obtain ⟨s2,hq,N2,g2⟩:=ny ds _ _ _ h1
   refine ⟨s2,hq,N1+N2,fun m n hm hn=>?_⟩
   unfold kO
   rw [g1 m n (by omega) (by omega)]
   exact g2 m n (by omega) (by omega)
  ·rename_i hw
   obtain ⟨s1,h1,g1⟩:=pV (cal:=EE) (i:=i) hw h
   obtain ⟨s2,hq,N2,g2⟩:=ny ds _ _ _ h1
   refine ⟨s2,hq,N2,fun m n hm hn=>?_⟩
   unfold kO
   rw [g1]
   exact g2 m n hm hn
structure WD (tab:Nat->Option aN) (base:Nat) (T0:Tm) (i:Nat) (ds:List gb) (s:DS) (Q:DS->Prop):Prop where
 run:wd tab base T0 i ds s Q
theorem pN:WD=wd:=by funext tab b T0 i ds s Q; exact propext ⟨fun h=>h.run,fun h=>⟨h⟩⟩
theorem AV.beq_refl':∀ v:AV,AV.beq v v=true:=by
 intro v
 induction v using AV.rec (motive_2:=fun l=>AV.beqs l l=true) with
 | undef=>rfl
 | bool b=>simp [AV.beq]
 | int k n=>simp [AV.beq]
 | str s=>simp [AV.beq]
 | nilPtr=>rfl
 | nilSl=>rfl
 | nilFn=>rfl
 | nilIf=>rfl
 | nilMap=>rfl
 | agg cs ih=>simpa [AV.beq] using ih
 | tup cs ih=>simpa [AV.beq] using ih
 | sl cs n ih=>simpa [AV.beq] using ih
 | dp cs n ih=>simpa [AV.beq] using ih
 | own b off n c sz ex=>simp [AV.beq]
 | ptr b off=>simp [AV.beq]
 | fn f a b iha ihb=>simp [AV.beq,iha,ihb]
 | ifc t v ih=>simp [AV.beq,ih]
 | map b=>simp [AV.beq]
 | loopv b=>simp [AV.beq]
 | nil=>rfl
 | cons a l iha ihl=>simp [AV.beqs,iha,ihl]
def gP (tab:Nat->Option aN) (base:Nat) (T:Tm) (Cs:List Heap) (Es:List (Option Ent)) (op:AOp) (w:AV):List (Nat × List Nat)->Prop
 | []=>True
 | (k,adds) :: r=>gU tab (Src.ev T) (cV base Es (Cs.getD k default) adds) 0 op (fun v _=>v=w)/\gP tab base T Cs Es op w r
def tJ (tab:Nat->Option aN) (base:Nat) (T0:Tm) (Vs:List AV) (Cs:List Heap) (Es:List (Option Ent)) (i:Nat) (d:gb):Prop:=match d.cls with
 | 0=>match d.guard with
  | none=>kV d.op=true/\gP tab base (bL T0 Vs d.uses) Cs Es d.op (Vs.getD i .undef) d.looks
  | some p=>ik (aa (bL T0 Vs d.uses) p.1) p.2 (kV d.op=true/\gP tab base (bL T0 Vs d.uses) Cs Es d.op (Vs.getD i .undef) d.looks) True () ()
 | _+1=>True
def gh (tab:Nat->Option aN) (base:Nat) (T0:Tm) (Vs:List AV) (Cs:List Heap) (Es:List (Option Ent)):Nat->List gb->Prop
 | _,[]=>True
 | i,d :: ds=>tJ tab base T0 Vs Cs Es i d/\gh tab base T0 Vs Cs Es (i+1) ds
theorem sW (T:Tm) (t:Nat) (w:Bool):bG T (some (t,w))=match aa T t with | .bool b=>some (b == w) | .tup []=>some false | _=>none:=by
 unfold aa
 rw [List.getD_eq_getElem?_getD]
 cases h:T[t]? with
 | none=>simp only [bG,h]; rfl
 | some v =>
  simp only [bG,h,Option.getD_some]
  cases v with
  | tup vs=>cases vs <;> rfl
  | _=>rfl
theorem jz {base:Nat} {T:Tm} {Cs:List Heap} {Es:List (Option Ent)} {op:AOp} {w:AV} (hz:kV op=true) (hp:aF (Src.ev T) op=none):∀ {looks:List (Nat × List Nat)},gP tab base T Cs Es op w looks->(looks.all fun p=>match aX (Src.ev T) (cV base Es (Cs.getD p.1 default) p.2) 0 op with | some (v,_)=>AV.beq v w | none=>false)=true
 | [],_=>rfl
 | (k,adds) :: r,h=>by
  obtain ⟨h1,h2⟩:=h
  obtain ⟨v,H',rfl,N,g⟩:=gY h1.run
  have g:=g N N (Nat.le_refl _) (Nat.le_refl _)
  have hh:aX (Src.ev T) (cV base Es (Cs.getD k default) adds) 0 op=some (v,H'):=by
   cases op <;> first | (simp only [nh,hp] at g; exact g) | (simp [kV,AOp.looks,AOp.isPure] at hz; done)
  rw [List.all_cons,jz hz hp h2]
  simp only [hh,AV.beq_refl',Bool.and_true]
theorem qu {base:Nat} {T0:Tm} {s:DS} {i:Nat} {d:gb} (h:tJ tab base T0 s.Vs s.Cs s.Es i d):gx base T0 s i d=true:=by
 obtain ⟨dst,op,g,us,c,looks⟩:=d
 cases c with
 | succ c=>rfl
 | zero =>
  cases g with
  | none =>
   obtain ⟨hz,h1⟩:=h
   unfold gx
   simp only [show bG (bL T0 s.Vs us) none=some true from rfl]
   cases hp:aF (Src.ev (bL T0 s.Vs us)) op with
   | some v=>rfl
   | none=>exact jz hz hp h1
  | some p =>
   obtain ⟨t,w⟩:=p
   unfold tJ ik at h
   simp only at h
   unfold gx
   simp only [sW]
   cases hg:aa (bL T0 s.Vs us) t with
   | bool b =>
    rw [hg] at h
    simp only at h
    by_cases hb:b=w
    ·rw [if_pos hb] at h
     subst hb
     simp only [beq_self_eq_true]
     cases hp:aF (Src.ev (bL T0 s.Vs us)) op with
     | some v=>rfl
     | none=>exact jz h.1 hp h.2
    ·have:(b == w)=false:=by simpa using hb
     simp only [this]
   | tup vs=>cases vs <;> rfl
   | _=>rw [hg] at h; exact h.elim
theorem lF {base:Nat} {T0:Tm} {s:DS}:∀ (ds:List gb) (i:Nat),gh tab base T0 s.Vs s.Cs s.Es i ds->gW base T0 s i ds=true
 | [],i,_=>rfl
 | d :: ds,i,h=>by
  unfold gW
  rw [lF ds _ h.2,qu h.1]; rfl
def EU (tab:Nat->Option aN) (base:Nat) (T0:Tm) (ds:List gb) (late:List Nat) (Q:Tm->Heap->Prop) (s:DS):Prop:=gh tab base T0 s.Vs s.Cs s.Es 0 ds/\Q (eJ T0 ds s.Vs) (cV base s.Es (s.Cs.getLastD default) late)
theorem al {rd:Bool} {ds:List gb} {late:List Nat} {T:Tm} {H:Heap} {Q:Ex->Tm->Heap->Prop} (h:WD tab H.next T 0 ds ⟨[],[H.up ds.length],[]⟩ (EU tab H.next T ds late (Q .nrm))):WC tab rd (.draw ds late) T H Q:=by
 obtain ⟨s,⟨hs,hq⟩,N,g⟩:=ny _ _ _ _ h.run
 have hs:=lF _ _ hs
 refine ⟨.nrm,_,_,⟨N,fun m n hm hn=>?_⟩,hq⟩
 simp only [aw,sg]
 rw [show ({ H with next:=H.next+ds.length }:Heap)=H.up ds.length from rfl,g m n hm hn]
 simp only [hs,if_true]
variable {base i k:Nat} {T0:Tm} {dst:Option Nat} {op:AOp} {us:List (Nat × Option Nat)} {adds:List Nat} {r:List (Nat × List Nat)} {ds:List gb} {Vs:List AV} {Cs:List Heap} {Es:List (Option Ent)} {Q:DS->Prop}
theorem C5:WD tab base T0 i [] ⟨Vs,Cs,Es⟩ Q=Q ⟨Vs,Cs,Es⟩:=by rw [pN]; rfl
theorem AO:WD tab base T0 i (⟨dst,op,none,us,0,(k,adds) :: r⟩ :: ds) ⟨Vs,Cs,Es⟩ Q=(kV op=true/\gU tab (Src.ev (bL T0 Vs us)) (cV base Es (Cs.getD k default) adds) 0 op fun v _=>WD tab base T0 (i+1) ds ⟨Vs++[v],Cs,Es++[none]⟩ Q):=by rw [pN]; rfl
theorem AN:WD tab base T0 i (⟨dst,op,none,us,1,r⟩ :: ds) ⟨Vs,Cs,Es⟩ Q=(op.makes=true/\gU tab (Src.ev (bL T0 Vs us)) (Heap.nil 0) (base+i) op fun v H'=>WD tab base T0 (i+1) ds ⟨Vs++[v],Cs,Es++[H'.get (base+i)]⟩ Q):=by
 rw [pN]
 conv=>lhs; unfold wd
 cases r <;> rfl
theorem C8:WD tab base T0 i (⟨dst,op,none,us,2,[(k,adds)]⟩ :: ds) ⟨Vs,Cs,Es⟩ Q=gU tab (Src.ev (bL T0 Vs us)) (cV base Es (Cs.getD k default) adds) (base+i) op fun v H'=>WD tab base T0 (i+1) ds ⟨Vs++[v],Cs++[H'],Es++[none]⟩ Q:=by rw [pN]; rfl
theorem yq {t:Nat} {w:Bool}:WD tab base T0 i (⟨dst,op,some (t,w),us,0,(k,adds) :: r⟩ :: ds) ⟨Vs,Cs,Es⟩ Q =
  ik (aa (bL T0 Vs us) t) w (kV op=true/\gU tab (Src.ev (bL T0 Vs us)) (cV base Es (Cs.getD k default) adds) 0 op fun v _=>WD tab base T0 (i+1) ds ⟨Vs++[v],Cs,Es++[none]⟩ Q) (WD tab base T0 (i+1) ds ⟨Vs++[.tup []],Cs,Es++[none]⟩ Q) () ():=by
 rw [pN]
 have hw:bG (bL T0 Vs us) (some (t,w))=match aa (bL T0 Vs us) t with | .bool b=>some (b == w) | .tup []=>some false | _=>none:=by
  generalize bL T0 Vs us=T
  unfold aa
  rw [List.getD_eq_getElem?_getD]
  cases h:T[t]? with
  | none=>simp only [bG,h]; rfl
  | some v =>
   simp only [bG,h,Option.getD_some]
   cases v with
   | tup vs=>cases vs <;> rfl
   | _=>rfl
 conv=>lhs; unfold wd
 simp only [hw,ik]
 cases aa (bL T0 Vs us) t with
 | bool b=>cases b <;> cases w <;> rfl
 | tup vs=>cases vs <;> rfl
 | _=>rfl
theorem yB (T0:Tm) (Vs:List AV):bL T0 Vs []=List.replicate T0.length .undef:=rfl
theorem yA (T0:Tm) (Vs:List AV) (u:Nat × Option Nat):bL T0 Vs [u]=(List.replicate T0.length .undef).set u.1 (il T0 Vs u):=rfl
theorem yz (T0:Tm) (Vs:List AV) (u v:Nat × Option Nat):bL T0 Vs [u,v]=((List.replicate T0.length .undef).set u.1 (il T0 Vs u)).set v.1 (il T0 Vs v):=rfl
theorem sY (T0:Tm) (Vs:List AV) (u v w:Nat × Option Nat):bL T0 Vs [u,v,w]=(((List.replicate T0.length .undef).set u.1 (il T0 Vs u)).set v.1 (il T0 Vs v)).set w.1 (il T0 Vs w):=rfl
theorem yx (T0:Tm) (Vs:List AV) (n:Nat):il T0 Vs (n,none)=aa T0 n:=rfl
theorem yy (T0:Tm) (Vs:List AV) (n j:Nat):il T0 Vs (n,some j)=Vs.getD j .undef:=rfl
theorem xI (base:Nat) (Es:List (Option Ent)) (C:Heap):cV base Es C []=C:=rfl
theorem uo (base:Nat) (Es:List (Option Ent)) (C:Heap) (a:Nat) (l:List Nat):cV base Es C (a :: l)=cV base Es (match Es.getD a none with | some e=>C.put (base+a) e | none=>C) l:=rfl
theorem rD (T:Tm) (d:gb) (ds:List gb) (v:AV) (vs:List AV):eJ T (d :: ds) (v :: vs)=eJ (gN T d.dst v) ds vs:=rfl
theorem tz (T:Tm) (vs:List AV):eJ T [] vs=T:=by cases vs <;> rfl
theorem BX {base:Nat} {T0:Tm} {ds:List gb} {late:List Nat} {Q:Tm->Heap->Prop}:EU tab base T0 ds late Q ⟨Vs,Cs,Es⟩=(gh tab base T0 Vs Cs Es 0 ds/\Q (eJ T0 ds Vs) (cV base Es (Cs.getLastD default) late)):=rfl
theorem DA {Vs:List AV} {Cs:List Heap} {Es:List (Option Ent)} {i:Nat}:gh tab base T0 Vs Cs Es i []=True:=rfl
theorem BH {g:Option (Nat × Bool)} {r:List (Nat × List Nat)}:gh tab base T0 Vs Cs Es i (⟨dst,op,g,us,1,r⟩ :: ds)=gh tab base T0 Vs Cs Es (i+1) ds:=by
 show (True/\_)=_
 simp
theorem BG {g:Option (Nat × Bool)} {r:List (Nat × List Nat)}:gh tab base T0 Vs Cs Es i (⟨dst,op,g,us,2,r⟩ :: ds)=gh tab base T0 Vs Cs Es (i+1) ds:=by
 show (True/\_)=_
 simp
theorem BF {r:List (Nat × List Nat)}:gh tab base T0 Vs Cs Es i (⟨dst,op,none,us,0,r⟩ :: ds)=((kV op=true/\gP tab base (bL T0 Vs us) Cs Es op (Vs.getD i .undef) r)/\gh tab base T0 Vs Cs Es (i+1) ds):=rfl
theorem ze {t:Nat} {w:Bool} {r:List (Nat × List Nat)}:gh tab base T0 Vs Cs Es i (⟨dst,op,some (t,w),us,0,r⟩ :: ds)=(ik (aa (bL T0 Vs us) t) w (kV op=true/\gP tab base (bL T0 Vs us) Cs Es op (Vs.getD i .undef) r) True () ()/\gh tab base T0 Vs Cs Es (i+1) ds):=rfl
theorem DE {T:Tm} {w:AV}:gP tab base T Cs Es op w []=True:=rfl
theorem BP {T:Tm} {w:AV} {r:List (Nat × List Nat)}:gP tab base T Cs Es op w ((k,adds) :: r)=(gU tab (Src.ev T) (cV base Es (Cs.getD k default) adds) 0 op (fun v _=>v=w)/\gP tab base T Cs Es op w r):=rfl
theorem CK {x:Src}:kV (.mv x)=true:=rfl
theorem xP {a b c:Src}:kV (.pick a b c)=true:=rfl
theorem vE {z:List AV} {ps:List ((Nat × Nat) × Src)}:kV (.build z ps)=true:=rfl
theorem vC {x:Src}:kV (.nilCheck x)=true:=rfl
theorem As {o:BinOp} {k:BK} {x y:Src}:kV (.bin o k x y)=true:=rfl
theorem CJ {o:UnOp} {x:Src}:kV (.un o x)=true:=rfl
theorem xS {k:IntKind} {x:Src}:kV (.conv k x)=true:=rfl
theorem xQ {f:Fn} {a b:List Src}:kV (.mkfn f a b)=true:=rfl
theorem vB {n:Nat} {x:Src} {a b c:Option Src}:kV (.slice n x a b c)=true:=rfl
theorem CL {n:Nat} {x:Src}:kV (.fieldAddr n x)=true:=rfl
theorem vD {k:Option Nat} {n:Nat} {x:Src}:kV (.field k n x)=true:=rfl
theorem Ap {n:Nat} {x y:Src}:kV (.indexAddr n x y)=true:=rfl
theorem Aq {n:Nat} {x:Src}:kV (.extract n x)=true:=rfl
theorem Ao {x:Src}:kV (.len x)=true:=rfl
theorem xR {k:Option Nat} {x:Src}:kV (.load k x)=true:=rfl
theorem Am {xs:List Src}:kV (.min xs)=true:=rfl
theorem An {xs:List Src}:kV (.max xs)=true:=rfl
theorem wA {n:Nat} {z:List AV}:AOp.makes (.alloc n z)=true:=rfl
theorem BA {n:Nat} {x:Src}:AOp.makes (.box n x)=true:=rfl
theorem Dx {n m k:Nat} {z:List AV} {ps:List ((Nat × Nat) × Src)}:AOp.makes (.buildSlice n m z k ps)=true:=rfl
theorem zb {n m k:Nat} {z:List AV} {a b:Src}:AOp.makes (.mksl n m k z a b)=true:=rfl
end
theorem bb {A1 B1:Prop} (a:A1) (b:B1):A1/\B1:=⟨a,b⟩
theorem fe {A1 B1 C1:Prop} (a:A1) (b:B1) (c:C1):A1/\B1/\C1:=⟨a,b,c⟩
theorem dz {A1 B1 C1 D1:Prop} (a:A1) (b:B1) (c:C1) (d:D1):A1/\B1/\C1/\D1:=⟨a,b,c,d⟩
theorem eU {A1 B1 C1 D1 E1:Prop} (a:A1) (b:B1) (c:C1) (d:D1) (e:E1):A1/\B1/\C1/\D1/\E1:=⟨a,b,c,d,e⟩
theorem gD {A1 B1 C1 D1 E1 F1:Prop} (a:A1) (b:B1) (c:C1) (d:D1) (e:E1) (f:F1):A1/\B1/\C1/\D1/\E1/\F1:=⟨a,b,c,d,e,f⟩
theorem lf {A1 B1 C1 D1 E1 F1 G1:Prop} (a:A1) (b:B1) (c:C1) (d:D1) (e:E1) (f:F1) (g:G1):A1/\B1/\C1/\D1/\E1/\F1/\G1:=⟨a,b,c,d,e,f,g⟩
theorem jS {A1 B1 C1 D1 E1 F1 G1 H1:Prop} (a:A1) (b:B1) (c:C1) (d:D1) (e:E1) (f:F1) (g:G1) (h:H1):A1/\B1/\C1/\D1/\E1/\F1/\G1/\H1:=⟨a,b,c,d,e,f,g,h⟩
theorem pd {A1 B1 C1 D1 E1 F1 G1 H1 I1:Prop} (a:A1) (b:B1) (c:C1) (d:D1) (e:E1) (f:F1) (g:G1) (h:H1) (i:I1):A1/\B1/\C1/\D1/\E1/\F1/\G1/\H1/\I1:=⟨a,b,c,d,e,f,g,h,i⟩
theorem fg {A1 B1 C1 D1 E1 F1 G1 H1 I1 J1:Prop} (a:A1) (b:B1) (c:C1) (d:D1) (e:E1) (f:F1) (g:G1) (h:H1) (i:I1) (j:J1):A1/\B1/\C1/\D1/\E1/\F1/\G1/\H1/\I1/\J1:=⟨a,b,c,d,e,f,g,h,i,j⟩
theorem d8 {A1 B1 C1 D1 E1 F1 G1 H1 I1 J1 K1:Prop} (a:A1) (b:B1) (c:C1) (d:D1) (e:E1) (f:F1) (g:G1) (h:H1) (i:I1) (j:J1) (k:K1):A1/\B1/\C1/\D1/\E1/\F1/\G1/\H1/\I1/\J1/\K1:=⟨a,b,c,d,e,f,g,h,i,j,k⟩
theorem dC {A1 B1 C1 D1 E1 F1 G1 H1 I1 J1 K1 L1:Prop} (a:A1) (b:B1) (c:C1) (d:D1) (e:E1) (f:F1) (g:G1) (h:H1) (i:I1) (j:J1) (k:K1) (l:L1):A1/\B1/\C1/\D1/\E1/\F1/\G1/\H1/\I1/\J1/\K1/\L1:=⟨a,b,c,d,e,f,g,h,i,j,k,l⟩
theorem gt {A1 B1 C1 D1 E1 F1 G1 H1 I1 J1 K1 L1 M1:Prop} (a:A1) (b:B1) (c:C1) (d:D1) (e:E1) (f:F1) (g:G1) (h:H1) (i:I1) (j:J1) (k:K1) (l:L1) (m:M1):A1/\B1/\C1/\D1/\E1/\F1/\G1/\H1/\I1/\J1/\K1/\L1/\M1:=⟨a,b,c,d,e,f,g,h,i,j,k,l,m⟩
theorem lh {A1 B1 C1 D1 E1 F1 G1 H1 I1 J1 K1 L1 M1 N1:Prop} (a:A1) (b:B1) (c:C1) (d:D1) (e:E1) (f:F1) (g:G1) (h:H1) (i:I1) (j:J1) (k:K1) (l:L1) (m:M1) (n:N1):A1/\B1/\C1/\D1/\E1/\F1/\G1/\H1/\I1/\J1/\K1/\L1/\M1/\N1:=⟨a,b,c,d,e,f,g,h,i,j,k,l,m,n⟩
theorem mU {A1 B1 C1 D1 E1 F1 G1 H1 I1 J1 K1 L1 M1 N1 O1:Prop} (a:A1) (b:B1) (c:C1) (d:D1) (e:E1) (f:F1) (g:G1) (h:H1) (i:I1) (j:J1) (k:K1) (l:L1) (m:M1) (n:N1) (o:O1):A1/\B1/\C1/\D1/\E1/\F1/\G1/\H1/\I1/\J1/\K1/\L1/\M1/\N1/\O1:=⟨a,b,c,d,e,f,g,h,i,j,k,l,m,n,o⟩
theorem lX {A1 B1 C1 D1 E1 F1 G1 H1 I1 J1 K1 L1 M1 N1 O1 P1:Prop} (a:A1) (b:B1) (c:C1) (d:D1) (e:E1) (f:F1) (g:G1) (h:H1) (i:I1) (j:J1) (k:K1) (l:L1) (m:M1) (n:N1) (o:O1) (p:P1):A1/\B1/\C1/\D1/\E1/\F1/\G1/\H1/\I1/\J1/\K1/\L1/\M1/\N1/\O1/\P1:=⟨a,b,c,d,e,f,g,h,i,j,k,l,m,n,o,p⟩
theorem sQ {A1 B1 C1 D1 E1 F1 G1 H1 I1 J1 K1 L1 M1 N1 O1 P1 Q1:Prop} (a:A1) (b:B1) (c:C1) (d:D1) (e:E1) (f:F1) (g:G1) (h:H1) (i:I1) (j:J1) (k:K1) (l:L1) (m:M1) (n:N1) (o:O1) (p:P1) (q:Q1):A1/\B1/\C1/\D1/\E1/\F1/\G1/\H1/\I1/\J1/\K1/\L1/\M1/\N1/\O1/\P1/\Q1:=⟨a,b,c,d,e,f,g,h,i,j,k,l,m,n,o,p,q⟩
theorem Fi {A1 B1 C1 D1 E1 F1 G1 H1 I1 J1 K1 L1 M1 N1 O1 P1 Q1 R1:Prop} (a:A1) (b:B1) (c:C1) (d:D1) (e:E1) (f:F1) (g:G1) (h:H1) (i:I1) (j:J1) (k:K1) (l:L1) (m:M1) (n:N1) (o:O1) (p:P1) (q:Q1) (r:R1):A1/\B1/\C1/\D1/\E1/\F1/\G1/\H1/\I1/\J1/\K1/\L1/\M1/\N1/\O1/\P1/\Q1/\R1:=⟨a,b,c,d,e,f,g,h,i,j,k,l,m,n,o,p,q,r⟩
theorem vG {A1 B1 C1 D1 E1 F1 G1 H1 I1 J1 K1 L1 M1 N1 O1 P1 Q1 R1 S1 T1:Prop} (a:A1) (b:B1) (c:C1) (d:D1) (e:E1) (f:F1) (g:G1) (h:H1) (i:I1) (j:J1) (k:K1) (l:L1) (m:M1) (n:N1) (o:O1) (p:P1) (q:Q1) (r:R1) (s:S1) (t:T1):A1/\B1/\C1/\D1/\E1/\F1/\G1/\H1/\I1/\J1/\K1/\L1/\M1/\N1/\O1/\P1/\Q1/\R1/\S1/\T1:=⟨a,b,c,d,e,f,g,h,i,j,k,l,m,n,o,p,q,r,s,t⟩
theorem Fh {A1 B1 C1 D1 E1 F1 G1 H1 I1 J1 K1 L1 M1 N1 O1 P1 Q1 R1 S1 T1 U1 V1:Prop} (a:A1) (b:B1) (c:C1) (d:D1) (e:E1) (f:F1) (g:G1) (h:H1) (i:I1) (j:J1) (k:K1) (l:L1) (m:M1) (n:N1) (o:O1) (p:P1) (q:Q1) (r:R1) (s:S1) (t:T1) (u:U1) (v:V1):A1/\B1/\C1/\D1/\E1/\F1/\G1/\H1/\I1/\J1/\K1/\L1/\M1/\N1/\O1/\P1/\Q1/\R1/\S1/\T1/\U1/\V1:=⟨a,b,c,d,e,f,g,h,i,j,k,l,m,n,o,p,q,r,s,t,u,v⟩
theorem xT {A1 B1 C1 D1 E1 F1 G1 H1 I1 J1 K1 L1 M1 N1 O1 P1 Q1 R1 S1 T1 U1 V1 W1:Prop} (a:A1) (b:B1) (c:C1) (d:D1) (e:E1) (f:F1) (g:G1) (h:H1) (i:I1) (j:J1) (k:K1) (l:L1) (m:M1) (n:N1) (o:O1) (p:P1) (q:Q1) (r:R1) (s:S1) (t:T1) (u:U1) (v:V1) (w:W1):A1/\B1/\C1/\D1/\E1/\F1/\G1/\H1/\I1/\J1/\K1/\L1/\M1/\N1/\O1/\P1/\Q1/\R1/\S1/\T1/\U1/\V1/\W1:=⟨a,b,c,d,e,f,g,h,i,j,k,l,m,n,o,p,q,r,s,t,u,v,w⟩
theorem Fg {A1 B1 C1 D1 E1 F1 G1 H1 I1 J1 K1 L1 M1 N1 O1 P1 Q1 R1 S1 T1 U1 V1 W1 X1:Prop} (a:A1) (b:B1) (c:C1) (d:D1) (e:E1) (f:F1) (g:G1) (h:H1) (i:I1) (j:J1) (k:K1) (l:L1) (m:M1) (n:N1) (o:O1) (p:P1) (q:Q1) (r:R1) (s:S1) (t:T1) (u:U1) (v:V1) (w:W1) (x:X1):A1/\B1/\C1/\D1/\E1/\F1/\G1/\H1/\I1/\J1/\K1/\L1/\M1/\N1/\O1/\P1/\Q1/\R1/\S1/\T1/\U1/\V1/\W1/\X1:=⟨a,b,c,d,e,f,g,h,i,j,k,l,m,n,o,p,q,r,s,t,u,v,w,x⟩
def iJ:=And.intro (And.intro (And.intro (And.intro (And.intro (And.intro (@yN) (@yM)) (And.intro (@vZ) (@vY))) (And.intro (And.intro (@zY) (@zS)) (And.intro (@xu) (@xv)))) (And.intro (And.intro (And.intro (@yQ) (@yP)) (And.intro (@wc) (@rS))) (And.intro (And.intro (@zh) (@wF)) (And.intro (@wE) (And.intro (@At) (@CM)))))) (And.intro (And.intro (And.intro (And.intro (@AC) (@rf)) (And.intro (@AA) (@Az))) (And.intro (And.intro (@CN) (@xZ)) (And.intro (@Ax) (@x6)))) (And.intro (And.intro (And.intro (@nw) (@pS)) (And.intro (@Cq) (@Aw))) (And.intro (And.intro (@ye) (@AD)) (And.intro (@pC) (And.intro (@oh) (@sw))))))) (And.intro (And.intro (And.intro (And.intro (And.intro (@ou) (@Au)) (And.intro (@sS) (@Ek))) (And.intro (And.intro (@AB) (@CQ)) (And.intro (@CR) (@Em)))) (And.intro (And.intro (And.intro (@ya) (@CS)) (And.intro (@yd) (@x8))) (And.intro (And.intro (@xY) (@Ay)) (And.intro (@xX) (And.intro (@CU) (@El)))))) (And.intro (And.intro (And.intro (And.intro (@oI) (@CT)) (And.intro (@CP) (@CO))) (And.intro (And.intro (@sR) (@vH)) (And.intro (@yW) (And.intro (@yV) (@zz))))) (And.intro (And.intro (And.intro (@zy) (@wU)) (And.intro (@wV) (@AL))) (And.intro (And.intro (@AK) (@yn)) (And.intro (@yo) (And.intro (@yb) (@re)))))))
def iI:=And.intro (And.intro (And.intro (And.intro (And.intro (And.intro (And.intro (@mc) (@pC)) (And.intro (@oh) (@sw))) (And.intro (And.intro (@ou) (@tZ)) (And.intro (@ql) (And.intro (@uA) (@wS))))) (And.intro (And.intro (And.intro (@DU) (@ET)) (And.intro (@l5) (And.intro (@wq) (@Nat.add_assoc)))) (And.intro (And.intro (@Cg) (@Cc)) (And.intro (@vw) (And.intro (@Cd) (@Ce)))))) (And.intro (And.intro (And.intro (And.intro (@Cf) (@zJ)) (And.intro (@wu) (And.intro (@Da) (@Ci)))) (And.intro (And.intro (@Ch) (@BD)) (And.intro (@BB) (And.intro (@D5) (@Cb))))) (And.intro (And.intro (And.intro (@List.length_set.{0}) (And.intro (@if_true.{1}) (@if_true.{0}))) (And.intro (And.intro (@if_false.{1}) (@if_false.{0})) (And.intro (@List.length_cons.{0}) (@List.length_nil.{0})))) (And.intro (And.intro (@List.map_cons.{0,0}) (@List.map_nil.{0,0})) (And.intro (@List.append_nil.{0}) (And.intro (@List.nil_append.{0}) (@List.cons_append.{0}))))))) (And.intro (And.intro (And.intro (And.intro (And.intro (@Option.map_some.{0,0}) (@Option.map_none.{0,0})) (And.intro (@Bool.not_true) (And.intro (@Bool.not_false) (@Bool.not_eq_true)))) (And.intro (And.intro (@decide_eq_true_eq) (@Bool.not_eq_true')) (And.intro (@decide_eq_false_iff_not) (And.intro (@Bool.false_eq_true) (@true_or))))) (And.intro (And.intro (And.intro (@or_true) (@true_and)) (And.intro (@and_true) (And.intro (@false_or) (@or_false)))) (And.intro (And.intro (@ne_eq.{1}) (@not_false_eq_true)) (And.intro (@not_true_eq_false) (And.intro (@eq_self.{1}) (@Nat.zero_add)))))) (And.intro (And.intro (And.intro (And.intro (@Nat.add_zero) (@rW)) (And.intro (@tL) (And.intro (@tY) (@sq)))) (And.intro (And.intro (@Et) (@Dr)) (And.intro (@BS) (And.intro (@fO) (@next_put))))) (And.intro (And.intro (And.intro (@next_kill) (@Dn)) (And.intro (@Dm) (And.intro (@Dl) (@yT)))) (And.intro (And.intro (@wm) (@yX)) (And.intro (@vT) (And.intro (@vS) (@DC)))))))) (And.intro (And.intro (And.intro (And.intro (And.intro (And.intro (@py) (@qC)) (And.intro (@aq) (And.intro (@bo) (@fH)))) (And.intro (And.intro (@Dj) (@zi)) (And.intro (@FK) (And.intro (@FJ) (@FI))))) (And.intro (And.intro (And.intro (@Fl) (@Fk)) (And.intro (@EP) (And.intro (@EO) (@DZ)))) (And.intro (And.intro (@zR) (@E3)) (And.intro (@ay) (And.intro (@aA) (@aM)))))) (And.intro (And.intro (And.intro (And.intro (@bh) (@aO)) (And.intro (@Nat.add_eq) (And.intro (@List.take_zero.{0}) (@List.drop_zero.{0})))) (And.intro (And.intro (@List.take_succ_cons.{0}) (@List.drop_succ_cons.{0})) (And.intro (@List.append_eq.{0}) (And.intro (@decide_true) (@decide_false))))) (And.intro (And.intro (And.intro (@Bool.and_true) (@Bool.and_false)) (And.intro (@Bool.true_and) (And.intro (@Bool.false_and) (@Int.lt_irrefl)))) (And.intro (And.intro (@Ez) (@FL)) (And.intro (@wB) (And.intro (@List.set_cons_zero.{0}) (@List.set_cons_succ.{0}))))))) (And.intro (And.intro (And.intro (And.intro (And.intro (@Int.ofNat_lt) (@Int.ofNat_le)) (And.intro (@Int.natCast_inj) (And.intro (@Int.natCast_pos) (@tw)))) (And.intro (And.intro (@wp) (@List.zip_cons_cons.{0,0})) (And.intro (@List.zip_nil_left.{0,0}) (And.intro (@List.zip_nil_right.{0,0}) (@Fv))))) (And.intro (And.intro (And.intro (@Fu) (@Ft)) (And.intro (@DR) (And.intro (@xe) (@By)))) (And.intro (And.intro (@Dw) (@DP)) (And.intro (@DQ) (And.intro (@D4) (@DV)))))) (And.intro (And.intro (And.intro (And.intro (@Db) (@xE)) (And.intro (@xw) (And.intro (@xA) (@xC)))) (And.intro (And.intro (@xz) (@pI)) (And.intro (@uj) (And.intro (@xy) (@wM))))) (And.intro (And.intro (And.intro (@wL) (@A4)) (And.intro (@zk) (And.intro (@nn) (@qw)))) (And.intro (And.intro (@DJ) (@Nat.mul_one)) (And.intro (@Fr) (And.intro (@Fq) (@EN))))))))
def Cu:=And.intro (And.intro (And.intro (@C5) (And.intro (@AO) (@yq))) (And.intro (@AN) (And.intro (@C8) (@BX)))) (And.intro (And.intro (@DA) (And.intro (@BH) (@BG))) (And.intro (And.intro (@BF) (@ze)) (And.intro (@DE) (@BP))))
def Ct:=And.intro (And.intro (And.intro (And.intro (And.intro (@yB) (@yA)) (And.intro (@yz) (@sY))) (And.intro (And.intro (@yx) (@yy)) (And.intro (@xI) (And.intro (@uo) (@rD))))) (And.intro (And.intro (And.intro (@tz) (@List.length_replicate.{0})) (And.intro (@List.getD_cons_zero.{0}) (@List.getD_cons_succ.{0}))) (And.intro (And.intro (@List.getLastD_cons.{0}) (@List.getLastD_nil.{0})) (And.intro (@CK) (And.intro (@xP) (@vE)))))) (And.intro (And.intro (And.intro (And.intro (@vC) (@As)) (And.intro (@CJ) (@xS))) (And.intro (And.intro (@xQ) (@vB)) (And.intro (@CL) (And.intro (@vD) (@Ap))))) (And.intro (And.intro (And.intro (@Aq) (@Ao)) (And.intro (@xR) (@Am))) (And.intro (And.intro (@An) (@wA)) (And.intro (@BA) (And.intro (@Dx) (@zb))))))
def FD:=And.intro (And.intro (@DG) (@BQ)) (And.intro (@EH) (And.intro (@DF) (@BR)))
def FG:=And.intro (@C4) (And.intro (@Ep) (@AM))
theorem zW {F P Q:Prop} (f:F) (q:Q) (h:F->Q->P:=by intro h q; simp -dsimp (maxSteps:=1000000) (disch:=(first | omega | assumption | exact ay _ | exact aA _ _ | exact aM | exact bh _ _ _ | exact aO _ _ | exact aP _ _ _ _ _ _ | exact bd _ _ | exact aR _)) only [↓iJ,iI,Nat.reduceLT,Nat.reduceEqDiff,Nat.reduceAdd,↓reduceIte,reduceCtorEq,Nat.reduceBEq,Int.reduceEq,Int.reduceLT,Int.reduceLE,Int.reduceAdd,Int.reduceSub,h]; exact q):P:=h f q
theorem zV {F P:Prop} (f:F) (h:F->P:=by intro h; simp -dsimp (maxSteps:=1000000) (disch:=(first | omega | assumption | exact ay _ | exact aA _ _ | exact aM | exact bh _ _ _ | exact aO _ _ | exact aP _ _ _ _ _ _ | exact bd _ _ | exact aR _)) only [↓iJ,iI,Nat.reduceLT,Nat.reduceEqDiff,Nat.reduceAdd,↓reduceIte,reduceCtorEq,Nat.reduceBEq,Int.reduceEq,Int.reduceLT,Int.reduceLE,Int.reduceAdd,Int.reduceSub,h]):P:=h f
theorem oH {P:Prop} (h:P:=by simp -dsimp (maxSteps:=1000000) (disch:=(first | omega | assumption | exact ay _ | exact aA _ _ | exact aM | exact bh _ _ _ | exact aO _ _ | exact aP _ _ _ _ _ _ | exact bd _ _ | exact aR _)) only [↓iJ,iI,Nat.reduceLT,Nat.reduceEqDiff,Nat.reduceAdd,↓reduceIte,reduceCtorEq,Nat.reduceBEq,Int.reduceEq,Int.reduceLT,Int.reduceLE,Int.reduceAdd,Int.reduceSub]):P:=h
theorem zD {F P Q:Prop} (f:F) (q:Q) (h:F->Q->P:=by intro h q; simp -dsimp (maxSteps:=1000000) (disch:=(first | omega | assumption | exact ay _ | exact aA _ _ | exact aM | exact bh _ _ _ | exact aO _ _ | exact aP _ _ _ _ _ _ | exact bd _ _ | exact aR _)) only [↓iJ,iI,↓Cu,Ct,Nat.reduceLT,Nat.reduceEqDiff,Nat.reduceAdd,↓reduceIte,reduceCtorEq,Nat.reduceBEq,Int.reduceEq,Int.reduceLT,Int.reduceLE,Int.reduceAdd,Int.reduceSub,h]; exact q):P:=h f q
theorem zE {F P:Prop} (f:F) (h:F->P:=by intro h; simp -dsimp (maxSteps:=1000000) (disch:=(first | omega | assumption | exact ay _ | exact aA _ _ | exact aM | exact bh _ _ _ | exact aO _ _ | exact aP _ _ _ _ _ _ | exact bd _ _ | exact aR _)) only [↓iJ,iI,↓Cu,Ct,Nat.reduceLT,Nat.reduceEqDiff,Nat.reduceAdd,↓reduceIte,reduceCtorEq,Nat.reduceBEq,Int.reduceEq,Int.reduceLT,Int.reduceLE,Int.reduceAdd,Int.reduceSub,h]):P:=h f
theorem zK {P:Prop} (h:P:=by first | assumption | simp (disch:=(first | omega | assumption | (simp only [fO,next_put,next_kill]; omega))) only [FD] <;> assumption):P:=h
theorem zF {P:Prop} (h:P:=by first | assumption | simp (disch:=(first | omega | assumption | (simp only [fO,next_put,next_kill]; omega))) only [FG] <;> assumption):P:=h
theorem zO {P:Prop} (h:P:=by omega):P:=h
theorem zU {P:Prop} (h:P:=by decide):P:=h
theorem zG (A:Heap) {G:Heap} (h:Kp A G:=by first | assumption | simp (disch:=(first | omega | assumption | (simp only [fO,next_put,next_kill]; omega))) only [FD] <;> assumption):Sub A G:=h.sub
theorem zT (A:Heap) {G C:Heap} (h:Kp A G) (h2:Kp G C):Kp A C/\A.next<=C.next/\Wf C:=⟨h.trans h2,(h.trans h2).le,h2.wf⟩
end Go.Proofs.Ytekmejlgocineaa.Ev
