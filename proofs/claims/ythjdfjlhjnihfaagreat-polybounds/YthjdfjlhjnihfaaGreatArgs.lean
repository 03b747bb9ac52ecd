/- A part. -/
import Derived.Test.YthjdfjlhjnihfaaGreatA0
import Derived.Test.YthjdfjlhjnihfaaGreatSize2
import Derived.ChangeArms
import Derived.DataReads
import Derived.Test.YthjdfjlhjnihfaaGreatN39
set_option linter.all false
namespace Go.Proofs.YthjdfjlhjnihfaaGreat.Ev
open Go Nn
def wq {β:Type} {P:Nat->β->Prop}:∀ n,(∀ i,i<n->∃ y,P i y)->∃ l:List β,l.length=n/\∀ i (h:i<l.length),P i l[i]
 | 0,_=>⟨[],rfl,fun i h=>by simp at h⟩
 | n+1,h=>by
  obtain ⟨l,h1,h2⟩:=wq n fun i hi=>h i zO;obtain ⟨y,hy⟩:=h n zO;refine ⟨l++[y],by simp [h1],fun i hi=>?_⟩;by_cases hin:i<l.length
  ·rw [Zr hin]; exact h2 i hin
  ·have:i=n:=by rw [Vg] at hi; simp at hi; omega
   subst this;rw [Zg zO]
   simpa [h1] using hy
def HH {β:Type} {sz:Nat} {f:β->List AV}:∀ (l:List β),(∀ y∈l,(f y).length=sz)->(l.flatMap f).length=l.length*sz/\∀ i (h:i<l.length) k,k<sz->(l.flatMap f)[i*sz+k]? = (f l[i])[k]?
 | [],_=>⟨by simp,fun i h=>by simp at h⟩
 | y :: l,h=>by
  obtain ⟨h1,h2⟩:=HH l fun z hz=>h z (Ct _ hz);have hy:=h y (N0 ..);refine ⟨by rw [List.flatMap_cons,Vg,h1,hy,VV,WF]; omega,fun i hi k hk=>?_⟩;rw [List.flatMap_cons];cases i with
  | zero=>rw [Vw zO]; simp
  | succ i =>
   rw [VN (by rw [WF]; omega),hy];have e:(i+1)*sz+k-sz=i*sz+k:=by rw [WF]; omega
   rw [e,h2 i (by simpa using hi) k hk]
   simp
def vw {HT:Type}:DataW HT->List (DataW HT)
 | .slice l _=>l
 | _=>[]
def P5 {HT:Type}:DataW HT->List (DataW HT)
 | .agg l=>l
 | _=>[]
def F5 {HT:Type} (y:DataW HT) (z:Bool × List Nat):Prop:=∃ y2∈P5 y,z.2.length<=(vw y2).length
section
variable {HT:Type} {enc:TypeId × Value->HT} {P:Program} {w:World} {base:Nat} {sp:Nat->Bool} {held:Bool} {μ:Mu} {F:Nat->Prop} {H:Heap} {α:Type}
def xW {E:fh α} {ty:Nat} {good:DataW HT->α->Prop} {t e:TypeId} (hF:∀ c,c<w.heap.size->F c) (ht:P.underlying t=some (.slice e)) (hsz:P.cellsOf e=E.sz)
  (helem:∀ fuel cs x,DataW.trod enc P w base sp held fuel e cs=some x->∃ acs z,LR μ F w acs cs/\E.R H acs z/\good x.1 z)
  {fuel:Nat} {cs:List Value} {x:DataW HT × List MemPlace} (h:DataW.trod enc P w base sp held fuel t cs=some x) :
  ∃ v av zs,cs=[v]/\VR μ F w av v/\SlV E ty H av zs/\(∀ z∈zs,∃ y∈vw x.1,good y z)/\zs.length<=maxLen/\zs.length<=(vw x.1).length:=by
 rcases DataW.trod_slice ht h with ⟨rfl,-⟩ | ⟨a,len,cap,elems,rest,n,-,rfl,ex,hb,hl,hc,hlen,hel,-⟩
 ·exact ⟨_,.nilSl,[],rfl,.nilSl,SlV.nil _ _ _,(fun z h=>by cases h),II _,II _⟩
 ·rcases W6 len with h0 | h0
  ·subst h0;refine ⟨_,.sl [] 0,[],rfl,.sl0 a cap,⟨[],⟨trivial,(fun s h=>by cases h),0,rfl,by simp [aL]⟩,(fun _ _ _ _ _ _ e=>by cases e),by simp,fun i a h=>by simp at h⟩,fun z h=>(by cases h),II _,II _⟩
  ·have hp:=E.pos;obtain ⟨L,hL1,hL2⟩:=wq (P:=fun i (y:List AV × List Value × α)=>w.cells? base (a.add (i*E.sz)) E.sz=some y.2.1/\LR μ F w y.1 y.2.1/\E.R H y.1 y.2.2/\∃ h:i<elems.length,good elems[i].1 y.2.2) len fun i hi=>by
    have h1:=hel i hi;rw [pD zO,hsz] at h1;obtain ⟨cs,h2,h3⟩:=bV.1 h1;obtain ⟨acs,z,h4,h5,h6⟩:=helem _ _ _ h3;exact ⟨(acs,cs,z),h2,h4,h5,zO,h6⟩
   have hsizes:∀ y∈L,y.1.length=E.sz:=fun y hy=>by
    obtain ⟨i,hi,rfl⟩:=V6 hy;exact (E.len (hL2 i hi).2.2.1).1
   obtain ⟨hfl,hfa⟩:=HH (f:=fun y:List AV × List Value × α=>y.1) L hsizes;have hcell:∀ i (hi:i<L.length) k,k<E.sz->w.cell? (a.add (i*E.sz) |>.add k)=(L[i]).2.1[k]?:=fun i hi k hk=>((World.cells?_some (hL2 i hi).1).2.2 k hk)
   obtain ⟨v0,hv0⟩:∃ v0,w.cell? a=some v0:=by
    have h1:=hcell 0 zO 0 hp;have h2:=(World.cells?_some (hL2 0 zO).1).2.1;rw [pD zO] at h1;simp [Addr.add] at h1;exact ⟨_,h1⟩
   obtain ⟨arr,ety,fr,hblk,hspot⟩:∃ arr ety fr,w.heap[a.block]? = some (.cells arr ety fr)/\a.spot=none:=by
    unfold World.cell? at hv0;split at hv0
    ·rename_i c ety fr hb;refine ⟨c,ety,fr,hb,?_⟩;cases hs:a.spot with
     | none=>rfl
     | some s=>rw [hs] at hv0; simp at hv0
    ·cases hv0
   obtain ⟨blk,off,spot⟩:=a;simp only at hspot hblk hb;subst hspot;have hat:∀ i (hi:i<L.length) k,k<E.sz->arr[off+(i*E.sz+k)]? = (L[i]).2.1[k]?:=fun i hi k hk=>by
    rw [<- hcell i hi k hk];have e:((⟨blk,off,none⟩:Addr).add (i*E.sz) |>.add k)=⟨blk,off+(i*E.sz+k),none⟩:=by
     unfold Addr.add;by_cases h1:i*E.sz=0
     ·by_cases h2:k=0
      ·simp [h1,h2]
      ·simp [h1,h2]
     ·by_cases h2:k=0
      ·simp [h1,h2]
      ·simp [h1,h2]; omega
    rw [e];simp [World.cell?,hblk]
   have hvl:∀ i (hi:i<L.length),(L[i]).2.1.length=E.sz:=fun i hi=>(World.cells?_some (hL2 i hi).1).2.1;have hsize:off+(L.flatMap fun y=>y.1).length<=arr.size:=by
    have h1:=hat (len-1) zO (E.sz-1) zO;rw [pD (by have:=hvl (len-1) zO; omega)] at h1;have h2:=(V4.1 h1).1;rw [hfl,hL1];have h3:len*E.sz=(len-1)*E.sz+E.sz:=by
     obtain ⟨m,rfl⟩:∃ m,len=m+1:=⟨len-1,zO⟩
     rw [WF,W7]
    omega
   refine ⟨_,.sl (L.flatMap fun y=>y.1) len,L.map fun y=>y.2.2,rfl,.sl _ _ _ blk off arr ety fr (hF _ (V4.1 hblk).1) hblk hl hsize fun j c v hc hv=>?_,⟨L.flatMap fun y=>y.1,⟨trivial,(fun s h=>by cases h),len,rfl,?_⟩,(fun _ _ _ _ _ _ e=>by cases e),?_,fun i z hz=>?_⟩,fun z hz=>?_,by rw [B8,hL1]; omega,by rw [B8,hL1,ex]; simp [vw,hlen]⟩
   ·have hj:=(I6.1 hc).1;rw [hfl] at hj;have hi:j / E.sz<L.length:=(Vr hp).2 hj;have hk:j % E.sz<E.sz:=VO _ hp;have hjk:j / E.sz*E.sz+j % E.sz=j:=Yf j E.sz;have h1:=hfa _ hi _ hk;have h2:=hat _ hi _ hk;rw [hjk] at h1 h2;rw [hc] at h1;rw [hv] at h2;exact (hL2 _ hi).2.1.2 _ _ _ h1.symm h2.symm
   ·simp only [aL];rw [if_pos ⟨wT _,by rw [hfl,hL1]; exact wT _⟩,Vl (by rw [hfl,hL1]; exact wT _)]
   ·rw [hfl,B8]
   ·rw [VT,Ai] at hz;obtain ⟨y,hy,rfl⟩:=hz;obtain ⟨hi,rfl⟩:=I6.1 hy;have e:(((L.flatMap fun y=>y.1).drop (i*E.sz)).take E.sz)=L[i].1:=by
     apply Wz
     intro k;rw [Vm];have hl1:=hsizes _ (rZ hi);split
     ·rename_i hk;rw [Vn]; exact hfa i hi k hk
     ·exact (VC zO).symm
    rw [e];exact (hL2 i hi).2.2.1
   ·obtain ⟨y,hy,rfl⟩:=uL.1 hz;obtain ⟨i,hi,rfl⟩:=V6 hy;obtain ⟨h1,h2⟩:=(hL2 i hi).2.2.2;rw [ex];exact ⟨_,uL.2 ⟨_,rZ h1,rfl⟩,h2⟩
def NJ {E:fh α} {ty:Nat} {good:α->Prop} {t e:TypeId} (hF:∀ c,c<w.heap.size->F c) (ht:P.underlying t=some (.slice e)) (hsz:P.cellsOf e=E.sz)
  (helem:∀ fuel cs x,DataW.trod enc P w base sp held fuel e cs=some x->∃ acs z,LR μ F w acs cs/\E.R H acs z/\good z)
  {fuel:Nat} {cs:List Value} {x:DataW HT × List MemPlace} (h:DataW.trod enc P w base sp held fuel t cs=some x) :
  ∃ v av zs,cs=[v]/\VR μ F w av v/\SlV E ty H av zs/\(∀ z∈zs,good z)/\zs.length<=maxLen:=by
 obtain ⟨v,av,zs,h1,h2,h3,h4,h5,-⟩:=xW (good:=fun _ z=>good z) hF ht hsz helem h;exact ⟨v,av,zs,h1,h2,h3,fun z hz=>(h4 z hz).elim fun _ h=>h.2,h5⟩
def IC {t:TypeId} (ht:P.underlying t=some (.int .u64)) {fuel:Nat} {cs:List Value} {x:DataW HT × List MemPlace} (h:DataW.trod enc P w base sp held fuel t cs=some x) :
  ∃ acs z,LR μ F w acs cs/\(bT cm).R H acs z/\z<18446744073709551616:=by
 obtain ⟨n,rfl,-,hw⟩:=DataW.trod_int ht h;have hr:0<=n/\n<18446744073709551616:=by
  have h1:IntKind.u64.min=0:=by decide
  have h2:IntKind.u64.max=18446744073709551615:=by decide
  unfold Lit.wf at hw;simp [h1,h2] at hw;omega
 refine ⟨[.int .u64 n],n.toNat,LR.cons (.int _ _) LR.nil,⟨_,rfl,?_⟩,zO⟩;show AV.int .u64 n=.int .u64 (n.toNat:Int);rw [ZU hr.1]
def La {t e:TypeId} (hF:∀ c,c<w.heap.size->F c) (ht:P.underlying t=some (.slice e)) (he:P.underlying e=some (.int .u64)) (hsz:P.cellsOf e=1) {fuel:Nat} {cs:List Value} {x:DataW HT × List MemPlace} (h:DataW.trod enc P w base sp held fuel t cs=some x) :
  ∃ v av zs,cs=[v]/\VR μ F w av v/\SlV (bT cm) ae H av zs/\(∀ z∈zs,z<18446744073709551616)/\zs.length<=maxLen/\zs.length<=(vw x.1).length:=by
 obtain ⟨v,av,zs,h1,h2,h3,h4,h5⟩:=xW (E:=bT cm) (ty:=ae) (H:=H) (μ:=μ) (good:=fun _ z=>z<18446744073709551616) hF ht hsz (fun fuel cs x h=>IC he h) h;exact ⟨v,av,zs,h1,h2,h3,fun z hz=>(h4 z hz).elim fun _ h=>h.2,h5⟩
def Cx (z:Bool × List Nat):Prop:=(∀ x∈z.2,x<18446744073709551616)/\z.2.length<=maxLen
def K9 {t e:TypeId} {fs:Array Field} {f0 f1:Field} (hF:∀ c,c<w.heap.size->F c) (ht:P.underlying t=some (.struct fs)) (hfs:fs = #[f0,f1]) (h0:f0.offset=0) (h1:f1.offset=1) (hc:P.cellsOf t=2) (hb:P.underlying f0.type=some .bool) (hcb:P.cellsOf f0.type=1) (hn:P.underlying f1.type=some (.slice e)) (hcn:P.cellsOf f1.type=1) (he:P.underlying e=some (.int .u64)) (hce:P.cellsOf e=1)
  {fuel:Nat} {cs:List Value} {x:DataW HT × List MemPlace} (h:DataW.trod enc P w base sp held fuel t cs=some x) :
  ∃ acs z,LR μ F w acs cs/\rawE.R H acs z/\Cx z/\F5 x.1 z:=by
 subst hfs;obtain ⟨xs,n,-,ex,hl,hxl,hx⟩:=DataW.trod_struct ht h;have hxl:xs.length=2:=by simpa using hxl
 rw [hc] at hl
 match cs,hl with
 | [c0,c1],_ =>
  have e0:=hx 0 f0 rfl;have e1:=hx 1 f1 rfl;rw [pD zO,h0,hcb] at e0;rw [pD zO,h1,hcn] at e1;have m1:xs[1]∈xs:=rZ _;obtain ⟨b,g0,-⟩:=DataW.trod_bool hb e0;obtain ⟨v,av,zs,g1,g2,g3,g4,g5,g6⟩:=La (H:=H) (μ:=μ) hF hn he hce e1;have q0:c0=.bool b:=by simpa using g0
  have q1:c1=v:=by simpa using g1
  clear g0 g1;subst q0; subst q1;exact ⟨[.bool b,av],(b,zs),LR.cons (.bool _) (LR.cons g2 LR.nil),⟨av,rfl,g3⟩,⟨g4,g5⟩,by rw [ex]; exact ⟨_,uL.2 ⟨_,m1,rfl⟩,g6⟩⟩
structure RowTys (P:Program) (tvs tv ti te:TypeId):Prop where
 vs:P.underlying tvs=some (.slice tv)
 cv:P.cellsOf tv=1
 v:P.underlying tv=some (.slice ti)
 ci:P.cellsOf ti=2
 i:∃ f0 f1:Field,P.underlying ti=some (.struct #[f0,f1])/\f0.offset=0/\f1.offset=1/\P.underlying f0.type=some .bool/\P.cellsOf f0.type=1/\P.underlying f1.type=some (.slice te)/\P.cellsOf f1.type=1
 e:P.underlying te=some (.int .u64)
 ce:P.cellsOf te=1
abbrev RW (H:Heap) (v:AV) (l:List (Bool × List Nat)):Prop:=SlV rawE aa H v l
def jU (l:List (Bool × List Nat)):Prop:=(∀ z∈l,Cx z)/\l.length<=maxLen
def K8 {tvs tv ti te:TypeId} (hP:RowTys P tvs tv ti te) (hF:∀ c,c<w.heap.size->F c) {fuel:Nat} {cs:List Value} {x:DataW HT × List MemPlace} (h:DataW.trod enc P w base sp held fuel tv cs=some x) :
  ∃ v av l,cs=[v]/\VR μ F w av v/\RW H av l/\jU l/\∀ z∈l,∃ y∈vw x.1,F5 y z:=by
 obtain ⟨f0,f1,i1,i2,i3,i4,i5,i6,i7⟩:=hP.i;obtain ⟨v,av,l,g1,g2,g3,g4,g5,-⟩:=xW (E:=rawE) (ty:=aa) (H:=H) (μ:=μ) (good:=fun y z=>Cx z/\F5 y z) hF hP.v hP.ci (fun fuel cs x h=>K9 hF i1 rfl i2 i3 hP.ci i4 i5 i6 i7 hP.e hP.ce h) h;exact ⟨v,av,l,g1,g2,g3,⟨fun z hz=>(g4 z hz).elim fun _ h=>h.2.1,g5⟩,fun z hz=>(g4 z hz).imp fun y h=>⟨h.1,h.2.2⟩⟩
end
def fE (z:Bool × List Nat):Int:=if z.1=true then -(val z.2:Int) else (val z.2:Int)
def IW:∀ {z:Bool × List Nat},SK z=false->Lim z.2->eR (fE z)=z
 | (b,l),hb,hl=>by
  simp only [SK,WE,decide_eq_false_iff_not,X6] at hb;obtain ⟨h1,h2⟩:=hb;have hn:Kq l:=h1;have hv:=uX hl hn;cases b with
  | false =>
   have e:fE (false,l)=(val l:Int):=rfl;rw [e];unfold eR;rw [decide_eq_false zO,WT,hv]
  | true =>
   have e:fE (true,l) = -(val l:Int):=rfl;have hne:l≠[]:=fun e=>by subst e; simp at h2
   have hp:0<B^(l.length-1):=VL (by decide);have hq:=xB hn hne;rw [e];unfold eR;rw [decide_eq_true zO,WL,WT,hv]
def SlV.int {ty:Nat} {H:Heap} {v:AV} {l:List (Bool × List Nat)} (h:SlV rawE ty H v l) (hb:∀ z∈l,SK z=false/\Lim z.2):SlV intE ty H v (l.map fE):=by
 obtain ⟨cells,hr,ht,hc,ha⟩:=h;refine ⟨cells,hr,ht,by rw [hc,B8]; rfl,fun i a hi=>?_⟩;rw [VT,Ai] at hi;obtain ⟨z,hz,rfl⟩:=hi;obtain ⟨w,h1,h2⟩:=ha i z hz;have hm:=hb z (Ve hz);have e:=IW hm.1 hm.2;have e1:decide (fE z<0)=z.1:=congrArg Prod.fst e;have e2:ag (fE z).natAbs=z.2:=congrArg Prod.snd e;refine ⟨w,by rw [e1]; exact h1,?_⟩;show Lb H w (ag (fE z).natAbs);rw [e2]; exact h2
section
open Go.ChangeShapes Go.WideShapes
variable {HT:Type} {enc:TypeId × Value->HT} {P:Program} {w:World} {base base':Nat} {sp:Nat->Bool} {held:Bool} {μ:Mu} {F:Nat->Prop} {H:Heap}
def open_vec {tvs tv ti te:TypeId} (hP:RowTys P tvs tv ti te) (hF:∀ c,c<w.heap.size->F c) {r:Reach} {v:Value} {d:DataW HT} {ps:List MemPlace} (hval:Value.okWide P w r base' tv v) (hd:DataW.Trod enc P w base sp held tv v d ps) :
  ∃ av l,VR μ F w av v/\RW H av l/\jU l/\∀ z∈l,∃ y∈vw d,F5 y z:=by
 obtain ⟨a,n,c,rfl⟩:=okWide_slice hP.v hval;obtain ⟨fuel,h⟩:=hd;obtain ⟨v',av,l,e,g⟩:=K8 (H:=H) (μ:=μ) hP hF h;have e:v'=.slice a n c:=by simpa [Value.cells] using e.symm
 subst e;exact ⟨av,l,g⟩
end
def int_range {n:Int} (h:(Lit.int .i64 n).wf=true) : -9223372036854775808<=n/\n<9223372036854775808:=by
 have h1:IntKind.i64.min = -9223372036854775808:=by decide
 have h2:IntKind.i64.max=9223372036854775807:=by decide
 unfold Lit.wf at h;simp [h1,h2] at h;omega
def Ux {n:Int} (h:(Lit.int .u8 n).wf=true):0<=n/\n<256:=by
 have h1:IntKind.u8.min=0:=by decide
 have h2:IntKind.u8.max=255:=by decide
 unfold Lit.wf at h;simp [h1,h2] at h;omega
def wf_nil:Wf (Heap.nil 0):=fun b e h=>by rw [Tr.nil_get] at h; cases h
def KV {z:Bool × List Nat} {n:Nat} (hl:Lim z.2) (hn:z.2.length<=n):Bt (64*n) (fE z):=by
 have h1:=uy hl;have h2:B^z.2.length<=B^n:=VD (by decide) hn;have h3:B^n=2^(64*n):=by
  have:B=2^64:=by decide
  rw [this,<- Ym]
 unfold Bt fE;split
 ·rw [WL,WT]; omega
 ·rw [WT]; omega
def O5 {α:Type} (E:fh α) (ty:Nat):fh (List α × Bool) where
 sz:=2
 tys:=ty :: E.tys
 R H cs z:=∃ v,cs=[v,.bool z.2]/\SlV E ty H v z.1
 pos:=zO
 len:=by rintro H cs z ⟨v,rfl,h⟩; exact ⟨rfl,by simp [h.one.2]; rfl⟩
 mono:=by rintro H H' cs z hs ⟨v,rfl,h⟩; exact ⟨v,rfl,h.monoT hs⟩
def O3 {α:Type} (E:fh α) (ty:Nat):fh (Nat × List α) where
 sz:=2
 tys:=ty :: E.tys
 R H cs z:=∃ v,cs=[.int .u8 (z.1:Int),v]/\SlV E ty H v z.2
 pos:=zO
 len:=by rintro H cs z ⟨v,rfl,h⟩; exact ⟨rfl,by simp [h.one.2]; rfl⟩
 mono:=by rintro H H' cs z hs ⟨v,rfl,h⟩; exact ⟨v,rfl,h.monoT hs⟩
abbrev conE:fh (List Int × Bool):=O5 intE aa
abbrev conQE:fh (List (Bool × List Nat) × Bool):=O5 rawE aa
abbrev genE:fh (Nat × List Int):=O3 intE aa
abbrev genQE:fh (Nat × List (Bool × List Nat)):=O3 rawE aa
section
variable {HT:Type} {enc:TypeId × Value->HT} {P:Program} {w:World} {base:Nat} {sp:Nat->Bool} {held:Bool} {μ:Mu} {F:Nat->Prop} {H:Heap}
structure ConTys (P:Program) (tcs tc tv:TypeId):Prop where
 cs:P.underlying tcs=some (.slice tc)
 cc:P.cellsOf tc=2
 c:∃ f0 f1:Field,P.underlying tc=some (.struct #[f0,f1])/\f0.offset=0/\f1.offset=1/\f0.type=tv/\P.underlying f1.type=some .bool/\P.cellsOf f1.type=1
structure GenTys (P:Program) (tgs tg tv:TypeId):Prop where
 gs:P.underlying tgs=some (.slice tg)
 cg:P.cellsOf tg=2
 g:∃ f0 f1:Field,P.underlying tg=some (.struct #[f0,f1])/\f0.offset=0/\f1.offset=1/\f1.type=tv/\P.underlying f0.type=some (.int .u8)/\P.cellsOf f0.type=1
def Lc {tcs tc tvs tv ti te:TypeId} (hC:ConTys P tcs tc tv) (hP:RowTys P tvs tv ti te) (hF:∀ c,c<w.heap.size->F c) {fuel:Nat} {cs:List Value} {x:DataW HT × List MemPlace} (h:DataW.trod enc P w base sp held fuel tc cs=some x) :
  ∃ acs z,LR μ F w acs cs/\conQE.R H acs z/\jU z.1:=by
 obtain ⟨f0,f1,i1,i2,i3,i4,i5,i6⟩:=hC.c;obtain ⟨xs,n,-,ex,hl,hxl,hx⟩:=DataW.trod_struct i1 h;have hxl:xs.length=2:=by simpa using hxl
 rw [hC.cc] at hl
 match cs,hl with
 | [c0,c1],_ =>
  have e0:=hx 0 f0 rfl;have e1:=hx 1 f1 rfl;rw [pD zO,i2,i4,hP.cv] at e0;rw [pD zO,i3,i6] at e1;obtain ⟨b,g0,-⟩:=DataW.trod_bool i5 e1;obtain ⟨v,av,l,g1,g2,g3,g4,-⟩:=K8 (H:=H) (μ:=μ) hP hF e0;have q0:c1=.bool b:=by simpa using g0
  have q1:c0=v:=by simpa using g1
  clear g0 g1;subst q0; subst q1;exact ⟨[av,.bool b],(l,b),LR.cons g2 (LR.cons (.bool _) LR.nil),⟨av,rfl,g3⟩,g4⟩
def ID {tcs tc tvs tv ti te:TypeId} (hC:ConTys P tcs tc tv) (hP:RowTys P tvs tv ti te) (hF:∀ c,c<w.heap.size->F c) {fuel:Nat} {cs:List Value} {x:DataW HT × List MemPlace} (h:DataW.trod enc P w base sp held fuel tcs cs=some x) (ty:Nat) :
  ∃ v av l,cs=[v]/\VR μ F w av v/\SlV conQE ty H av l/\(∀ r∈l,jU r.1)/\l.length<=maxLen :=
 NJ (E:=conQE) (good:=fun z=>jU z.1) hF hC.cs hC.cc (fun fuel cs x h=>Lc hC hP hF h) h
def Uy {tgs tg tvs tv ti te:TypeId} (hC:GenTys P tgs tg tv) (hP:RowTys P tvs tv ti te) (hF:∀ c,c<w.heap.size->F c) {fuel:Nat} {cs:List Value} {x:DataW HT × List MemPlace} (h:DataW.trod enc P w base sp held fuel tg cs=some x) :
  ∃ acs z,LR μ F w acs cs/\genQE.R H acs z/\jU z.2/\z.1<256:=by
 obtain ⟨f0,f1,i1,i2,i3,i4,i5,i6⟩:=hC.g;obtain ⟨xs,n,-,ex,hl,hxl,hx⟩:=DataW.trod_struct i1 h;have hxl:xs.length=2:=by simpa using hxl
 rw [hC.cg] at hl
 match cs,hl with
 | [c0,c1],_ =>
  have e0:=hx 0 f0 rfl;have e1:=hx 1 f1 rfl;rw [pD zO,i2,i6] at e0;rw [pD zO,i3,i4,hP.cv] at e1;obtain ⟨k,g0,-,hw⟩:=DataW.trod_int i5 e0;have hr:=Ux hw;obtain ⟨v,av,l,g1,g2,g3,g4,-⟩:=K8 (H:=H) (μ:=μ) hP hF e1;have q0:c0=.int .u8 k:=by simpa using g0
  have q1:c1=v:=by simpa using g1
  clear g0 g1;subst q0; subst q1;obtain ⟨m,rfl⟩:∃ m:Nat,k=(m:Int):=⟨k.toNat,zO⟩
  exact ⟨[.int .u8 (m:Int),av],(m,l),LR.cons (.int _ _) (LR.cons g2 LR.nil),⟨av,rfl,g3⟩,g4,by show m<256; omega⟩
end
section
open Go.ChangeShapes Go.WideShapes
variable {HT:Type} {enc:TypeId × Value->HT} {P:Program} {w:World} {base base':Nat} {sp:Nat->Bool} {held:Bool} {μ:Mu} {F:Nat->Prop} {H:Heap}
def open_cons {tcs tc tvs tv ti te:TypeId} (hC:ConTys P tcs tc tv) (hP:RowTys P tvs tv ti te) (hF:∀ c,c<w.heap.size->F c) {r:Reach} {v:Value} {d:DataW HT} {ps:List MemPlace} (hval:Value.okWide P w r base' tcs v) (hd:DataW.Trod enc P w base sp held tcs v d ps) (ty:Nat) :
  ∃ av l,VR μ F w av v/\SlV conQE ty H av l/\(∀ r∈l,jU r.1)/\l.length<=maxLen:=by
 obtain ⟨a,n,c,rfl⟩:=okWide_slice hC.cs hval;obtain ⟨fuel,h⟩:=hd;obtain ⟨v',av,l,e,g⟩:=ID (H:=H) (μ:=μ) hC hP hF h ty;have e:v'=.slice a n c:=by simpa [Value.cells] using e.symm
 subst e;exact ⟨av,l,g⟩
end
def My {ty:Nat} {H:Heap} {v:AV} {l:List (List (Bool × List Nat) × Bool)} (h:SlV conQE ty H v l) (hb:∀ r∈l,∀ z∈r.1,SK z=false/\Lim z.2):SlV conE ty H v (l.map fun r=>(r.1.map fE,r.2)):=by
 obtain ⟨cells,hr,ht,hc,ha⟩:=h;refine ⟨cells,hr,ht,by rw [hc,B8]; rfl,fun i a hi=>?_⟩;rw [VT,Ai] at hi;obtain ⟨z,hz,rfl⟩:=hi;obtain ⟨w,h1,h2⟩:=ha i z hz;exact ⟨w,h1,SlV.int h2 (hb z (Ve hz))⟩
end Go.Proofs.YthjdfjlhjnihfaaGreat.Ev
namespace Go.Proofs.YthjdfjlhjnihfaaGreat.Lin
def unitC (n:Nat) (k:Int):V:=k :: List.replicate n 0
def hd1 (r:V):Int:=r.headD 0
def eqsOf (l:List (V × Bool)):List V:=(l.filter fun c=>c.2).map fun c=>c.1
def ineqsOf (n:Nat) (l:List (V × Bool)):List V:=unitC n 1 :: (l.filter fun c=>!c.2).map fun c=>c.1
def kindOf (r:V):Nat:=if 0<hd1 r then 3 else 2
def gensP (n:Nat) (l:List (V × Bool)):List (Nat × V) :=
 if (gensR (n+1) (eqsOf l) (ineqsOf n l)).any (fun r=>decide (0<hd1 r)) then
  (gensL (n+1) (eqsOf l) (ineqsOf n l)).map (fun r=>(1,r))++(gensR (n+1) (eqsOf l) (ineqsOf n l)).map fun r=>(kindOf r,r)
 else []
def linesOf (g:List (Nat × V)):List V:=(g.filter fun x=>x.1 == 1).map fun x=>x.2
def raysOf (g:List (Nat × V)):List V:=(g.filter fun x=>!(x.1 == 1)).map fun x=>x.2
def consP (n:Nat) (g:List (Nat × V)):List (V × Bool) :=
 if g.any (fun x=>x.1 == 3) then
  (gensL (n+1) (linesOf g) (raysOf g)).map (fun r=>(r,true))++((gensR (n+1) (linesOf g) (raysOf g)).filter fun r=>!decide (r=unitC n 1)).map fun r=>(r,false)
 else [(unitC n (-1),false)]
def keepsP (c:V × Bool) (g:Nat × V):Bool:=if c.2 || g.1 == 1 then decide (dot c.1 g.2=0) else decide (0<=dot c.1 g.2)
def unitC_len (n:Nat) (k:Int):(unitC n k).length=n+1:=by simp [unitC]
def A8:∀ (n:Nat) (x:V),dot (List.replicate n 0) x=0
 | 0,x=>by simp [dot]
 | n+1,[]=>by simp [dot]
 | n+1,a :: x=>by
  have:=A8 n x
  rw [Wm];simp [dot] at this ⊢;exact this
def jP {n:Nat} {k:Int} {x:V}:dot (unitC n k) x=k*hd1 x:=by
 cases x with
 | nil=>simp [unitC,dot,hd1]
 | cons a x =>
  have:=A8 n x
  simp [unitC,dot,hd1,this]
section
variable {n:Nat} {l:List (V × Bool)}
def eqs_len (h:∀ c∈l,c.1.length=n+1):∀ a∈eqsOf l,a.length=n+1:=fun a ha=>by
 obtain ⟨c,hc,rfl⟩:=uL.1 ha;exact h c (Vj.1 hc).1
def ineqs_len (h:∀ c∈l,c.1.length=n+1):∀ a∈ineqsOf n l,a.length=n+1:=fun a ha=>by
 rcases Vt.1 ha with rfl | ha
 ·exact unitC_len n 1
 ·obtain ⟨c,hc,rfl⟩:=uL.1 ha;exact h c (Vj.1 hc).1
def mem_eqs {a:V}:a∈eqsOf l ↔ (a,true)∈l:=by
 constructor
 ·intro h;obtain ⟨⟨r,b⟩,hc,rfl⟩:=uL.1 h;obtain ⟨h1,h2⟩:=Vj.1 hc;simp only at h2;subst h2;exact h1
 ·intro h;exact uL.2 ⟨(a,true),Vj.2 ⟨h,rfl⟩,rfl⟩
def mem_ineqs {a:V}:a∈ineqsOf n l ↔ a=unitC n 1\/(a,false)∈l:=by
 unfold ineqsOf;rw [Vt];refine or_congr YK ?_;constructor
 ·intro h;obtain ⟨⟨r,b⟩,hc,rfl⟩:=uL.1 h;obtain ⟨h1,h2⟩:=Vj.1 hc;cases b with
  | false=>exact h1
  | true=>simp at h2
 ·intro h;exact uL.2 ⟨(a,false),Vj.2 ⟨h,rfl⟩,rfl⟩
abbrev im (n:Nat) (l:List (V × Bool)) (x:V):Prop:=Keep (n+1) (· ∈ eqsOf l) (· ∈ ineqsOf n l) x
def keepP_iff {x:V}:im n l x ↔ x.length=n+1/\0<=hd1 x/\∀ c∈l,(c.2=true->dot c.1 x=0)/\(c.2=false->0<=dot c.1 x):=by
 constructor
 ·intro h;have h1:=h.ge (unitC n 1) (mem_ineqs.2 (.inl rfl));rw [jP] at h1;refine ⟨h.len,zO,fun ⟨r,b⟩ hc=>⟨fun hb=>?_,fun hb=>?_⟩⟩
  ·simp only at hb; subst hb; exact h.eq r (mem_eqs.2 hc)
  ·simp only at hb; subst hb; exact h.ge r (mem_ineqs.2 (.inr hc))
 ·rintro ⟨h1,h2,h3⟩;refine ⟨h1,fun a ha=>(h3 _ (mem_eqs.1 ha)).1 rfl,fun a ha=>?_⟩;rcases mem_ineqs.1 ha with rfl | ha
  ·rw [jP]; omega
  ·exact (h3 _ ha).2 rfl
def Gi {l':List (V × Bool)} (h:∀ c∈l,c.1.length=n+1) (h':∀ c∈l',c.1.length=n+1) (hs:∀ x,im n l x ↔ im n l' x):gensP n l=gensP n l':=by
 obtain ⟨e1,e2⟩:=C5 (gens_told (eqs_len h) (ineqs_len h)) (gens_told (eqs_len h') (ineqs_len h')) hs;unfold gensP;rw [e1,e2]
def O0 (h:∀ c∈l,c.1.length=n+1) {r:V} (hr:r∈gensL (n+1) (eqsOf l) (ineqsOf n l)):im n l r/\im n l (scl (-1) r):=by
 have t:=gens_told (eqs_len h) (ineqs_len h);refine ⟨⟨t.dd.lenL r hr,fun e he=>t.dd.lineE r hr e he,fun i hi=>by rw [t.dd.lineI r hr i hi]; exact Yn _⟩,⟨ai (t.dd.lenL r hr),fun e he=>by rw [dot_scl,t.dd.lineE r hr e he]; rfl,fun i hi=>by rw [dot_scl,t.dd.lineI r hr i hi]; exact Yn _⟩⟩
def NU (h:∀ c∈l,c.1.length=n+1) {r:V} (hr:r∈gensR (n+1) (eqsOf l) (ineqsOf n l)):im n l r:=(gens_told (eqs_len h) (ineqs_len h)).dd.keep r hr
def E4 (n:Nat) (l:List (V × Bool)) (c:V × Bool):Prop:=∀ x,im n l x->(c.2=true->dot c.1 x=0)/\0<=dot c.1 x
def ux {c:V × Bool} (hc:c∈l):E4 n l c:=fun x hx=>by
 have h1:=(keepP_iff.1 hx).2.2 c hc;refine ⟨h1.1,?_⟩;cases hb:c.2 with
 | false=>exact h1.2 hb
 | true=>rw [h1.1 hb]; exact Yn _
def ts {c:V × Bool} {g:Nat × V} (hc:E4 n l c) (hg:im n l g.2) (hl:g.1=1->im n l (scl (-1) g.2)):keepsP c g=true:=by
 have h1:=hc _ hg;unfold keepsP;cases hb:c.2 with
 | true=>simp [h1.1 hb]
 | false =>
  by_cases hk:g.1=1
  ·have h2:=(hc _ (hl hk)).2;rw [dot_scl] at h2;simp [hk]; omega
  ·simp [hk]; exact h1.2
def oE (h:∀ c∈l,c.1.length=n+1) {g:Nat × V} (hg:g∈gensP n l):im n l g.2/\(g.1=1->im n l (scl (-1) g.2)):=by
 unfold gensP at hg;split at hg
 ·rcases Vf.1 hg with hg | hg
  ·obtain ⟨r,hr,rfl⟩:=uL.1 hg;exact ⟨(O0 h hr).1,fun _=>(O0 h hr).2⟩
  ·obtain ⟨r,hr,rfl⟩:=uL.1 hg;refine ⟨NU h hr,fun e=>?_⟩;have e:kindOf r=1:=e;unfold kindOf at e;split at e <;> omega
 ·cases hg
theorem Hy (r:V):(kindOf r == 1)=false:=by unfold kindOf; split <;> rfl
def y5 (hs:(gensR (n+1) (eqsOf l) (ineqsOf n l)).any (fun r=>decide (0<hd1 r))=true) :
  linesOf (gensP n l)=gensL (n+1) (eqsOf l) (ineqsOf n l)/\raysOf (gensP n l)=gensR (n+1) (eqsOf l) (ineqsOf n l)/\(gensP n l).any (fun x=>x.1 == 3)=true:=by
 unfold gensP;rw [if_pos hs];refine ⟨?_,?_,?_⟩
 ·unfold linesOf;rw [Wd,ZY.2,ZA.2,Wp,Xd]
  ·exact YM _
  ·intro x hx;obtain ⟨r,-,rfl⟩:=uL.1 hx;simp [Hy]
  ·intro x hx;obtain ⟨r,-,rfl⟩:=uL.1 hx;rfl
 ·unfold raysOf;rw [Wd,ZA.2,ZY.2,Xk,Xd]
  ·exact YM _
  ·intro x hx;obtain ⟨r,-,rfl⟩:=uL.1 hx;simp [Hy]
  ·intro x hx;obtain ⟨r,-,rfl⟩:=uL.1 hx
   simp
 ·rw [VA] at hs ⊢;obtain ⟨r,hr,h0⟩:=hs;refine ⟨(kindOf r,r),Wl _ (uL.2 ⟨r,hr,rfl⟩),?_⟩;have h0:0<hd1 r:=of_decide_eq_true h0;simp [kindOf,h0]
def JU {g:List (Nat × V)} (h3:g.any (fun x=>x.1 == 3)=true) (x:V):im n (consP n g) x ↔ 0<=hd1 x/\Keep (n+1) (· ∈ gensL (n+1) (linesOf g) (raysOf g)) (· ∈ gensR (n+1) (linesOf g) (raysOf g)) x:=by
 rw [keepP_iff];unfold consP;rw [if_pos h3];constructor
 ·rintro ⟨q1,q2,q3⟩;refine ⟨q2,q1,fun a ha=>(q3 (a,true) (VU _ (uL.2 ⟨a,ha,rfl⟩))).1 rfl,fun b hb=>?_⟩;by_cases hu:b=unitC n 1
  ·rw [hu,jP]; omega
  ·exact (q3 (b,false) (Wl _ (uL.2 ⟨b,Vj.2 ⟨hb,by simp [hu]⟩,rfl⟩))).2 rfl
 ·rintro ⟨q2,hk⟩;refine ⟨hk.len,q2,fun c hc=>?_⟩;rcases Vf.1 hc with hc | hc
  ·obtain ⟨a,ha,rfl⟩:=uL.1 hc;exact ⟨fun _=>hk.eq a ha,fun e=>by cases e⟩
  ·obtain ⟨b,hb,rfl⟩:=uL.1 hc;exact ⟨(fun e=>by cases e),fun _=>hk.ge b (Vj.1 hb).1⟩
def Ew {g:List (Nat × V)} (hg:∀ x∈g,x.2.length=n+1):∀ c∈consP n g,c.1.length=n+1:=by
 have e1:∀ a∈linesOf g,a.length=n+1:=fun a ha=>by obtain ⟨x,hx,rfl⟩:=uL.1 ha; exact hg x (Vj.1 hx).1
 have e2:∀ a∈raysOf g,a.length=n+1:=fun a ha=>by obtain ⟨x,hx,rfl⟩:=uL.1 ha; exact hg x (Vj.1 hx).1
 intro c hc;unfold consP at hc;split at hc
 ·rcases Vf.1 hc with hc | hc
  ·obtain ⟨a,ha,rfl⟩:=uL.1 hc;exact JC e1 e2 a ha
  ·obtain ⟨b,hb,rfl⟩:=uL.1 hc;exact JB e1 e2 b (Vj.1 hb).1
 ·rw [Vh] at hc;subst hc;exact unitC_len n (-1)
def vj (h:∀ c∈l,c.1.length=n+1):∀ x∈gensP n l,x.2.length=n+1:=fun x hx=>(oE h hx).1.len
def sZ (h:∀ c∈l,c.1.length=n+1) (hs:(gensR (n+1) (eqsOf l) (ineqsOf n l)).any (fun r=>decide (0<hd1 r))=true) (x:V):im n (consP n (gensP n l)) x ↔ im n l x:=by
 obtain ⟨p1,p2,p3⟩:=y5 hs;rw [JU p3,p1,p2];have t1:=gens_told (eqs_len h) (ineqs_len h);have t2:=gens_told t1.dd.lenL t1.dd.lenR;have hd:=JN (eqs_len h) (ineqs_len h) t1.dd t2.dd x;constructor
 ·rintro ⟨-,hk⟩; exact hd.2 hk
 ·intro hk; exact ⟨(keepP_iff.1 hk).2.1,hd.1 hk⟩
def none_empty:gensP n [(unitC n (-1),false)]=[]:=by
 have hl:∀ c∈[(unitC n (-1),false)],c.1.length=n+1:=fun c hc=>by rw [Vh] at hc; subst hc; exact unitC_len n (-1)
 unfold gensP;rw [if_neg];intro hs;rw [VA] at hs;obtain ⟨r,hr,h0⟩:=hs;have h0:0<hd1 r:=of_decide_eq_true h0
 have:=((keepP_iff.1 (NU hl hr)).2.2 _ (Vh.2 rfl)).2 rfl
 rw [jP] at this;omega
def I7 (h:∀ c∈l,c.1.length=n+1):gensP n (consP n (gensP n l))=gensP n l:=by
 by_cases hs:(gensR (n+1) (eqsOf l) (ineqsOf n l)).any (fun r=>decide (0<hd1 r))=true
 ·exact Gi (Ew (vj h)) h (sZ h hs)
 ·have e:gensP n l=[]:=by unfold gensP; rw [if_neg hs]
  rw [e];exact none_empty
def poly_keeps (h:∀ c∈l,c.1.length=n+1) {g:Nat × V} (hg:g∈gensP n l) {c:V × Bool} (hc:c∈l\/c∈consP n (gensP n l)):keepsP c g=true:=by
 obtain ⟨k1,k2⟩:=oE h hg;refine ts (l:=l) ?_ k1 k2;rcases hc with hc | hc
 ·exact ux hc
 ·have hs:(gensR (n+1) (eqsOf l) (ineqsOf n l)).any (fun r=>decide (0<hd1 r))=true:=by
   cases hs:(gensR (n+1) (eqsOf l) (ineqsOf n l)).any (fun r=>decide (0<hd1 r)) with
   | true=>rfl
   | false =>
    unfold gensP at hg;rw [if_neg (by rw [hs]; decide)] at hg;cases hg
  exact fun x hx=>ux hc x ((sZ h hs x).2 hx)
def Ul (hne:gensP n l≠[]):(gensP n l).any (fun x=>x.1 == 3)=true:=by
 cases hs:(gensR (n+1) (eqsOf l) (ineqsOf n l)).any (fun r=>decide (0<hd1 r)) with
 | true=>exact (y5 hs).2.2
 | false=>exact absurd (by unfold gensP; rw [if_neg (by rw [hs]; decide)]) hne
def ValidG (n:Nat) (g:List (Nat × V)):Prop:=∀ x∈g,x.2.length=n+1/\(x.1=3->0<hd1 x.2)/\(x.1≠3->hd1 x.2=0)
def mem_lines {g:List (Nat × V)} {r:V}:r∈linesOf g ↔ (1,r)∈g:=by
 constructor
 ·intro h;obtain ⟨⟨k,a⟩,hc,rfl⟩:=uL.1 h;obtain ⟨h1,h2⟩:=Vj.1 hc;have h2:k=1:=by simpa using h2
  subst h2;exact h1
 ·intro h;exact uL.2 ⟨(1,r),Vj.2 ⟨h,rfl⟩,rfl⟩
def mem_rays {g:List (Nat × V)} {r:V}:r∈raysOf g ↔ ∃ k,k≠1/\(k,r)∈g:=by
 constructor
 ·intro h;obtain ⟨⟨k,a⟩,hc,rfl⟩:=uL.1 h;obtain ⟨h1,h2⟩:=Vj.1 hc;exact ⟨k,by simpa using h2,h1⟩
 ·rintro ⟨k,hk,h⟩;exact uL.2 ⟨(k,r),Vj.2 ⟨h,by simpa using hk⟩,rfl⟩
def Ed (h:∀ c∈l,c.1.length=n+1):ValidG n (gensP n l):=fun x hx=>by
 refine ⟨vj h x hx,fun e=>?_,fun e=>?_⟩
 ·unfold gensP at hx;split at hx
  ·rcases Vf.1 hx with hx | hx
   ·obtain ⟨r,-,rfl⟩:=uL.1 hx;cases e
   ·obtain ⟨r,-,rfl⟩:=uL.1 hx;have e:kindOf r=3:=e;unfold kindOf at e;split at e
    ·assumption
    ·omega
  ·cases hx
 ·obtain ⟨k1,k2⟩:=oE h hx;have p1:=(keepP_iff.1 k1).2.1;unfold gensP at hx;split at hx
  ·rcases Vf.1 hx with hx | hx
   ·obtain ⟨r,-,rfl⟩:=uL.1 hx;have p2:=(keepP_iff.1 (k2 rfl)).2.1;cases r with
    | nil=>rfl
    | cons a r=>simp [scl,hd1] at p1 p2 ⊢; omega
   ·obtain ⟨r,-,rfl⟩:=uL.1 hx;have e:¬ kindOf r=3:=e;unfold kindOf at e;split at e
    ·omega
    ·have p1:0<=hd1 r:=p1;show hd1 r=0;omega
  ·cases hx
end
end Go.Proofs.YthjdfjlhjnihfaaGreat.Lin
namespace Go.Proofs.YthjdfjlhjnihfaaGreat.Ev
open Go Nn
section
variable {tab:Nat->Option aw} {H:Heap} {s:AV}
def rL (C:Code tab) (hw:Wf H) {α:Type} {E:fh α} {ty fi:Nat} {first caps:List AV} {l:List α} (hE:E.sz=2) (hs:SlV E ty H s l) (hbig:l.length<4611686018427387904) (p:α->Bool)
  (hf:∀ a∈l,∀ H' cs,Kp H H'->E.R H' cs a->Ans tab (.fn fi (first++[.agg cs]++caps)) H' fun v H2=>v=.bool (p a)/\Kp H' H2) :
  Ans tab (.fn cd [s,.fn (.func fi) first caps]) H fun v H'=>v=.int .i64 (lM p l)/\Kp H H':=by
 refine bz C.q101 zU fun T hl g0 g1=>?_;refine zW (aV hl g0 g1 hs.lenV) ?_;refine am H [] (fun j _ _=>∀ k (h:k<l.length),k<j->p l[k]=false) (a:=0) (N:=l.length) rfl (by refine zW (aC hl g0 g1) ?_; rfl) (zV (aC hl g0 g1)) (II _) zO (by simp only [dj,hl]; rfl) rfl (fun _ _ _ _ h=>h) zK (fun k _ h=>by omega) ?_ ?_
 ·intro j T1 H1 _ hj hl1 hi1 hs1 hk1 hP;have w1:=hk1.wf;have le_hk1:=hk1.le;have t0:ad T1 0=s:=(hs1.at_ 0 zU).trans (zV (aB hl g0));have t1:ad T1 1=.fn (.func fi) first caps:=(hs1.at_ 1 zU).trans (zV (aV hl g0 g1 g1))
  obtain ⟨cs,hr,hlen,-,hld⟩:=(hs.mono hk1.sub).at (pD hj);have hix:=SlV.idx hs .i64 j hj;rw [hE] at hld hix;simp only [dj,hl] at hl1;refine zW (eW hl1 t0 t1 hi1 hix hld) ?_;refine AnsH.eq (hf _ (rZ hj) _ cs zK (E.mono ((zG H1).t _) hr)) fun H2 hk2=>?_;obtain ⟨k2,_,_⟩:=zT H zK hk2;cases hp:p l[j] with
  | true =>
   refine zW hl1 ?_;exact ⟨by rw [qO hj hP hp],zK⟩
  | false =>
   refine zW hl1 ?_;refine ⟨zK,fun k h hk=>?_⟩;by_cases e:k=j
   ·subst e; exact hp
   ·exact hP k h zO
 ·intro T1 H1 hl1 hs1 hk1 hP;simp only [dj,hl] at hl1;refine zW hl1 ?_;exact ⟨by rw [lJ fun k h=>hP k h h],zK⟩
def nK (C:Code tab) (hw:Wf H) {α:Type} {E:fh α} {ty fi:Nat} {first caps:List AV} {l:List α} (hE:E.sz=2) (hs:SlV E ty H s l) (hbig:l.length<4611686018427387904) (p:α->Bool)
  (hf:∀ a∈l,∀ H' cs,Kp H H'->E.R H' cs a->Ans tab (.fn fi (first++[.agg cs]++caps)) H' fun v H2=>v=.bool (p a)/\Kp H' H2) :
  Ans tab (.fn bO [s,.fn (.func fi) first caps]) H fun v H'=>v=.bool (l.any p)/\Kp H H':=by
 refine bz C.q76 zU fun T hl g0 g1=>?_;refine zW (aC hl g0 g1) ?_;refine AnsH.eq (rL C zF hE (hs.mono (zG H)) hbig p fun a ha H' cs hk hr=>hf a ha H' cs (Kp.trans (H:=H) zK hk) hr) fun H2 hk2=>?_;obtain ⟨k2,_,_⟩:=zT H zK hk2;refine zW (aC hl g0 g1) ?_;exact ⟨by rw [qP],zK⟩
def AA (C:Code tab) (hw:Wf H) {α:Type} {E:fh α} {ty fi:Nat} {first caps:List AV} {l:List α} (hE:E.sz=2) (hs:SlV E ty H s l) (hbig:l.length<4611686018427387904) (p:α->Bool)
  (hf:∀ a∈l,∀ H' cs,Kp H H'->E.R H' cs a->Ans tab (.fn fi (first++[.agg cs]++caps)) H' fun v H2=>v=.bool (p a)/\Kp H' H2) :
  Ans tab (.fn ca [s,.fn (.func fi) first caps]) H fun v H'=>v=.int .i64 (lM p l)/\Kp H H':=by
 refine bz C.q127 zU fun T hl g0 g1=>?_;refine zW (aV hl g0 g1 hs.lenV) ?_;refine am H [] (fun j _ _=>∀ k (h:k<l.length),k<j->p l[k]=false) (a:=0) (N:=l.length) rfl (by refine zW (aC hl g0 g1) ?_; rfl) (zV (aC hl g0 g1)) (II _) zO (by simp only [dj,hl]; rfl) rfl (fun _ _ _ _ h=>h) zK (fun k _ h=>by omega) ?_ ?_
 ·intro j T1 H1 _ hj hl1 hi1 hs1 hk1 hP;have w1:=hk1.wf;have le_hk1:=hk1.le;have t0:ad T1 0=s:=(hs1.at_ 0 zU).trans (zV (aB hl g0));have t1:ad T1 1=.fn (.func fi) first caps:=(hs1.at_ 1 zU).trans (zV (aV hl g0 g1 g1))
  obtain ⟨cs,hr,hlen,-,hld⟩:=(hs.mono hk1.sub).at (pD hj);have hix:=SlV.idx hs .i64 j hj;rw [hE] at hld hix;simp only [dj,hl] at hl1;refine zW (eW hl1 t0 t1 hi1 hix hld) ?_;refine AnsH.eq (hf _ (rZ hj) _ cs zK (E.mono ((zG H1).t _) hr)) fun H2 hk2=>?_;obtain ⟨k2,_,_⟩:=zT H zK hk2;cases hp:p l[j] with
  | true =>
   refine zW hl1 ?_;exact ⟨by rw [qO hj hP hp],zK⟩
  | false =>
   refine zW hl1 ?_;refine ⟨zK,fun k h hk=>?_⟩;by_cases e:k=j
   ·subst e; exact hp
   ·exact hP k h zO
 ·intro T1 H1 hl1 hs1 hk1 hP;simp only [dj,hl] at hl1;refine zW hl1 ?_;exact ⟨by rw [lJ fun k h=>hP k h h],zK⟩
def nJ (C:Code tab) (hw:Wf H) {α:Type} {E:fh α} {ty fi:Nat} {first caps:List AV} {l:List α} (hE:E.sz=2) (hs:SlV E ty H s l) (hbig:l.length<4611686018427387904) (p:α->Bool)
  (hf:∀ a∈l,∀ H' cs,Kp H H'->E.R H' cs a->Ans tab (.fn fi (first++[.agg cs]++caps)) H' fun v H2=>v=.bool (p a)/\Kp H' H2) :
  Ans tab (.fn bN [s,.fn (.func fi) first caps]) H fun v H'=>v=.bool (l.any p)/\Kp H H':=by
 refine bz C.q95 zU fun T hl g0 g1=>?_;refine zW (aC hl g0 g1) ?_;refine AnsH.eq (AA C zF hE (hs.mono (zG H)) hbig p fun a ha H' cs hk hr=>hf a ha H' cs (Kp.trans (H:=H) zK hk) hr) fun H2 hk2=>?_;obtain ⟨k2,_,_⟩:=zT H zK hk2;refine zW (aC hl g0 g1) ?_;exact ⟨by rw [qP],zK⟩
def lV (C:Code tab) (hw:Wf H) {l:List Int} (hs:RowV H s l) (hz:∀ z∈l,St z):Ans tab (.fn ot [s]) H fun v H'=>v=.int .i64 (iv (Lin.hd1 l))/\Kp H H':=by
 refine cQ C.q82 zU fun T hl g0=>?_;cases l with
 | nil =>
  have ls:lenV s=some (.int .i64 0):=hs.lenV;refine zW (aC hl g0 ls) ?_;exact ⟨rfl,zK⟩
 | cons a l =>
  have ls:lenV s=some (.int .i64 ((l.length+1:Nat):Int)):=hs.lenV;have hne:¬ ((l.length+1:Nat):Int)=0:=zO;have hpos:0<(a :: l).length:=by simp
  obtain ⟨w,hn,hld,-,-⟩:=jM hs hpos;have hix:co 2 s (.int .i64 0)=some (ap s 0):=SlV.idx hs .i64 0 hpos;have hld:aW H (some 2) (ap s 0)=some (.agg [.bool (decide (a<0)),w]):=hld;have hn:cp H w a.natAbs:=hn;refine zW (eW hl g0 ls hne hix hld) ?_;refine AnsH.eq (nM C (x:=a) zF ⟨w,rfl,hn.mono (zG H)⟩ (hz a (by simp))) fun H2 hk2=>?_;obtain ⟨k2,_,_⟩:=zT H zK hk2;refine zW (aB hl g0) ?_;exact ⟨rfl,zK⟩
def wB (C:Code tab) (hw:Wf H) {v:AV} {b:Bool} (ov:One v):Ans tab (.fn eP [.agg [v,.bool b]]) H fun x H'=>x=v/\Kp H H':=by
 have hbv:fZ (.agg [v,.bool b])=some [v,.bool b]:=by simp [fZ,AV.cells,ov.2]; rfl
 refine cQ C.q49 zU fun T hl g0=>?_;refine zW (aC hl g0 hbv) ?_;exact zK
def wA (C:Code tab) (hw:Wf H) {v:AV} {k:Int} (ov:One v):Ans tab (.fn eO [.agg [.int .u8 k,v]]) H fun x H'=>x=v/\Kp H H':=by
 have hbv:fZ (.agg [.int .u8 k,v])=some [.int .u8 k,v]:=by simp [fZ,AV.cells,ov.2]; rfl
 refine cQ C.q66 zU fun T hl g0=>?_;refine zW (aC hl g0 hbv) ?_;exact zK
def JM (C:Code tab) (hw:Wf H) {v:AV} {b:Bool} (ov:One v):Ans tab (.fn jZ [.agg [v,.bool b]]) H fun x H'=>x=.bool false/\Kp H H':=by
 have hbv:fZ (.agg [v,.bool b])=some [v,.bool b]:=by simp [fZ,AV.cells,ov.2]; rfl
 refine cQ C.q50 zU fun T hl g0=>?_;refine zW (aC hl g0 hbv) ?_;exact zK
def Fy (x:Int):0<=iv x ↔ 0<=x:=by unfold iv; split <;> (try split) <;> omega
def vz (C:Code tab) (hw:Wf H) {n:Nat} {k:Int} (hn:n<=60) (hk1 : -9223372036854775808<=k) (hk2:k<9223372036854775808) :
  Ans tab (.fn pI [.int .i64 (n:Int),.int .i64 k]) H fun v H'=>RowV H' v (Lin.unitC n k)/\Kp H H':=by
 obtain ⟨cells,hcells⟩:∃ cells,cells=(List.replicate (n+1) [AV.bool false,AV.nilSl]).flatten:=⟨_,rfl⟩
 have hmk:∀ H':Heap,Ho H' (H.next+3) aa 2 32 [.bool false,.nilSl] (.int .i64 ((n+1:Nat):Int)) (.int .i64 ((n+1:Nat):Int))=some (.own (H.next+3) 0 (n+1) (n+1) 2 true,H'.put (H.next+3) (.cells cells aa true)):=fun H'=>by rw [hcells]; exact iW _ _ _ _ _ _ _ _ _ zO zO rfl
 have ej:IntKind.i64.wrap ((n:Int)+1)=((n+1:Nat):Int):=by rw [wrap_i64] <;> omega
 refine bz C.q78 zU fun T hl g0 g1=>?_;refine zW (cr hl g0 g1 ej hmk) ?_;refine AnsH.use (nf C (n:=k) zF hk1 hk2) ?_;rintro v H2 ⟨⟨w,rfl,hn2⟩,hk2⟩;obtain ⟨k2,_,w2⟩:=zT H zK hk2;have ow:=hn2.one;have hb2:=hk2.get (b:=H.next+3) (e:=.cells cells aa true) (cR);have lt2:=w2 _ _ hb2;have hclen:cells.length=(n+1)*2:=by rw [hcells]; simp
 have hst:Db (some (.cells cells aa true)) 2 0 (.agg [.bool (decide (k<0)),w])=some (.cells (cells.take 0++[.bool (decide (k<0)),w]++cells.drop (0+2)) aa true):=iN (Ee (aQ _) ow) zO;have hio:co 2 (.own (H.next+3) 0 (n+1) (n+1) 2 true) (.int .i64 0)=some (.ptr (H.next+3) 0):=mj (j:=0) zO;obtain ⟨cells2,hc2⟩:∃ c,c=cells.take 0++[.bool (decide (k<0)),w]++cells.drop (0+2):=⟨_,rfl⟩
 rw [<- hc2] at hst;have hz:intE.R H2 [.bool false,.nilSl] 0:=⟨.nilSl,by simp,fM H2⟩
 have hcl:Cells intE H2 cells (List.replicate (n+1) 0):=by rw [hcells]; exact qH hz _
 have hcl2:Cells intE H2 cells2 ((List.replicate (n+1) 0).set 0 k):=by rw [hc2]; exact hcl.set (i:=0) (by simp) ⟨w,rfl,hn2⟩
 have m3:NoTy [ae] H2 (H.next+3):=NoTy.ty hb2 zU;refine zW (eW hl g0 g1 hio hb2 hst) ?_;refine ⟨?_,zK⟩;have e:(List.replicate (n+1) (0:Int)).set 0 k=Lin.unitC n k:=by rw [Wm]; rfl
 rw [e] at hcl2;obtain ⟨Hx,hHx⟩:∃ Hx,Hx=(H2.up 2).put (H.next+3) (.cells cells2 aa true):=⟨_,rfl⟩
 have hclx:Cells intE Hx cells2 (Lin.unitC n k):=by rw [hHx]; exact Cells.mono (E:=intE) zS hcl2
 have:Own intE aa H Hx (H.next+3) true (.own (H.next+3) 0 (n+1) (n+1) 2 true) (Lin.unitC n k):=⟨cells2,by rw [Lin.unitC_len]; rfl,by rw [hHx]; exact au _ _ _,hclx,zO⟩
 rw [<- hHx];exact this.sl
abbrev ur:=List (Bool × List Nat) × Bool
abbrev E6:=Nat × List (Bool × List Nat)
def zr (C:Code tab) (hw:Wf H) {cs:List AV} {c:ur} {b1 b2:Nat} {r1 r2:Bool} (hc:conQE.R H cs c) (hbig:vJ c.1)
  (h1:H.get b1=some (.cells [.fn (.func eP) [] []] fp r1)) (h2:H.get b2=some (.cells [.fn (.func jZ) [] []] rg r2)) :
  Ans tab (.fn eB [.agg cs,.ptr b1 0,.ptr b2 0]) H fun v H'=>v=.bool (!Aj c.1)/\Kp H H':=by
 obtain ⟨v,rfl,hv⟩:=hc;have ov:=hv.one;have lt1:=hw _ _ h1;have lt2:=hw _ _ h2;have hbv:fZ (.agg [v,.bool c.2])=some [v,.bool c.2]:=by simp [fZ,AV.cells,ov.2]; rfl
 refine lU C.q75 zU fun T hl g0 g1 g2=>?_;refine zW (gf hl g0 g1 g2 hbv h1 h2) ?_;refine AnsH.eq (wB C zF ov) fun H2 hk2=>?_;obtain ⟨k2,_,w2⟩:=zT H zK hk2;have d0:=hk2.get (b:=H.next) (e:=.cells [v,.bool c.2] t_api_Con true) (cR);refine zW (aV hl g0 g1 g2) ?_;refine AnsH.eq (qC C zF (hv.mono (zG H)) hbig) fun H3 hk3=>?_;obtain ⟨k3,_,w3⟩:=zT H zK hk3;have d3:=hk3.get d0;have e2:=k3.get h2;cases hok:Aj c.1 with
 | false =>
  refine zW (aV hl g0 g1 g2) ?_;exact zK
 | true =>
  refine zW (gf hl g0 g1 g2 d3 e2 g2) ?_;refine AnsH.eq (JM C zF ov) fun H4 hk4=>?_;obtain ⟨k4,_,_⟩:=zT H zK hk4;refine zW (aV hl g0 g1 g2) ?_;exact zK
def zq (C:Code tab) (hw:Wf H) {cs:List AV} {c:ur} {n:Int} {b1 b2:Nat} {r1 r2:Bool} (hc:conQE.R H cs c) (hn:0<=n/\n<=1000)
  (h1:H.get b1=some (.cells [.fn (.func eP) [] []] fp r1)) (h2:H.get b2=some (.cells [.int .i64 n] fW r2)) :
  Ans tab (.fn eA [.agg cs,.ptr b1 0,.ptr b2 0]) H fun v H'=>v=.bool (decide ((c.1.length:Int)≠n+1))/\Kp H H':=by
 obtain ⟨v,rfl,hv⟩:=hc;have ov:=hv.one;have lt1:=hw _ _ h1;have lt2:=hw _ _ h2;have hbv:fZ (.agg [v,.bool c.2])=some [v,.bool c.2]:=by simp [fZ,AV.cells,ov.2]; rfl
 have ej:IntKind.i64.wrap (n+1)=n+1:=by rw [wrap_i64] <;> omega
 refine lU C.q77 zU fun T hl g0 g1 g2=>?_;refine zW (gf hl g0 g1 g2 hbv h1 h2) ?_;refine aH ?_;refine zD (eW hl g0 g1 g2 h1 h2) ?_;refine AnsH.eq (wB C zF ov) fun H2 hk2=>?_;obtain ⟨k2,_,w2⟩:=zT H zK hk2;have e2:=k2.get h2;refine zD (kj hl g0 g1 g2 h1 h2 e2 hv.lenV ej) ?_;exact ⟨by simp,zK⟩
def dK (n:Int) (l:List ur):Int :=
 if n<0\/8<n then 2 else if 60<l.length then 4 else if l.any (fun c=>!Aj c.1) then 8 else if l.any (fun c=>decide ((c.1.length:Int)≠n+1)) then 70 else 0
def nC (C:Code tab) (hw:Wf H) {n:Int} {l:List ur} (hs:SlV conQE t_api_Con H s l) (hbig:∀ c∈l,vJ c.1) (hlen:l.length<4611686018427387904) :
  Ans tab (.fn fC [.int .i64 n,s,.fn (.func eP) [] [],.fn (.func jZ) [] []]) H fun v H'=>v=.int .i64 (dK n l)/\Kp H H':=by
 refine Or C.q48 zU fun T hl g0 g1 g2 g3=>?_;by_cases q1:n<0
 ·refine zW (eW hl g0 g1 g2 g3 q1) ?_;exact ⟨by rw [dK,if_pos (.inl q1)],zK⟩
 by_cases q2:8<n
 ·refine zW (gf hl g0 g1 g2 g3 q1 q2) ?_;exact ⟨by rw [dK,if_pos (.inr q2)],zK⟩
 have e1:¬ (n<0\/8<n):=fun h=>h.elim q1 q2;by_cases q3:(60:Int)<(l.length:Int)
 ·refine zW (kj hl g0 g1 g2 g3 q1 q2 q3 hs.lenV) ?_;exact ⟨by rw [dK,if_neg e1,if_pos zO],zK⟩
 have e2:¬ 60<l.length:=zO;refine zW (kj hl g0 g1 g2 g3 q1 q2 q3 hs.lenV) ?_;refine AnsH.eq (nK C zF (first:=[]) rfl (hs.mono (zG H)) hlen (fun c=>!Aj c.1) fun a ha H' cs hk hr=>zr C hk.wf hr (hbig a ha) (hk.get (by refine uv ?_; rfl)) (hk.get (by refine uv ?_; rfl))) fun H2 hk2=>?_;obtain ⟨k2,_,w2⟩:=zT H zK hk2;cases q4:l.any (fun c=>!Aj c.1) with
 | true =>
  refine zW (cr hl g0 g1 g2 g3) ?_;exact ⟨by rw [dK,if_neg e1,if_neg e2,if_pos q4],zK⟩
 | false =>
 have d0:=hk2.get (b:=H.next) (e:=.cells [.int .i64 n] fW true) (cR);have d1:=hk2.get (b:=H.next+1) (e:=.cells [.fn (.func eP) [] []] fp true) (cR);refine zW (aC hl g0 g1) ?_;refine AnsH.eq (nK C zF (first:=[]) rfl (hs.mono (zG H)) hlen (fun c=>decide ((c.1.length:Int)≠n+1)) fun a ha H' cs hk hr=>zq C hk.wf hr ⟨zO,zO⟩ (hk.get (b:=H.next+1) (by first | exact d1 | (refine uv ?_; exact d1))) (hk.get (b:=H.next) (by first | exact d0 | (refine uv ?_; exact d0)))) fun H3 hk3=>?_;obtain ⟨k3,_,_⟩:=zT H zK hk3;cases q5:l.any (fun c=>decide ((c.1.length:Int)≠n+1)) with
 | true =>
  refine zW (cr hl g0 g1 g2 g3) ?_;exact ⟨by rw [dK,if_neg e1,if_neg e2,if_neg (by rw [q4]; decide),if_pos q5],zK⟩
 | false =>
  refine zW (cr hl g0 g1 g2 g3) ?_;exact ⟨by rw [dK,if_neg e1,if_neg e2,if_neg (by rw [q4]; decide),if_neg (by rw [q5]; decide)],zK⟩
def FQ (g:Nat × List Int):Bool :=
 if g.1=1\/g.1=2 then decide (Lin.hd1 g.2≠0) else if g.1=3 then decide (Lin.hd1 g.2<=0) else true
def xA (x:Int):0<iv x ↔ 0<x:=by unfold iv; split <;> (try split) <;> omega
def PU (x:Int):iv x<=0 ↔ x<=0:=by unfold iv; split <;> (try split) <;> omega
def Mm (C:Code tab) (hw:Wf H) {v:AV} {k:Nat} {l:List Int} (hv:RowV H v l) (hz:∀ z∈l,St z):Ans tab (.fn lA [.agg [.int .u8 (k:Int),v]]) H fun x H'=>x=.bool (FQ (k,l))/\Kp H H':=by
 have ov:=hv.one;have hbv:fZ (.agg [.int .u8 (k:Int),v])=some [.int .u8 (k:Int),v]:=by simp [fZ,AV.cells,ov.2]; rfl
 refine cQ C.q67 zU fun T hl g0=>?_;by_cases q1:(k:Int)=1
 ·refine zW (aV hl g0 hbv q1) ?_;refine AnsH.eq (lV C zF (hv.mono (zG H)) hz) fun H2 hk2=>?_;obtain ⟨k2,_,_⟩:=zT H zK hk2;refine zW (aB hl g0) ?_;refine ⟨?_,zK⟩;congr 1;rw [FQ,if_pos (.inl zO),We];simp [ig]
 by_cases q2:(k:Int)=2
 ·refine zW (cr hl g0 hbv q1 q2) ?_;refine AnsH.eq (lV C zF (hv.mono (zG H)) hz) fun H2 hk2=>?_;obtain ⟨k2,_,_⟩:=zT H zK hk2;refine zW (aB hl g0) ?_;refine ⟨?_,zK⟩;congr 1;rw [FQ,if_pos (.inr zO),We];simp [ig]
 have q12:¬ (k=1\/k=2):=zO;by_cases q3:(k:Int)=3
 ·refine zW (eW hl g0 hbv q1 q2 q3) ?_;refine AnsH.eq (lV C zF (hv.mono (zG H)) hz) fun H2 hk2=>?_;obtain ⟨k2,_,_⟩:=zT H zK hk2;refine zW (aB hl g0) ?_;refine ⟨?_,zK⟩;congr 1;have q3':k=3:=zO;rw [FQ,if_neg q12,if_pos q3',We];simp [PU]
 ·refine zW (eW hl g0 hbv q1 q2 q3) ?_;refine ⟨?_,zK⟩;have q3':¬ k=3:=zO;rw [FQ,if_neg q12,if_neg q3']
def FP (g:E6):Bool:=!Aj g.2 || FQ (g.1,g.2.map fE)
def zp (C:Code tab) (hw:Wf H) {cs:List AV} {c:E6} {b1 b2:Nat} {r1 r2:Bool} (hc:genQE.R H cs c) (hbig:vJ c.2) (hgood:∀ z∈c.2,Lim z.2/\z.2.length<=1048576)
  (h1:H.get b1=some (.cells [.fn (.func eO) [] []] fo r1)) (h2:H.get b2=some (.cells [.fn (.func lA) [] []] rf r2)) :
  Ans tab (.fn eh [.agg cs,.ptr b1 0,.ptr b2 0]) H fun v H'=>v=.bool (FP c)/\Kp H H':=by
 obtain ⟨v,rfl,hv⟩:=hc;have ov:=hv.one;have lt1:=hw _ _ h1;have lt2:=hw _ _ h2;have hbv:fZ (.agg [.int .u8 (c.1:Int),v])=some [.int .u8 (c.1:Int),v]:=by simp [fZ,AV.cells,ov.2]; rfl
 refine lU C.q94 zU fun T hl g0 g1 g2=>?_;refine zW (gf hl g0 g1 g2 hbv h1 h2) ?_;refine AnsH.eq (wA C zF ov) fun H2 hk2=>?_;obtain ⟨k2,_,w2⟩:=zT H zK hk2;have d0:=hk2.get (b:=H.next) (e:=.cells [.int .u8 (c.1:Int),v] ak true) (cR);refine zW (aV hl g0 g1 g2) ?_;refine AnsH.eq (qC C zF (hv.mono (zG H)) hbig) fun H3 hk3=>?_;obtain ⟨k3,_,w3⟩:=zT H zK hk3;have d3:=hk3.get d0;have e2:=k3.get h2;cases hok:Aj c.2 with
 | false =>
  refine zW (aV hl g0 g1 g2) ?_;exact ⟨by simp [FP,hok],zK⟩
 | true =>
  have hb:∀ z∈c.2,SK z=false:=by
   simp only [Aj,Vy,V3,Wh,YJ] at hok;exact hok.2
  refine zW (gf hl g0 g1 g2 d3 e2 g2) ?_;refine AnsH.eq (Mm C (l:=c.2.map fE) zF ((SlV.int hv fun z hz=>⟨hb z hz,(hgood z hz).1⟩).mono (zG H)) fun z hz=>?_) fun H4 hk4=>?_
  ·obtain ⟨x,hx,rfl⟩:=uL.1 hz;exact (KV (hgood x hx).1 (hgood x hx).2).sm zO
  obtain ⟨k4,_,_⟩:=zT H zK hk4;refine zW (aV hl g0 g1 g2) ?_;exact ⟨by simp [FP,hok],zK⟩
def zo (C:Code tab) (hw:Wf H) {cs:List AV} {c:E6} {n:Int} {b1 b2:Nat} {r1 r2:Bool} (hc:genQE.R H cs c) (hn:0<=n/\n<=1000)
  (h1:H.get b1=some (.cells [.fn (.func eO) [] []] fo r1)) (h2:H.get b2=some (.cells [.int .i64 n] fW r2)) :
  Ans tab (.fn ee [.agg cs,.ptr b1 0,.ptr b2 0]) H fun v H'=>v=.bool (decide ((c.2.length:Int)≠n+1))/\Kp H H':=by
 obtain ⟨v,rfl,hv⟩:=hc;have ov:=hv.one;have lt1:=hw _ _ h1;have lt2:=hw _ _ h2;have hbv:fZ (.agg [.int .u8 (c.1:Int),v])=some [.int .u8 (c.1:Int),v]:=by simp [fZ,AV.cells,ov.2]; rfl
 have ej:IntKind.i64.wrap (n+1)=n+1:=by rw [wrap_i64] <;> omega
 refine lU C.q96 zU fun T hl g0 g1 g2=>?_;refine zW (gf hl g0 g1 g2 hbv h1 h2) ?_;refine aH ?_;refine zD (eW hl g0 g1 g2 h1 h2) ?_;refine AnsH.eq (wA C zF ov) fun H2 hk2=>?_;obtain ⟨k2,_,w2⟩:=zT H zK hk2;have e2:=k2.get h2;refine zD (kj hl g0 g1 g2 h1 h2 e2 hv.lenV ej) ?_;exact ⟨by simp,zK⟩
def Ss (n:Int) (l:List E6):Int :=
 if n<0\/8<n then 2 else if 60<l.length then 4 else if l.any FP then 8 else if l.any (fun c=>decide ((c.2.length:Int)≠n+1)) then 70 else 0
def vA (C:Code tab) (hw:Wf H) {n:Int} {l:List E6} (hs:SlV genQE ak H s l) (hbig:∀ c∈l,vJ c.2) (hgood:∀ c∈l,∀ z∈c.2,Lim z.2/\z.2.length<=1048576) (hlen:l.length<4611686018427387904) :
  Ans tab (.fn fz [.int .i64 n,s,.fn (.func eO) [] [],.fn (.func lA) [] []]) H fun v H'=>v=.int .i64 (Ss n l)/\Kp H H':=by
 refine Or C.q65 zU fun T hl g0 g1 g2 g3=>?_;by_cases q1:n<0
 ·refine zW (eW hl g0 g1 g2 g3 q1) ?_;exact ⟨by rw [Ss,if_pos (.inl q1)],zK⟩
 by_cases q2:8<n
 ·refine zW (gf hl g0 g1 g2 g3 q1 q2) ?_;exact ⟨by rw [Ss,if_pos (.inr q2)],zK⟩
 have e1:¬ (n<0\/8<n):=fun h=>h.elim q1 q2;by_cases q3:(60:Int)<(l.length:Int)
 ·refine zW (kj hl g0 g1 g2 g3 q1 q2 q3 hs.lenV) ?_;exact ⟨by rw [Ss,if_neg e1,if_pos zO],zK⟩
 have e2:¬ 60<l.length:=zO;refine zW (kj hl g0 g1 g2 g3 q1 q2 q3 hs.lenV) ?_;refine AnsH.eq (nJ C zF (first:=[]) rfl (hs.mono (zG H)) hlen FP fun a ha H' cs hk hr=>zp C hk.wf hr (hbig a ha) (hgood a ha) (hk.get (by refine uv ?_; rfl)) (hk.get (by refine uv ?_; rfl))) fun H2 hk2=>?_;obtain ⟨k2,_,w2⟩:=zT H zK hk2;cases q4:l.any FP with
 | true =>
  refine zW (cr hl g0 g1 g2 g3) ?_;exact ⟨by rw [Ss,if_neg e1,if_neg e2,if_pos q4],zK⟩
 | false =>
 have d0:=hk2.get (b:=H.next) (e:=.cells [.int .i64 n] fW true) (cR);have d1:=hk2.get (b:=H.next+1) (e:=.cells [.fn (.func eO) [] []] fo true) (cR);refine zW (aC hl g0 g1) ?_;refine AnsH.eq (nJ C zF (first:=[]) rfl (hs.mono (zG H)) hlen (fun c=>decide ((c.2.length:Int)≠n+1)) fun a ha H' cs hk hr=>zo C hk.wf hr ⟨zO,zO⟩ (hk.get (b:=H.next+1) (by first | exact d1 | (refine uv ?_; exact d1))) (hk.get (b:=H.next) (by first | exact d0 | (refine uv ?_; exact d0)))) fun H3 hk3=>?_;obtain ⟨k3,_,_⟩:=zT H zK hk3;cases q5:l.any (fun c=>decide ((c.2.length:Int)≠n+1)) with
 | true =>
  refine zW (cr hl g0 g1 g2 g3) ?_;exact ⟨by rw [Ss,if_neg e1,if_neg e2,if_neg (by rw [q4]; decide),if_pos q5],zK⟩
 | false =>
  refine zW (cr hl g0 g1 g2 g3) ?_;exact ⟨by rw [Ss,if_neg e1,if_neg e2,if_neg (by rw [q4]; decide),if_neg (by rw [q5]; decide)],zK⟩
def ut (C:Code tab) (hw:Wf H) {fi:Nat} {first caps:List AV} {l:List (List Int)} (hs:dS H s l) (hbig:l.length<4611686018427387904) (p:List Int->Bool)
  (hf:∀ r∈l,∀ H' w,Kp H H'->RowV H' w r->Ans tab (.fn fi (first++[w]++caps)) H' fun v H2=>v=.bool (p r)/\Kp H' H2) :
  Ans tab (.fn bM [s,.fn (.func fi) first caps]) H fun v H'=>v=.bool (l.any p)/\Kp H H':=by
 refine bz C.q80 zU fun T hl g0 g1=>?_;refine zW (aC hl g0 g1) ?_;refine AnsH.eq (qz C zF (hs.mono (zG H)) hbig p fun r hr H' w hk hv=>hf r hr H' w (Kp.trans (H:=H) zK hk) hv) fun H2 hk2=>?_;obtain ⟨k2,_,_⟩:=zT H zK hk2;refine zW (aC hl g0 g1) ?_;exact ⟨by rw [qP],zK⟩
end
def Bq {α:Type} (E:fh α) (ty:Nat) (H0 H:Heap) (v:AV) (l:List α):Prop:=(v=.nilSl/\l=[])\/∃ b ex,Own E ty H0 H b ex v l
section
variable {α β:Type} {E:fh α} {E':fh β} {ty:Nat} {H0 H H':Heap} {v w:AV} {l:List α} {m:List β}
def Bq.nil:Bq E ty H0 H .nilSl []:=.inl ⟨rfl,rfl⟩
def Bq.of (h:Bl E ty H0 H v l):Bq E ty H0 H v l:=by
 rcases h with h | ⟨b,h⟩
 ·exact .inl h
 ·exact .inr ⟨b,false,h⟩
def Bq.sl (h:Bq E ty H0 H v l):SlV E ty H v l:=by
 rcases h with ⟨rfl,rfl⟩ | ⟨b,ex,h⟩
 ·exact SlV.nil E ty H
 ·exact h.sl
def Bq.mono (hs:Sub H H') (h:Bq E ty H0 H v l):Bq E ty H0 H' v l:=by
 rcases h with h | ⟨b,ex,h⟩
 ·exact .inl h
 ·exact .inr ⟨b,ex,h.mono hs⟩
def Bq.lt (hw:Wf H) (h:Bq E ty H0 H v l) {b:Nat} (hb:jB v=some b):b<H.next:=by
 rcases h with ⟨rfl,-⟩ | ⟨b',ex,cells,rfl,hg,-⟩
 ·cases hb
 ·cases hb;exact hw _ _ hg
def Frm.subTq {tys:List Nat} (hf:Frm v H H') (h:Bq E ty H0 H v l) (hn:ty ∉ tys):SubT tys H H':=fun c cs t r ht hc=>hf c _ hc fun e=>by
 rcases h with ⟨rfl,-⟩ | ⟨b,ex,cells,rfl,hb,-⟩
 ·cases e
 ·cases e;rw [hb] at hc; cases hc;exact hn ht
def Frm.bq (hf:Frm v H H') (h:Bq E ty H0 H v l) (hw:Bq E' ty H0 H w m) (hs:Sep v w) (ht:ty ∉ E'.tys):Bq E' ty H0 H' w m:=by
 rcases hw with hw | ⟨b,ex,cells,rfl,hb,hc,h0⟩
 ·exact .inl hw
 ·exact .inr ⟨b,ex,cells,rfl,hf b _ hb fun e=>hs b e rfl,hc.mono (hf.subTq h ht),h0⟩
def Bq.push {ty2 bytes id id2:Nat} {cs:List AV} {a:α} (h:Bq E ty H0 H v l) (hty:ty ∉ E.tys) (hk:Kp H0 H) (hr:E.R H cs a) (hid:H0.next<=id) (hid':id<H.next) (hf:H.get id=none) (hid2:H0.next<=id2) (hid2':id2<H.next) (hf2:H.get id2=none) (hne:id≠id2)
  (hb:(l.length+1)*bytes<=70368744177664) (hl:l.length+1<4611686018427387904) :
  ∃ n H',cN (H.put id2 (.cells cs ty2 true)) id E.sz bytes ty v (.own id2 0 1 1 E.sz true)=some (.own id 0 n n E.sz false,H')/\Bq E ty H0 H' (.own id 0 n n E.sz false) (l++[a])/\Kp H0 H'/\H'.next=H.next/\Frm v H H'/\(∀ c,c≠id->c≠id2->H.get c=none->H'.get c=none):=by
 have hbl:Bl E ty H0 H v l\/∃ b,Own E ty H0 H b true v l:=by
  rcases h with h | ⟨b,ex,h⟩
  ·exact .inl (.inl h)
  ·cases ex with
   | false=>exact .inl (.inr ⟨b,h⟩)
   | true=>exact .inr ⟨b,h⟩
 rcases hbl with hbl | ⟨b,ho⟩
 ·obtain ⟨n,H',e1,e2,e3⟩:=Bl.push2 (ty2:=ty2) (bytes:=bytes) hbl hty hk hr hid hid' hf hid2 hid2' hf2 hne hb hl;exact ⟨n,H',e1,.of e2,e3⟩
 ·have hsub:Sub H (H.put id2 (.cells cs ty2 true)):=aP hf2;have hk':Kp H0 (H.put id2 (.cells cs ty2 true)):=hk.put hid2 hid2';have hy:SlV E ty2 (H.put id2 (.cells cs ty2 true)) (.own id2 0 1 1 E.sz true) [a] :=
   (show Own E ty2 H0 _ id2 true (.own id2 0 1 1 E.sz true) [a] from ⟨cs,rfl,au _ _ _,Cells.one (E.mono (hsub.t _) hr),hid2⟩).sl
  have ho1:=ho.mono hsub;have hs:=ho1.sl;obtain ⟨cells,hv,hg,-,-⟩:=ho1;rw [hv] at hs;obtain ⟨v',H',e1,e2,e3,e4,e5,e6⟩:=SlV.app (bytes:=bytes) (id:=id) hs hk' hy hid hid' (by rw [az hne]; exact hf) hb hl;obtain ⟨cells',hv',hg',hc',h0'⟩:=e6 (by simp);rw [hv'] at e1;refine ⟨_,H',by rw [hv]; exact e1,.inr ⟨id,false,cells',rfl,hg',hc',h0'⟩,e3,e4,fun b e hbe _=>e5.get _ _ (hsub.get _ _ hbe),fun c h1 h2 h3=>By e1 h1 (by rw [az h2]; exact h3)⟩
end
def xF {a:AV} (ha:One a) (x y:AV):ia [x,y] [((0,1),a)]=some (.agg [a,y]):=by
 simp [ia,cX,ha.1,ha.2]
section
open Lin
variable {n:Nat} {l:List (V × Bool)}
def Mk {j:Nat} (hj:j<l.length):eqsOf (l.take (j+1))=if l[j].2=true then eqsOf (l.take j)++[l[j].1] else eqsOf (l.take j):=by
 rw [Bj hj];unfold eqsOf;rw [Wd,VQ];cases h:l[j].2 <;> simp [h]
def Ga {j:Nat} (hj:j<l.length):ineqsOf n (l.take (j+1))=if l[j].2=true then ineqsOf n (l.take j) else ineqsOf n (l.take j)++[l[j].1]:=by
 rw [Bj hj];unfold ineqsOf;rw [Wd,VQ];cases h:l[j].2 <;> simp [h]
def Ml (l:List (V × Bool)):(eqsOf l).length<=l.length:=by
 unfold eqsOf;rw [B8];exact WQ _ _
def tw (l:List (V × Bool)):(ineqsOf n l).length<=l.length+1:=by
 unfold ineqsOf;rw [VV,B8]
 have:=WQ (fun c:V × Bool=>!c.2) l
 omega
def GU (n m:Nat):Bd (2^m) (unitC n 1):=fun i=>by
 have h1:1<=2^m:=VL zU;unfold unitC at_;cases i with
 | zero=>simpa using h1
 | succ i =>
  rw [WG,dH,V9];split <;> simp
end
section
variable {tab:Nat->Option aw} {H:Heap} {s:AV}
def ze (C:Code tab) (hw:Wf H) {l:List Int} (hs:RowV H s l) (hz:∀ z∈l,St z):Ans tab (.fn jJ [s]) H fun v H'=>v=.bool (decide (0<Lin.hd1 l))/\Kp H H':=by
 refine cQ C.q81 zU fun T hl g0=>?_;refine zW (aB hl g0) ?_;refine AnsH.eq (lV C zF (hs.mono (zG H)) hz) fun H2 hk2=>?_;obtain ⟨k2,_,_⟩:=zT H zK hk2;have e:decide (iv (Lin.hd1 l) > 0)=decide (0<Lin.hd1 l):=by
  rw [We];simp [xA]
 refine zW (aB hl g0) ?_;exact ⟨by simp [xA],zK⟩
set_option maxHeartbeats 4000000 in
def wz (C:Code tab) (hw:Wf H) {n m:Nat} {l:List (List Int × Bool)} (hs:SlV conE t_api_Con H s l) (hn:n<=4) (hlen:l.length<=1023) (hcnt:(l.length+1)^n<1099000000000) (hrow:∀ c∈l,c.1.length=n+1/\Lin.Bd (2^m) c.1) (hm:m<=300000) :
  Ans tab (.fn mX [.int .i64 (n:Int),s]) H fun v H'=>SlV genE ak H' v (Lin.gensP n l)/\Kp H H':=by
 refine Aw C.q51 rfl rfl zU fun T hl g=>?_;have hl:T.length=79:=hl;have hrs:c_dual_points.results=[(4,none)]:=rfl;have g0:ad T 0=.int .i64 (n:Int):=g 0 (by simp);have g1:ad T 1=s:=g 1 (by simp);refine bk ?_;refine zW (aB hl @aD) ?_;refine bk ?_;refine zW (aB hl @aD) ?_;refine db (fun T' H'=>∃ o,ad T' 6=o/\Kp H H'/\Bq rowsE af H H' o [Lin.unitC n 1]) rfl ?_ ?_
 ·refine zW (aB hl g0) ?_;refine AnsH.use (vz C (n:=n) (k:=1) zF zO zO zO) ?_;rintro v H2 ⟨hr,hk2⟩;obtain ⟨k2,_,w2⟩:=zT H zK hk2;have ov:=hr.one;have n2:H.next+6<=H2.next:=hk2.le
  have f2:H2.get (H.next+4)=none:=hk2.free (show H.next+4<H.next+6 by omega) (hw.fresh (b:=H.next+4) zO);refine zW (aB hl @aU) ?_;refine ⟨_,rfl,zK,.inr ⟨H.next+4,true,[v],rfl,au _ _ _,?_,zO⟩⟩;exact Cells.one (E:=rowsE) ⟨v,rfl,hr.mono (aP f2)⟩
 rintro T1 H1 hs1 ⟨o,t6,k1,b1⟩;have w1:=k1.wf;have le1:=k1.le;have t0:ad T1 0=.int .i64 (n:Int):=(hs1.at_ 0 zU).trans (zV (aB hl g0));have t1:ad T1 1=s:=(hs1.at_ 1 zU).trans (zV (aB hl g1));have t4:ad T1 4=.nilSl:=(hs1.at_ 4 zU).trans (zV hl);have t5:ad T1 5=.nilSl:=(hs1.at_ 5 zU).trans (zV hl);have hl1:T1.length=79:=hs1.len.trans (by simp only [dj]; exact hl);have hsl1:=hs.mono k1.sub;refine db (fun T' H'=>∃ o5 o6,ad T' 5=o5/\ad T' 6=o6/\Kp H H'/\dS H' o5 (Lin.eqsOf l)/\dS H' o6 (Lin.ineqsOf n l)) rfl ?_ ?_
 ·refine zW (aC hl1 t1 hs.lenV) ?_;refine am H [5,6] (fun j vs H'=>∃ o5 o6,vs=[o5,o6]/\Bq rowsE af H H' o5 (Lin.eqsOf (l.take j))/\Bq rowsE af H H' o6 (Lin.ineqsOf n (l.take j))/\Sep o5 o6) (a:=0) (N:=l.length) rfl (by refine zW hl1 ?_; rfl) (zV hl1) (II _) zO (by simp only [dj,hl1]; rfl) rfl (fun j vs H' m ⟨o5,o6,q1,q2,q3,q4⟩=>⟨o5,o6,q1,q2.mono (Sub.bump H' m),q3.mono (Sub.bump H' m),q4⟩) zK ⟨.nilSl,o,by exact zV (aC hl1 t5 t6),Bq.nil,b1.mono (Sub.bump H1 _),fun b h=>by cases h⟩ ?_ ?_
  ·rintro j T2 H2 _ hj hl2 hi2 hs2 hk2 ⟨o5,o6,hv,bq5,bq6,hsep⟩;have w2:=hk2.wf;have le_hk2:=hk2.le;have le2:=hk2.le;simp only [wW,AO,zB,and_true] at hv;obtain ⟨v5,v6⟩:=hv;have t20:ad T2 20=s:=(hs2.at_ 20 zU).trans (zV (aB hl1 t1));obtain ⟨cs,⟨w,rfl,hr⟩,hlen',-,hld⟩:=(hs.mono hk2.sub).at (pD hj);have hix:co 2 s (.int .i64 (j:Int))=some (ap s (j*2)):=SlV.idx hs .i64 j hj;have hld:aW H2 (some 2) (ap s (j*2))=some (.agg [w,.bool l[j].2]):=hld;have ow:=hr.one;simp only [dj,hl1] at hl2;have he:=Mk (l:=l) hj;have hi:=Ga (n:=n) (l:=l) hj;have l5:=Ml (l.take j);have l6:=tw (n:=n) (l.take j);rw [Vu] at l5 l6;obtain ⟨Hx,hHx⟩:∃ Hx,Hx=((H2.up 12).put (H2.next+2) (.cells [.nilSl,.bool false] t_api_Con true)).put (H2.next+2) (.cells [w,.bool l[j].2] t_api_Con true):=⟨_,rfl⟩
   have kx:Kp H2 Hx:=by rw [hHx]; exact zK
   have kx0:Kp H Hx:=hk2.trans kx;have nx:Hx.next=H2.next+12:=by rw [hHx]; rfl
   have fx:∀ c,H2.next<=c->c≠H2.next+2->Hx.get c=none:=fun c h1 h2=>by rw [hHx,az h2,az h2]; exact w2.fresh h1
   have hrx:rowsE.R Hx [w] l[j].1:=⟨w,rfl,hr.mono kx.sub⟩
   cases hb:l[j].2 with
   | true =>
    rw [hb] at hld hHx he hi;obtain ⟨n6,H6,e6,b6,k6,nx6,f6,-⟩:=Bq.push (ty2:=af) (bytes:=24) (id:=H2.next+10) (id2:=H2.next+9) (bq5.mono kx.sub) zU kx0 hrx zO zO (fx _ zO zO) zO zO (fx _ zO zO) zO zO zO;have e6':cN ((((H2.up 12).put (H2.next+2) (.cells [.nilSl,.bool false] t_api_Con true)).put (H2.next+2) (.cells [w,.bool true] t_api_Con true)).put (H2.next+9) (.cells [w] af true)) (H2.next+10) 1 24 af o5 (.own (H2.next+9) 0 1 1 1 true)=some (.own (H2.next+10) 0 n6 n6 1 false,H6):=by rw [hHx] at e6; exact e6
    refine zW (ki hl2 t20 hi2 hix hld v5 v6 e6') ?_;refine ⟨k6,_,_,rfl,?_,?_,?_⟩
    ·rw [he,if_pos rfl]; exact b6
    ·rw [hi,if_pos rfl]; exact f6.bq (bq5.mono kx.sub) (bq6.mono kx.sub) hsep zU
    ·intro b h1 h2
     have:=bq6.lt w2 h2
     cases h1;omega
   | false =>
    rw [hb] at hld hHx he hi;obtain ⟨n6,H6,e6,b6,k6,nx6,f6,-⟩:=Bq.push (ty2:=af) (bytes:=24) (id:=H2.next+10) (id2:=H2.next+9) (bq6.mono kx.sub) zU kx0 hrx zO zO (fx _ zO zO) zO zO (fx _ zO zO) zO zO zO;have e6':cN ((((H2.up 12).put (H2.next+2) (.cells [.nilSl,.bool false] t_api_Con true)).put (H2.next+2) (.cells [w,.bool false] t_api_Con true)).put (H2.next+9) (.cells [w] af true)) (H2.next+10) 1 24 af o6 (.own (H2.next+9) 0 1 1 1 true)=some (.own (H2.next+10) 0 n6 n6 1 false,H6):=by rw [hHx] at e6; exact e6
    refine zW (ki hl2 t20 hi2 hix hld v5 v6 e6') ?_;refine ⟨k6,_,_,rfl,?_,?_,?_⟩
    ·rw [he,if_neg zU]; exact f6.bq (bq6.mono kx.sub) (bq5.mono kx.sub) hsep.symm zU
    ·rw [hi,if_neg zU]; exact b6
    ·intro b h1 h2
     have:=bq5.lt w2 h1
     cases h2;omega
  ·rintro T2 H2 hl2 hs2 hk2 ⟨o5,o6,hv,bq5,bq6,hsep⟩;simp only [wW,AO,zB,and_true] at hv;rw [Vo] at bq5 bq6;refine zW (aB hl2 @aU) ?_;exact ⟨o5,o6,hv.1,hv.2,hk2,bq5.sl,bq6.sl⟩
 rintro T2 H2 hs2 ⟨o5,o6,v5,v6,k2,r5,r6⟩;have w2:=k2.wf;have le2:=k2.le;have u0:ad T2 0=.int .i64 (n:Int):=(hs2.at_ 0 zU).trans t0;have u4:ad T2 4=.nilSl:=(hs2.at_ 4 zU).trans t4;have hl2:T2.length=79:=hs2.len.trans hl1;have hE:∀ a∈Lin.eqsOf l,a.length=n+1/\Lin.Bd (2^m) a:=fun a ha=>hrow _ (Lin.mem_eqs.1 ha);have hI:∀ a∈Lin.ineqsOf n l,a.length=n+1/\Lin.Bd (2^m) a:=fun a ha=>by
  rcases Lin.mem_ineqs.1 ha with rfl | ha
  ·exact ⟨Lin.unitC_len n 1,GU n m⟩
  ·exact hrow _ ha
 have lE:=Ml l;have lI:=tw (n:=n) l;obtain ⟨c1,c2⟩:=sP (d:=n+1) (m:=m) zO zO hE hI;have hT:=Lin.gens_told (d:=n+1) (fun a ha=>(hE a ha).1) (fun a ha=>(hI a ha).1);have lL:=ech_len hT.form;have hcI:(Lin.ineqsOf n l).length^n<1099000000000:=VS (Xh lI n) hcnt;have lR:(Lin.gensR (n+1) (Lin.eqsOf l) (Lin.ineqsOf n l)).length<=1099000000000:=by
  have:=hT.dd.count3 (fun a ha=>(hI a ha).1)
  simp only [W7] at this;omega
 obtain ⟨L,hL⟩:∃ L,L=Lin.gensL (n+1) (Lin.eqsOf l) (Lin.ineqsOf n l):=⟨_,rfl⟩
 obtain ⟨R,hR⟩:∃ R,R=Lin.gensR (n+1) (Lin.eqsOf l) (Lin.ineqsOf n l):=⟨_,rfl⟩
 have smR:∀ r∈R,∀ z∈r,St z:=fun r hr z hz=>by
  rw [hR] at hr;exact (jk (c2 r hr).2 z hz).sm zO
 have ej:IntKind.i64.wrap ((n:Int)+1)=((n+1:Nat):Int):=by rw [wrap_i64] <;> omega
 refine db (fun T' H'=>∃ p q,ad T' 9=p/\ad T' 10=q/\Kp H H'/\dS H' p L/\dS H' q R) rfl ?_ ?_
 ·refine zW (cr hl2 u0 v5 v6 ej) ?_;refine AnsH.use (zk C (d:=n+1) (m:=m) zF (r5.mono (zG H2)) (r6.mono (zG H2)) zO zO zO zO (by simpa using hcI) hE hI hm) ?_;rintro v H3 ⟨p,q,rfl,hp,hq,hk3⟩;obtain ⟨k23,_,_⟩:=zT H2 zK hk3;have k3:Kp H H3:=k2.trans k23;have le_k3:=k3.le;refine zW (aB hl2 @aU) ?_;rw [hL,hR];exact ⟨p,q,rfl,rfl,zK,hp,hq⟩
 rintro T3 H3 hs3 ⟨p,q,v9,v10,k3,hp,hq⟩;have w3:=k3.wf;have le3:=k3.le;have x4:ad T3 4=.nilSl:=(hs3.at_ 4 zU).trans u4;have hl3:T3.length=79:=hs3.len.trans hl2;rw [<- hL] at lL;rw [<- hR] at lR;have hany:R.any (fun r=>decide (0<Lin.hd1 r))=(Lin.gensR (n+1) (Lin.eqsOf l) (Lin.ineqsOf n l)).any (fun r=>decide (0<Lin.hd1 r)):=by rw [hR]
 refine db (fun T' H'=>Kp H3 H'/\ad T' 4=.nilSl/\R.any (fun r=>decide (0<Lin.hd1 r))=true) rfl ?_ ?_
 ·refine zW (aB hl3 v10) ?_;refine AnsH.eq (ut C zF (first:=[]) (hq.mono (zG H3)) zO (fun r=>decide (0<Lin.hd1 r)) fun a ha H' w hk hr=>ze C hk.wf hr (smR a ha)) fun H4 hk4=>?_;obtain ⟨k34,_,_⟩:=zT H3 zK hk4;have k4:Kp H H4:=k3.trans k34;have le_k4:=k4.le;cases hc:R.any (fun r=>decide (0<Lin.hd1 r)) with
  | true =>
   refine zW (aC hl3 @aU x4) ?_;exact zK
  | false =>
   refine zW (aC hl3 @tK hrs) ?_;refine ⟨?_,zK⟩;unfold Lin.gensP;rw [<- hany,hc];exact SlV.nil _ _ _
 rintro T4 H4 hs4 ⟨k34,y4,hyes⟩;have w4:=k34.wf;have le4:=k34.le;have k4:Kp H H4:=k3.trans k34;have le_k4:=k4.le;have y9:ad T4 9=p:=(hs4.at_ 9 zU).trans v9;have y10:ad T4 10=q:=(hs4.at_ 10 zU).trans v10;have hl4:T4.length=79:=hs4.len.trans hl3;refine db (fun T' H'=>∃ o,ad T' 4=o/\Kp H4 H'/\Bq genE ak H4 H' o (L.map fun r=>(1,r))) rfl ?_ ?_
 ·refine zW (aC hl4 y9 hp.lenV) ?_;refine am H4 [4] (fun j vs H'=>∃ o,vs=[o]/\Bq genE ak H4 H' o ((L.take j).map fun r=>(1,r))) (a:=0) (N:=L.length) rfl (by refine zW hl4 ?_; rfl) (zV hl4) (II _) zO (by simp only [dj,hl4]; rfl) rfl (fun j vs H' m ⟨o,q1,q2⟩=>⟨o,q1,q2.mono (Sub.bump H' m)⟩) (Kp.up (Kp.refl w4) _) ⟨.nilSl,by exact zV (aB hl4 y4),Bq.nil⟩ ?_ ?_
  ·rintro j T5 H5 _ hj hl5 hi5 hs5 hk5 ⟨o,hv,ho⟩;have w5:=hk5.wf;have le_hk5:=hk5.le;have le5:=hk5.le;simp only [wW,AO,zB,and_true] at hv;have t51:ad T5 51=p:=(hs5.at_ 51 zU).trans (zV (aB hl4 y9));obtain ⟨w,hr,hld⟩:=dy ((hp.mono k34.sub).mono hk5.sub) hj;have hix:=SlV.idx1 hp .i64 j hj;have ow:=hr.one;simp only [dj,hl4] at hl5;obtain ⟨n6,H6,e6,b6,k6,nx6,f6,-⟩:=Bq.push (ty2:=ak) (bytes:=32) (id:=H5.next+7) (id2:=H5.next+6) (H:=H5.up 9) (cs:=[.int .u8 1,w]) (a:=(1,L[j])) (ho.mono (Sub.bump H5 9)) zU (hk5.up 9) ⟨w,rfl,hr.mono (Sub.bump H5 9)⟩ zO (by rw [cZ]; omega) (w5.fresh zO) zO (by rw [cZ]; omega) (w5.fresh zO) zO (by simp; omega) (by simp; omega);have e6':cN ((H5.up 9).put (H5.next+6) (.cells [.int .u8 1,w] ak true)) (H5.next+7) 2 32 ak o (.own (H5.next+6) 0 1 1 2 true)=some (.own (H5.next+7) 0 n6 n6 2 false,H6):=e6;refine zW (gf hl5 t51 hi5 hix hld hv e6') ?_;refine ⟨k6,_,rfl,?_⟩;rw [Bj hj,VQ];exact b6
  ·rintro T5 H5 hl5 hs5 hk5 ⟨o,hv,ho⟩;simp only [wW,AO,zB,and_true] at hv;rw [Vo] at ho;refine zW (aB hl5 @aU) ?_;exact ⟨o,hv,hk5,ho⟩
 rintro T5 H5 hs5 ⟨o5',z4,k45,bo5⟩;have w5:=k45.wf;have le5:=k45.le;have z10:ad T5 10=q:=(hs5.at_ 10 zU).trans y10;have hl5:T5.length=79:=hs5.len.trans hl4;refine db (fun T' H'=>∃ o,ad T' 4=o/\Kp H4 H'/\Bq genE ak H4 H' o ((L.map fun r=>(1,r))++R.map fun r=>(Lin.kindOf r,r))) rfl ?_ ?_
 ·refine zW (aC hl5 z10 hq.lenV) ?_;refine am H4 [4] (fun j vs H'=>∃ o,vs=[o]/\Bq genE ak H4 H' o ((L.map fun r=>(1,r))++(R.take j).map fun r=>(Lin.kindOf r,r))) (a:=0) (N:=R.length) rfl (by refine zW hl5 ?_; rfl) (zV hl5) (II _) zO (by simp only [dj,hl5]; rfl) rfl (fun j vs H' m ⟨o,q1,q2⟩=>⟨o,q1,q2.mono (Sub.bump H' m)⟩) (k45.up _) ⟨o5',by exact zV (aB hl5 z4),by rw [Yp,AO,Wp]; exact bo5.mono (Sub.bump H5 _)⟩ ?_ ?_
  ·rintro j T6 H6 _ hj hl6 hi6 hs6 hk6 ⟨o,hv,ho⟩;have w6:=hk6.wf;have le_hk6:=hk6.le;have le6:=hk6.le;simp only [wW,AO,zB,and_true] at hv;have t63:ad T6 63=q:=(hs6.at_ 63 zU).trans (zV (aB hl5 z10));obtain ⟨w,hr,hld⟩:=dy ((hq.mono k34.sub).mono hk6.sub) hj;have hix:=SlV.idx1 hq .i64 j hj;have ow:=hr.one;simp only [dj,hl5] at hl6;have hm:=rZ hj;refine zW (cr hl6 t63 hi6 hix hld) ?_;refine AnsH.eq (lV C zF (hr.mono (zG H6)) (smR _ hm)) fun H7 hk7=>?_;obtain ⟨k67,_,_⟩:=zT H6 zK hk7;have k47:Kp H4 H7:=hk6.trans k67;have le_k47:=k47.le;have w7:=k67.wf;by_cases h0:0<Lin.hd1 R[j]
   ·have hk3:Lin.kindOf R[j]=3:=by unfold Lin.kindOf; rw [if_pos h0]
    have hs0:(0:Int)<iv (Lin.hd1 R[j]):=(xA _).2 h0;obtain ⟨n8,H8,e8,b8,k8,nx8,f8,-⟩:=Bq.push (ty2:=ak) (bytes:=32) (id:=H7.next+6) (id2:=H7.next+5) (H:=H7.up 8) (cs:=[.int .u8 3,w]) (a:=(3,R[j])) ((ho.mono k67.sub).mono (Sub.bump H7 8)) zU (k47.up 8) ⟨w,rfl,(hr.mono k67.sub).mono (Sub.bump H7 8)⟩ zO (by rw [cZ]; omega) (w7.fresh zO) zO (by rw [cZ]; omega) (w7.fresh zO) zO (by simp; omega) (by simp; omega);have e8':cN ((H7.up 8).put (H7.next+5) (.cells [.int .u8 3,w] ak true)) (H7.next+6) 2 32 ak o (.own (H7.next+5) 0 1 1 2 true)=some (.own (H7.next+6) 0 n8 n8 2 false,H8):=e8;refine zW (aV hl6 hs0 hv e8') ?_;refine ⟨k8,_,rfl,?_⟩;rw [Bj hj,VQ,<- W0];simp only [wW,AO,hk3];exact b8
   ·have hk3:Lin.kindOf R[j]=2:=by unfold Lin.kindOf; rw [if_neg h0]
    have hs0:¬ (0:Int)<iv (Lin.hd1 R[j]):=fun h=>h0 ((xA _).1 h);obtain ⟨n8,H8,e8,b8,k8,nx8,f8,-⟩:=Bq.push (ty2:=ak) (bytes:=32) (id:=H7.next+5) (id2:=H7.next+4) (H:=H7.up 7) (cs:=[.int .u8 2,w]) (a:=(2,R[j])) ((ho.mono k67.sub).mono (Sub.bump H7 7)) zU (k47.up 7) ⟨w,rfl,(hr.mono k67.sub).mono (Sub.bump H7 7)⟩ zO (by rw [cZ]; omega) (w7.fresh zO) zO (by rw [cZ]; omega) (w7.fresh zO) zO (by simp; omega) (by simp; omega);have e8':cN ((H7.up 7).put (H7.next+4) (.cells [.int .u8 2,w] ak true)) (H7.next+5) 2 32 ak o (.own (H7.next+4) 0 1 1 2 true)=some (.own (H7.next+5) 0 n8 n8 2 false,H8):=e8;refine zW (aV hl6 hs0 hv e8') ?_;refine ⟨k8,_,rfl,?_⟩;rw [Bj hj,VQ,<- W0];simp only [wW,AO,hk3];exact b8
  ·rintro T6 H6 hl6 hs6 hk6 ⟨o,hv,ho⟩;simp only [wW,AO,zB,and_true] at hv;rw [Vo] at ho;refine zW (aB hl6 @aU) ?_;exact ⟨o,hv,hk6,ho⟩
 rintro T6 H6 hs6 ⟨o6',a4,k46,bo6⟩;have hl6:T6.length=79:=hs6.len.trans hl5;refine WC.wb ?_;refine zW (aC hl6 @a4 hrs) ?_;have hG:Lin.gensP n l=(L.map fun r=>(1,r))++R.map fun r=>(Lin.kindOf r,r):=by
  unfold Lin.gensP;rw [<- hany,hyes,<- hL,<- hR];rfl
 rw [hG];exact ⟨bo6.sl,k4.trans k46⟩
def uB (C:Code tab) (hw:Wf H) {a b:AV} {l m:List Nat} (ha:Lb H a l) (hb:Lb H b m) (hl':l.length<4611686018427387904) :
  Ans tab (.fn de [a,b]) H fun v H'=>v=.bool (decide (l=m))/\Kp H H':=by
 refine bz C.q30 zU fun T hl g0 g1=>?_;by_cases he:l.length=m.length
 ·have lb:lenV b=some (.int .i64 (l.length:Int)):=by rw [hb.lenV,he]
  refine zW (cr hl g0 g1 ha.lenV lb) ?_;refine am H [] (fun j _ _=>∀ q (h:q<l.length) (h':q<m.length),q<j->l[q]=m[q]) (a:=0) (N:=l.length) rfl (by refine zW (aC hl g0 g1) ?_; rfl) (zV (aC hl g0 g1)) (II _) zO (by simp only [dj,hl]; rfl) rfl (fun _ _ _ _ h=>h) zK (fun q _ _ h=>by omega) ?_ ?_
  ·intro i T1 H1 _ hi hl1 hi1 hs1 hk1 hP;have w1:=hk1.wf;have le_hk1:=hk1.le;have t0:ad T1 0=a:=(hs1.at_ 0 zU).trans (zV (aB hl g0));have t1:ad T1 1=b:=(hs1.at_ 1 zU).trans (zV (aV hl g0 g1 g1));have hi':i<m.length:=zO;obtain ⟨w,hr,hld⟩:=SlV.at1 (ha.mono hk1.sub) (pD hi);obtain ⟨w',hr',hld'⟩:=SlV.at1 (hb.mono hk1.sub) (pD hi');have hr:w=.int .u64 ((l[i]:Nat):Int):=hr;have hr':w'=.int .u64 ((m[i]:Nat):Int):=hr';subst hr; subst hr';have hix:=SlV.idx1 ha .i64 i hi;have hix':=SlV.idx1 hb .i64 i hi';simp only [dj,hl] at hl1;refine zW (aV hl1 t0 t1 hi1) ?_;refine aH ?_;by_cases hq:l[i]=m[i]
   ·have hq':((l[i]:Nat):Int)=((m[i]:Nat):Int):=zO;refine zD (ki hl1 t0 t1 hix hld hix' hld' hq') ?_;refine ⟨zK,fun q h h' hqi=>?_⟩;by_cases eq:q=i
    ·subst eq; exact hq
    ·exact hP q h h' zO
   ·have hq':¬ ((l[i]:Nat):Int)=((m[i]:Nat):Int):=zO;refine zD (kj hl1 t0 t1 hix hld hix' hld' hq' hq) ?_;refine ⟨?_,zK⟩;rw [decide_eq_false];intro e; subst e; exact hq rfl
  ·intro T1 H1 hl1 hs1 hk1 hP;simp only [dj,hl] at hl1;refine zW hl1 ?_;exact ⟨by rw [decide_eq_true (iH he fun q h h'=>hP q h h' h)],zK⟩
 ·have he':¬ (l.length:Int)=(m.length:Int):=zO;refine zW (gf hl g0 g1 ha.lenV hb.lenV he' he) ?_;refine ⟨?_,zK⟩;rw [decide_eq_false];intro e; subst e; exact he rfl
def Fj (C:Code tab) (hw:Wf H) {a b:AV} {x y:Int} (ha:IntV H a x) (hb:IntV H b y) (hx:St x) :
  Ans tab (.fn iP [a,b]) H fun v H'=>v=.bool (decide (x=y))/\Kp H H':=by
 obtain ⟨p,rfl,hp⟩:=ha;obtain ⟨q,rfl,hq⟩:=hb;have op:=hp.one;have oq:=hq.one;unfold St Sm at hx;refine bz C.q9 zU fun T hl g0 g1=>?_;by_cases h:decide (x<0)=decide (y<0)
 ·have h':(decide (x<0) == decide (y<0))=true:=by rw [h]; simp
  refine zW (aV hl g0 g1 h') ?_;refine AnsH.eq (uB C zF (hp.mono (zG H)) (hq.mono (zG H)) zO) fun H2 hk2=>?_;obtain ⟨k2,_,_⟩:=zT H zK hk2;refine zW (aC hl g0 g1) ?_;refine ⟨?_,zK⟩;by_cases e:x=y
  ·rw [decide_eq_true e,decide_eq_true (by rw [e])]
  ·rw [decide_eq_false e,decide_eq_false];intro h2
   have:=AX h2
   have h3:(x<0) ↔ (y<0):=by simpa using h
   omega
 ·have h':(decide (x<0) == decide (y<0))=false:=by simpa using h
  refine zW (aV hl g0 g1 h') ?_;refine ⟨?_,zK⟩;rw [decide_eq_false];intro e; subst e; exact h rfl
def xS (C:Code tab) (hw:Wf H) {a b:AV} {l m:List Int} (ha:RowV H a l) (hb:RowV H b m) (hbig:l.length<1099511627776) (hz:∀ z∈l,St z) :
  Ans tab (.fn rY [a,b]) H fun v H'=>v=.bool (decide (l=m))/\Kp H H':=by
 have key:∀ {H:Heap},Wf H->RowV H a l->RowV H b m->Ans tab (.fn gQ [a,b,.fn (.func iP) [] []]) H fun v H'=>v=.bool (decide (l=m))/\Kp H H':=by
  intro H hw ha hb;refine lU C.q128 zU fun T hl g0 g1 g2=>?_;by_cases he:l.length=m.length
  ·have lb:lenV b=some (.int .i64 (l.length:Int)):=by rw [hb.lenV,he]
   refine zW (eW hl g0 g1 g2 ha.lenV lb) ?_;refine am H [] (fun j _ _=>∀ q (h:q<l.length) (h':q<m.length),q<j->l[q]=m[q]) (a:=0) (N:=l.length) rfl (by refine zW (aV hl g0 g1 g2) ?_; rfl) (zV (aV hl g0 g1 g2)) (II _) zO (by simp only [dj,hl]; rfl) rfl (fun _ _ _ _ h=>h) zK (fun q _ _ h=>by omega) ?_ ?_
   ·intro j T1 H1 _ hj hl1 hi1 hs1 hk1 hP;have w1:=hk1.wf;have le_hk1:=hk1.le;have hj2:j<m.length:=zO;have t15:ad T1 15=a:=(hs1.at_ 15 zU).trans (zV (aB hl g0));have t1:ad T1 1=b:=(hs1.at_ 1 zU).trans (zV (cr hl g0 g1 g2 g1));have t2:ad T1 2=.fn (.func iP) [] []:=(hs1.at_ 2 zU).trans (zV (cr hl g0 g1 g2 g2));obtain ⟨w,hn,L0,hix⟩:=mi w1 (ha.mono hk1.sub) hj;obtain ⟨u,hu,L,hiy⟩:=mi w1 (hb.mono hk1.sub) hj2;have ow:=hn.one;have ou:=hu.one;have Lp0:=L0.put;have Ll0:=L0.ld;have Lp:=L.put;have Ll:=L.ld;simp only [dj,hl] at hl1;refine zW (rc hl1 t15 t1 t2 hi1 hix Lp0 Ll0 hiy Lp Ll) ?_;refine AnsH.eq (Fj C (x:=l[j]) (y:=m[j]) zF ⟨w,rfl,hn.mono (zG H1)⟩ ⟨u,rfl,hu.mono (zG H1)⟩ (hz _ (rZ hj))) fun H2 hk2=>?_;obtain ⟨k2,_,_⟩:=zT H zK hk2;cases hq:decide (l[j]=m[j]) with
    | true =>
     have hq:=of_decide_eq_true hq;refine zW hl1 ?_;refine ⟨zK,fun q h h' hqi=>?_⟩;by_cases e:q=j
     ·subst e; exact hq
     ·exact hP q h h' zO
    | false =>
     have hq:=of_decide_eq_false hq;refine zW hl1 ?_;refine ⟨?_,zK⟩;rw [decide_eq_false];intro e; subst e; exact hq rfl
   ·intro T1 H1 hl1 hs1 hk1 hP;simp only [dj,hl] at hl1;refine zW hl1 ?_;exact ⟨by rw [decide_eq_true (iH he fun q h h'=>hP q h h' h)],zK⟩
  ·have he':¬ (l.length:Int)=(m.length:Int):=zO;refine zW (ki hl g0 g1 g2 ha.lenV hb.lenV he' he) ?_;refine ⟨?_,zK⟩;rw [decide_eq_false];intro e; subst e; exact he rfl
 refine bz C.q97 zU fun T hl g0 g1=>?_;refine zW (aC hl g0 g1) ?_;refine AnsH.eq (key zF (ha.mono (zG H)) (hb.mono (zG H))) fun H2 hk2=>?_;obtain ⟨k2,_,_⟩:=zT H zK hk2;refine zW (aC hl g0 g1) ?_;exact zK
end
section
open Lin
variable {n:Nat} {g:List (Nat × V)}
def F4 {j:Nat} (hj:j<g.length):linesOf (g.take (j+1))=if g[j].1=1 then linesOf (g.take j)++[g[j].2] else linesOf (g.take j):=by
 rw [Bj hj];unfold linesOf;rw [Wd,VQ];by_cases h:g[j].1=1 <;> simp [h]
def IV {j:Nat} (hj:j<g.length):raysOf (g.take (j+1))=if g[j].1=1 then raysOf (g.take j) else raysOf (g.take j)++[g[j].2]:=by
 rw [Bj hj];unfold raysOf;rw [Wd,VQ];by_cases h:g[j].1=1 <;> simp [h]
def IF {j:Nat} (hj:j<g.length):(g.take (j+1)).any (fun x=>x.1 == 3)=((g.take j).any (fun x=>x.1 == 3) || g[j].1 == 3):=by
 rw [Bj hj,List.any_append]
 simp
def DP (g:List (Nat × V)):(linesOf g).length<=g.length:=by
 unfold linesOf;rw [B8];exact WQ _ _
def Hb (g:List (Nat × V)):(raysOf g).length<=g.length:=by
 unfold raysOf;rw [B8];exact WQ _ _
def AU {x:V} (h:x∈raysOf g):∃ y∈g,y.2=x:=by
 obtain ⟨k,-,h⟩:=mem_rays.1 h;exact ⟨_,h,rfl⟩
end
section
variable {tab:Nat->Option aw} {H:Heap} {s:AV}
set_option maxHeartbeats 4000000 in
def A6 (C:Code tab) (hw:Wf H) {n m:Nat} {g:List (Nat × List Int)} (hs:SlV genE ak H s g) (hn:n<=4) (hlen:g.length<=1023) (hcnt:g.length^n<1099000000000) (hrow:∀ x∈g,x.2.length=n+1/\Lin.Bd (2^m) x.2) (hm:m<=300000) :
  Ans tab (.fn pK [.int .i64 (n:Int),s]) H fun v H'=>SlV conE t_api_Con H' v (Lin.consP n g)/\Kp H H':=by
 refine Aw C.q68 rfl rfl zU fun T hl g'=>?_;have hl:T.length=84:=hl;have hrs:c_dual_cons.results=[(4,none)]:=rfl;have g0:ad T 0=.int .i64 (n:Int):=g' 0 (by simp);have g1:ad T 1=s:=g' 1 (by simp);refine bk ?_;refine zW (aB hl @aD) ?_;refine bk ?_;refine zW (aB hl @aD) ?_;refine bk ?_;refine zW (aB hl @aD) ?_;refine db (fun T' H'=>∃ o5 o6,ad T' 5=o5/\ad T' 6=o6/\ad T' 7=.bool (g.any fun x=>x.1 == 3)/\Kp H H'/\dS H' o5 (Lin.linesOf g)/\dS H' o6 (Lin.raysOf g)) rfl ?_ ?_
 ·refine zW (aC hl g1 hs.lenV) ?_;refine am H [5,6,7] (fun j vs H'=>∃ o5 o6,vs=[o5,o6,.bool ((g.take j).any fun x=>x.1 == 3)]/\Bq rowsE af H H' o5 (Lin.linesOf (g.take j))/\Bq rowsE af H H' o6 (Lin.raysOf (g.take j))/\Sep o5 o6) (a:=0) (N:=g.length) rfl (by refine zW hl ?_; rfl) (zV hl) (II _) zO (by simp only [dj,hl]; rfl) rfl (fun j vs H' m ⟨o5,o6,q1,q2,q3,q4⟩=>⟨o5,o6,q1,q2.mono (Sub.bump H' m),q3.mono (Sub.bump H' m),q4⟩) zK ⟨.nilSl,.nilSl,by refine zW hl ?_; rfl,Bq.nil,Bq.nil,fun b h=>by cases h⟩ ?_ ?_
  ·rintro j T2 H2 _ hj hl2 hi2 hs2 hk2 ⟨o5,o6,hv,bq5,bq6,hsep⟩;have w2:=hk2.wf;have le_hk2:=hk2.le;have le2:=hk2.le;simp only [wW,AO,zB,and_true] at hv;obtain ⟨v5,v6,v7⟩:=hv;have t17:ad T2 17=s:=(hs2.at_ 17 zU).trans (zV (aB hl g1));obtain ⟨cs,⟨w,rfl,hr⟩,hlen',-,hld⟩:=(hs.mono hk2.sub).at (pD hj);have hix:co 2 s (.int .i64 (j:Int))=some (ap s (j*2)):=SlV.idx hs .i64 j hj;have hld:aW H2 (some 2) (ap s (j*2))=some (.agg [.int .u8 (g[j].1:Int),w]):=hld;have ow:=hr.one;simp only [dj,hl] at hl2;have he:=F4 (g:=g) hj;have hi:=IV (g:=g) hj;have hso:=IF (g:=g) hj;have l5:=DP (g.take j);have l6:=Hb (g.take j);rw [Vu] at l5 l6;have main:∀ K:Nat,6<=K->∃ Hx,Hx=((H2.up K).put (H2.next+2) (.cells [.int .u8 0,.nilSl] ak true)).put (H2.next+2) (.cells [.int .u8 (g[j].1:Int),w] ak true)/\Kp H2 Hx/\Hx.next=H2.next+K/\(∀ c,H2.next<=c->c≠H2.next+2->Hx.get c=none):=fun K hK=>by
    refine ⟨_,rfl,zK,rfl,fun c h1 h2=>?_⟩;rw [az h2,az h2]; exact w2.fresh h1
   by_cases c1:g[j].1=1
   ·have c1':(g[j].1:Int)=1:=zO;rw [c1'] at hld;obtain ⟨Hx,hHx,kx,nx,fx⟩:=main 14 zO;rw [c1'] at hHx;obtain ⟨n6,H6,e6,b6,k6,nx6,f6,-⟩:=Bq.push (ty2:=af) (bytes:=24) (id:=H2.next+12) (id2:=H2.next+11) (cs:=[w]) (a:=g[j].2) (bq5.mono kx.sub) zU (hk2.trans kx) ⟨w,rfl,hr.mono kx.sub⟩ zO zO (fx _ zO zO) zO zO (fx _ zO zO) zO zO zO;have e6':cN ((((H2.up 14).put (H2.next+2) (.cells [.int .u8 0,.nilSl] ak true)).put (H2.next+2) (.cells [.int .u8 1,w] ak true)).put (H2.next+11) (.cells [w] af true)) (H2.next+12) 1 24 af o5 (.own (H2.next+11) 0 1 1 1 true)=some (.own (H2.next+12) 0 n6 n6 1 false,H6):=by rw [hHx] at e6; exact e6
    refine zW (kj hl2 t17 hi2 hix hld v5 v6 v7 e6') ?_;have c13:(g[j].1 == 3)=false:=by rw [c1]; rfl
    rw [hso,c13,Zq];refine ⟨k6,.own (H2.next+12) 0 n6 n6 1 false,o6,rfl,?_,?_,?_⟩
    ·rw [he,if_pos c1]; exact b6
    ·rw [hi,if_pos c1]; exact f6.bq (bq5.mono kx.sub) (bq6.mono kx.sub) hsep zU
    ·intro b h1 h2
     have:=bq6.lt w2 h2
     cases h1;omega
   have c1':¬ (g[j].1:Int)=1:=zO;have c1b:(g[j].1 == 1)=false:=by simpa using c1
   by_cases c3:g[j].1=3
   ·have c3':(g[j].1:Int)=3:=zO;rw [c3'] at hld;obtain ⟨Hx,hHx,kx,nx,fx⟩:=main 17 zO;rw [c3'] at hHx;obtain ⟨n6,H6,e6,b6,k6,nx6,f6,-⟩:=Bq.push (ty2:=af) (bytes:=24) (id:=H2.next+15) (id2:=H2.next+14) (cs:=[w]) (a:=g[j].2) (bq6.mono kx.sub) zU (hk2.trans kx) ⟨w,rfl,hr.mono kx.sub⟩ zO zO (fx _ zO zO) zO zO (fx _ zO zO) zO zO zO;have e6':cN ((((H2.up 17).put (H2.next+2) (.cells [.int .u8 0,.nilSl] ak true)).put (H2.next+2) (.cells [.int .u8 3,w] ak true)).put (H2.next+14) (.cells [w] af true)) (H2.next+15) 1 24 af o6 (.own (H2.next+14) 0 1 1 1 true)=some (.own (H2.next+15) 0 n6 n6 1 false,H6):=by rw [hHx] at e6; exact e6
    refine zW (kj hl2 t17 hi2 hix hld v5 v6 v7 e6') ?_;have c13:(g[j].1 == 3)=true:=by rw [c3]; rfl
    rw [hso,c13,Zz];refine ⟨k6,o5,.own (H2.next+15) 0 n6 n6 1 false,rfl,?_,?_,?_⟩
    ·rw [he,if_neg c1]; exact f6.bq (bq6.mono kx.sub) (bq5.mono kx.sub) hsep.symm zU
    ·rw [hi,if_neg c1]; exact b6
    ·intro b h1 h2
     have:=bq5.lt w2 h1
     cases h2;omega
   ·have c3':¬ (g[j].1:Int)=3:=zO;have c3b:(g[j].1 == 3)=false:=by simpa using c3
    obtain ⟨Hx,hHx,kx,nx,fx⟩:=main 16 zO;obtain ⟨n6,H6,e6,b6,k6,nx6,f6,-⟩:=Bq.push (ty2:=af) (bytes:=24) (id:=H2.next+14) (id2:=H2.next+13) (cs:=[w]) (a:=g[j].2) (bq6.mono kx.sub) zU (hk2.trans kx) ⟨w,rfl,hr.mono kx.sub⟩ zO zO (fx _ zO zO) zO zO (fx _ zO zO) zO zO zO;have e6':cN ((((H2.up 16).put (H2.next+2) (.cells [.int .u8 0,.nilSl] ak true)).put (H2.next+2) (.cells [.int .u8 (g[j].1:Int),w] ak true)).put (H2.next+13) (.cells [w] af true)) (H2.next+14) 1 24 af o6 (.own (H2.next+13) 0 1 1 1 true)=some (.own (H2.next+14) 0 n6 n6 1 false,H6):=by rw [hHx] at e6; exact e6
    refine zW (rc hl2 t17 hi2 hix hld v5 v6 v7 e6' c1' c3') ?_;rw [hso,c3b,Zq];refine ⟨k6,o5,.own (H2.next+14) 0 n6 n6 1 false,rfl,?_,?_,?_⟩
    ·rw [he,if_neg c1]; exact f6.bq (bq6.mono kx.sub) (bq5.mono kx.sub) hsep.symm zU
    ·rw [hi,if_neg c1]; exact b6
    ·intro b h1 h2
     have:=bq5.lt w2 h1
     cases h2;omega
  ·rintro T2 H2 hl2 hs2 hk2 ⟨o5,o6,hv,bq5,bq6,hsep⟩;simp only [wW,AO,zB,and_true] at hv;rw [Vo] at bq5 bq6 hv;refine zW (aB hl2 @aU) ?_;exact ⟨o5,o6,hv.1,hv.2.1,hv.2.2,hk2,bq5.sl,bq6.sl⟩
 rintro T2 H2 hs2 ⟨o5,o6,v5,v6,v7,k2,r5,r6⟩;have w2:=k2.wf;have le2:=k2.le;have u0:ad T2 0=.int .i64 (n:Int):=(hs2.at_ 0 zU).trans (zV (aB hl g0));have u4:ad T2 4=.nilSl:=(hs2.at_ 4 zU).trans (zV hl);have hl2:T2.length=84:=hs2.len.trans (by simp only [dj]; exact hl);refine db (fun T' H'=>Kp H2 H'/\ad T' 4=.nilSl/\(g.any fun x=>x.1 == 3)=true) rfl ?_ ?_
 ·cases hc:g.any fun x=>x.1 == 3 with
  | true =>
   rw [hc] at v7;refine zW (aV hl2 v7 u4 @aU) ?_;exact zK
  | false =>
   rw [hc] at v7;refine zW (aC hl2 v7 u0) ?_;refine AnsH.use (vz C (n:=n) (k:=-1) zF zO zO zO) ?_;rintro v H3 ⟨hr,hk3⟩;obtain ⟨k23,_,_⟩:=zT H2 zK hk3;have k3:Kp H H3:=k2.trans k23;have le_k3:=k3.le;have w3:=k3.wf;have ov:=hr.one;have n3:H2.next+7<=H3.next:=hk3.le
   have f3:H3.get (H2.next+5)=none:=hk3.free (show H2.next+5<H2.next+7 by omega) (w2.fresh (b:=H2.next+5) zO);refine zW (aV hl2 (xF ov) @tK hrs) ?_;refine ⟨?_,zK⟩;have e:Lin.consP n g=[(Lin.unitC n (-1),false)]:=by unfold Lin.consP; rw [if_neg (by rw [hc]; decide)]
   rw [e];obtain ⟨Hx,hHx⟩:∃ Hx,Hx=H3.put (H2.next+5) (.cells [v,.bool false] t_api_Con true):=⟨_,rfl⟩
   have sx:Sub H3 Hx:=by rw [hHx]; exact aP f3
   have:Own conE t_api_Con H Hx (H2.next+5) true (.own (H2.next+5) 0 1 1 2 true) [(Lin.unitC n (-1),false)]:=⟨[v,.bool false],rfl,by rw [hHx]; exact au _ _ _,Cells.one (E:=conE) ⟨v,rfl,hr.mono sx⟩,zO⟩
   rw [<- hHx];exact this.sl
 rintro T3 H3 hs3 ⟨k23,x4,hyes⟩;have k3:Kp H H3:=k2.trans k23;have le_k3:=k3.le;have w3:=k3.wf;have le3:=k3.le;have x0:ad T3 0=.int .i64 (n:Int):=(hs3.at_ 0 zU).trans u0;have x5:ad T3 5=o5:=(hs3.at_ 5 zU).trans v5;have x6:ad T3 6=o6:=(hs3.at_ 6 zU).trans v6;have hl3:T3.length=84:=hs3.len.trans hl2;have hE:∀ a∈Lin.linesOf g,a.length=n+1/\Lin.Bd (2^m) a:=fun a ha=>hrow _ (Lin.mem_lines.1 ha);have hI:∀ a∈Lin.raysOf g,a.length=n+1/\Lin.Bd (2^m) a:=fun a ha=>by
  obtain ⟨y,hy,rfl⟩:=AU ha;exact hrow _ hy
 have lE:=DP g;have lI:=Hb g;obtain ⟨c1,c2⟩:=sP (d:=n+1) (m:=m) zO zO hE hI;have hT:=Lin.gens_told (d:=n+1) (fun a ha=>(hE a ha).1) (fun a ha=>(hI a ha).1);have lL:=ech_len hT.form;have hcI:(Lin.raysOf g).length^n<1099000000000:=VS (Xh lI n) hcnt;have lR:(Lin.gensR (n+1) (Lin.linesOf g) (Lin.raysOf g)).length<=1099000000000:=by
  have:=hT.dd.count3 (fun a ha=>(hI a ha).1)
  simp only [W7] at this;omega
 obtain ⟨L,hL⟩:∃ L,L=Lin.gensL (n+1) (Lin.linesOf g) (Lin.raysOf g):=⟨_,rfl⟩
 obtain ⟨R,hR⟩:∃ R,R=Lin.gensR (n+1) (Lin.linesOf g) (Lin.raysOf g):=⟨_,rfl⟩
 have lnR:∀ r∈R,r.length=n+1:=fun r hr=>by rw [hR] at hr; exact (c2 r hr).1
 have smR:∀ r∈R,∀ z∈r,St z:=fun r hr z hz=>by
  rw [hR] at hr;exact (jk (c2 r hr).2 z hz).sm zO
 have ej:IntKind.i64.wrap ((n:Int)+1)=((n+1:Nat):Int):=by rw [wrap_i64] <;> omega
 refine db (fun T' H'=>∃ p q,ad T' 10=p/\ad T' 11=q/\Kp H H'/\dS H' p L/\dS H' q R) rfl ?_ ?_
 ·refine zW (cr hl3 x0 x5 x6 ej) ?_;refine AnsH.use (zk C (d:=n+1) (m:=m) zF ((r5.mono k23.sub).mono (zG H3)) ((r6.mono k23.sub).mono (zG H3)) zO zO zO zO (by simpa using hcI) hE hI hm) ?_;rintro v H4 ⟨p,q,rfl,hp,hq,hk4⟩;obtain ⟨k34,_,_⟩:=zT H3 zK hk4;have k4:Kp H H4:=k3.trans k34;have le_k4:=k4.le;refine zW (aB hl3 @aU) ?_;rw [hL,hR];exact ⟨p,q,rfl,rfl,zK,hp,hq⟩
 rintro T4 H4 hs4 ⟨p,q,y10,y11,k4,hp,hq⟩;have w4:=k4.wf;have le4:=k4.le;have y0:ad T4 0=.int .i64 (n:Int):=(hs4.at_ 0 zU).trans x0;have y4:ad T4 4=.nilSl:=(hs4.at_ 4 zU).trans x4;have hl4:T4.length=84:=hs4.len.trans hl3;rw [<- hL] at lL;rw [<- hR] at lR;refine db (fun T' H'=>∃ o,ad T' 4=o/\Kp H4 H'/\Bq conE t_api_Con H4 H' o (L.map fun r=>(r,true))) rfl ?_ ?_
 ·refine zW (aC hl4 y10 hp.lenV) ?_;refine am H4 [4] (fun j vs H'=>∃ o,vs=[o]/\Bq conE t_api_Con H4 H' o ((L.take j).map fun r=>(r,true))) (a:=0) (N:=L.length) rfl (by refine zW hl4 ?_; rfl) (zV hl4) (II _) zO (by simp only [dj,hl4]; rfl) rfl (fun j vs H' m ⟨o,q1,q2⟩=>⟨o,q1,q2.mono (Sub.bump H' m)⟩) (Kp.up (Kp.refl w4) _) ⟨.nilSl,by exact zV (aB hl4 y4),Bq.nil⟩ ?_ ?_
  ·rintro j T5 H5 _ hj hl5 hi5 hs5 hk5 ⟨o,hv,ho⟩;have w5:=hk5.wf;have le_hk5:=hk5.le;have le5:=hk5.le;simp only [wW,AO,zB,and_true] at hv;have t55:ad T5 55=p:=(hs5.at_ 55 zU).trans (zV (aB hl4 y10));obtain ⟨w,hr,hld⟩:=dy (hp.mono hk5.sub) hj;have hix:=SlV.idx1 hp .i64 j hj;have ow:=hr.one;simp only [dj,hl4] at hl5;obtain ⟨n6,H6,e6,b6,k6,nx6,f6,-⟩:=Bq.push (ty2:=t_api_Con) (bytes:=32) (id:=H5.next+7) (id2:=H5.next+6) (H:=H5.up 9) (cs:=[w,.bool true]) (a:=(L[j],true)) (ho.mono (Sub.bump H5 9)) zU (hk5.up 9) ⟨w,rfl,hr.mono (Sub.bump H5 9)⟩ zO (by rw [cZ]; omega) (w5.fresh zO) zO (by rw [cZ]; omega) (w5.fresh zO) zO (by simp; omega) (by simp; omega);have e6':cN ((H5.up 9).put (H5.next+6) (.cells [w,.bool true] t_api_Con true)) (H5.next+7) 2 32 t_api_Con o (.own (H5.next+6) 0 1 1 2 true)=some (.own (H5.next+7) 0 n6 n6 2 false,H6):=e6;refine zW (gf hl5 t55 hi5 hix hld hv e6') ?_;refine ⟨k6,_,rfl,?_⟩;rw [Bj hj,VQ];exact b6
  ·rintro T5 H5 hl5 hs5 hk5 ⟨o,hv,ho⟩;simp only [wW,AO,zB,and_true] at hv;rw [Vo] at ho;refine zW (aB hl5 @aU) ?_;exact ⟨o,hv,hk5,ho⟩
 rintro T5 H5 hs5 ⟨o5',z4,k45,bo5⟩;have w5:=k45.wf;have le5:=k45.le;have z0:ad T5 0=.int .i64 (n:Int):=(hs5.at_ 0 zU).trans y0;have z11:ad T5 11=q:=(hs5.at_ 11 zU).trans y11;have hl5:T5.length=84:=hs5.len.trans hl4;refine db (fun T' H'=>∃ o,ad T' 4=o/\Kp H4 H'/\Bq conE t_api_Con H4 H' o ((L.map fun r=>(r,true))++(R.filter fun r=>!decide (r=Lin.unitC n 1)).map fun r=>(r,false))) rfl ?_ ?_
 ·refine zW (aC hl5 z11 hq.lenV) ?_;refine am H4 [4] (fun j vs H'=>∃ o,vs=[o]/\Bq conE t_api_Con H4 H' o ((L.map fun r=>(r,true))++((R.take j).filter fun r=>!decide (r=Lin.unitC n 1)).map fun r=>(r,false))) (a:=0) (N:=R.length) rfl (by refine zW hl5 ?_; rfl) (zV hl5) (II _) zO (by simp only [dj,hl5]; rfl) rfl (fun j vs H' m ⟨o,q1,q2⟩=>⟨o,q1,q2.mono (Sub.bump H' m)⟩) (k45.up _) ⟨o5',by exact zV (aB hl5 z4),by rw [Yp,XZ,AO,Wp]; exact bo5.mono (Sub.bump H5 _)⟩ ?_ ?_
  ·rintro j T6 H6 _ hj hl6 hi6 hs6 hk6 ⟨o,hv,ho⟩;have w6:=hk6.wf;have le_hk6:=hk6.le;have le6:=hk6.le;simp only [wW,AO,zB,and_true] at hv;have t0:ad T6 0=.int .i64 (n:Int):=(hs6.at_ 0 zU).trans (zV (aB hl5 z0));have t67:ad T6 67=q:=(hs6.at_ 67 zU).trans (zV (aB hl5 z11));obtain ⟨w,hr,hld⟩:=dy (hq.mono hk6.sub) hj;have hix:=SlV.idx1 hq .i64 j hj;have ow:=hr.one;simp only [dj,hl5] at hl6;have hm:=rZ hj;refine zW (eW hl6 t0 t67 hi6 hix hld) ?_;refine AnsH.use (vz C (n:=n) (k:=1) zF zO zO zO) ?_;rintro v H7 ⟨hu,hk7⟩;obtain ⟨k67,_,_⟩:=zT H6 zK hk7;have k47:Kp H4 H7:=hk6.trans k67;have le_k47:=k47.le;have w7:=k67.wf;refine zW hl6 ?_;refine AnsH.eq (xS C zF ((hr.mono k67.sub).mono (zG H7)) (hu.mono (zG H7)) (by rw [lnR _ hm]; omega) (smR _ hm)) fun H8 hk8=>?_;obtain ⟨k78,_,_⟩:=zT H7 zK hk8;have k48:Kp H4 H8:=k47.trans k78;have le_k48:=k48.le;have k68:Kp H6 H8:=k67.trans k78;have le_k68:=k68.le;have w8:=k48.wf;by_cases hq1:R[j]=Lin.unitC n 1
   ·refine zW (aC hl6 hv hq1) ?_;refine ⟨k48,_,rfl,?_⟩;rw [Bj hj,Wd];simp only [hq1,W9,XZ,decide_true,Yg,Vx,if_false,Wp];exact ho.mono k68.sub
   ·have lf:((R.take j).filter fun r=>!decide (r=Lin.unitC n 1)).length<=R.length:=Oc (WQ _ _) (by rw [Vu]; omega);obtain ⟨n8,H9,e8,b8,k8,nx8,f8,-⟩:=Bq.push (ty2:=t_api_Con) (bytes:=32) (id:=H8.next+4) (id2:=H8.next+3) (H:=H8.up 6) (cs:=[w,.bool false]) (a:=(R[j],false)) ((ho.mono k68.sub).mono (Sub.bump H8 6)) zU (k48.up 6) ⟨w,rfl,(hr.mono k68.sub).mono (Sub.bump H8 6)⟩ zO (by rw [cZ]; omega) (w8.fresh zO) zO (by rw [cZ]; omega) (w8.fresh zO) zO (by rw [Vg,B8,B8]; omega) (by rw [Vg,B8,B8]; omega);have e8':cN ((H8.up 6).put (H8.next+3) (.cells [w,.bool false] t_api_Con true)) (H8.next+4) 2 32 t_api_Con o (.own (H8.next+3) 0 1 1 2 true)=some (.own (H8.next+4) 0 n8 n8 2 false,H9):=e8;refine zW (cr hl6 hv hq1 e8' (xF ow)) ?_;refine ⟨k8,_,rfl,?_⟩;rw [Bj hj,Wd];simp only [W9,XZ,hq1,decide_false,YY,if_true,VQ,wW,AO,<- W0];exact b8
  ·rintro T6 H6 hl6 hs6 hk6 ⟨o,hv,ho⟩;simp only [wW,AO,zB,and_true] at hv;rw [Vo] at ho;refine zW (aB hl6 @aU) ?_;exact ⟨o,hv,hk6,ho⟩
 rintro T6 H6 hs6 ⟨o6',a4,k46,bo6⟩;have hl6:T6.length=84:=hs6.len.trans hl5;refine WC.wb ?_;refine zW (aC hl6 @a4 hrs) ?_;have hG:Lin.consP n g=(L.map fun r=>(r,true))++(R.filter fun r=>!decide (r=Lin.unitC n 1)).map fun r=>(r,false):=by
  unfold Lin.consP;rw [if_pos hyes,<- hL,<- hR]
 rw [hG];exact ⟨bo6.sl,k4.trans k46⟩
end
def mF {x y z a b c:AV} {ty:Nat} (ha:One a) (hb:One b) (hc:One c):Db (some (.cells [x,y,z] ty true)) 3 0 (.agg [a,b,c])=some (.cells [a,b,c] ty true):=by
 simpa using iN (cs:=[x,y,z]) (vs:=[a,b,c]) (ty:=ty) (n:=3) (o:=0) (v:=.agg [a,b,c]) ⟨rfl,rfl,by simp [ha.2,hb.2,hc.2]⟩ (by simp)
def Qx {x y z a b c:AV} (ha:One a) (hb:One b) (hc:One c):ia [x,y,z] [((0,1),a),((1,1),b),((2,1),c)]=some (.agg [a,b,c]):=by
 simp [ia,cX,ha.1,ha.2,hb.1,hb.2,hc.1,hc.2]
section
variable {H:Heap} {s:AV}
def Eu {ty:Nat} {l:List (List Int × Bool)} (h:SlV conE ty H s l):SlV conQE ty H s (l.map fun c=>(c.1.map eR,c.2)):=by
 obtain ⟨cells,hr,ht,hc,ha⟩:=h;refine ⟨cells,hr,ht,by rw [hc,B8]; rfl,fun i a hi=>?_⟩;rw [VT,Ai] at hi;obtain ⟨z,hz,rfl⟩:=hi;obtain ⟨w,h1,h2⟩:=ha i z hz;exact ⟨w,h1,h2.raw⟩
def Ea {ty:Nat} {l:List (Nat × List Int)} (h:SlV genE ty H s l):SlV genQE ty H s (l.map fun c=>(c.1,c.2.map eR)):=by
 obtain ⟨cells,hr,ht,hc,ha⟩:=h;refine ⟨cells,hr,ht,by rw [hc,B8]; rfl,fun i a hi=>?_⟩;rw [VT,Ai] at hi;obtain ⟨z,hz,rfl⟩:=hi;obtain ⟨w,h1,h2⟩:=ha i z hz;exact ⟨w,h1,h2.raw⟩
end
def F8 (z:Int):fE (eR z)=z:=by
 unfold fE eR;simp only [bI];by_cases h:z<0
 ·simp [h]; omega
 ·simp [h]; omega
def Md (l:List Int):(l.map eR).map fE=l:=by
 rw [Xd]
 conv=>rhs; rw [<- YM l]
 exact WN fun z _=>F8 z
section
open Lin
variable {n m:Nat}
def tD {l:List (V × Bool)} (hn:n<=5) (h:∀ c∈l,c.1.length=n+1/\Bd (2^m) c.1):∀ x∈gensP n l,x.2.length=n+1/\Bd (2^(64*(m+4))) x.2:=fun x hx=>by
 have hE:∀ a∈eqsOf l,a.length=n+1/\Bd (2^m) a:=fun a ha=>h _ (mem_eqs.1 ha);have hI:∀ a∈ineqsOf n l,a.length=n+1/\Bd (2^m) a:=fun a ha=>by
  rcases mem_ineqs.1 ha with rfl | ha
  ·exact ⟨unitC_len n 1,GU n m⟩
  ·exact h _ ha
 obtain ⟨c1,c2⟩:=sP (d:=n+1) (m:=m) zO zO hE hI;unfold gensP at hx;split at hx
 ·rcases Vf.1 hx with hx | hx
  ·obtain ⟨r,hr,rfl⟩:=uL.1 hx;exact c1 r hr
  ·obtain ⟨r,hr,rfl⟩:=uL.1 hx;exact c2 r hr
 ·cases hx
def K2 (n m:Nat):Bd (2^m) (unitC n (-1)):=fun i=>by
 have h1:1<=2^m:=VL zU;unfold unitC at_;cases i with
 | zero=>simpa using h1
 | succ i =>
  rw [WG,dH,V9];split <;> simp
def Mz {g:List (Nat × V)} (hn:n<=5) (h:∀ x∈g,x.2.length=n+1/\Bd (2^m) x.2):∀ c∈consP n g,c.1.length=n+1/\Bd (2^(64*(m+4))) c.1:=fun x hx=>by
 have hE:∀ a∈linesOf g,a.length=n+1/\Bd (2^m) a:=fun a ha=>h _ (mem_lines.1 ha);have hI:∀ a∈raysOf g,a.length=n+1/\Bd (2^m) a:=fun a ha=>by
  obtain ⟨y,hy,rfl⟩:=AU ha;exact h _ hy
 obtain ⟨c1,c2⟩:=sP (d:=n+1) (m:=m) zO zO hE hI;unfold consP at hx;split at hx
 ·rcases Vf.1 hx with hx | hx
  ·obtain ⟨r,hr,rfl⟩:=uL.1 hx;exact c1 r hr
  ·obtain ⟨r,hr,rfl⟩:=uL.1 hx;exact c2 r (Vj.1 hr).1
 ·rw [Vh] at hx;subst hx;exact ⟨unitC_len n (-1),K2 n _⟩
def I4 {k n:Nat} (hk:k<=1023) (hn:n<=4):k^n<1099000000000:=by
 have h1:k^n<=1023^n:=Xh hk n;have h2:1023^n<=1023^4:=VD zU hn;have h3:(1023:Nat)^4=1095222947841:=by decide
 omega
end
abbrev Cc:AV:=.agg [.int .i64 0,.nilSl,.nilSl]
def PolyV (H:Heap) (v:AV) (n:Nat) (c:List (List Int × Bool)) (g:List (Nat × List Int)):Prop:=∃ vc vg,v=.agg [.int .i64 (n:Int),vc,vg]/\SlV conE t_api_Con H vc c/\SlV genE ak H vg g
def PolyV.mono {H H':Heap} (hs:Sub H H') {v:AV} {n:Nat} {c:List (List Int × Bool)} {g:List (Nat × List Int)} (h:PolyV H v n c g):PolyV H' v n c g:=by
 obtain ⟨vc,vg,e,h1,h2⟩:=h;exact ⟨vc,vg,e,h1.mono hs,h2.mono hs⟩
def mB (H:Heap) (v:AV) (n:Nat) (g:List (Nat × List Int)):Prop :=
 (v=.tup [Cc,.int .i64 4]/\(1024<=g.length\/1024<=(Lin.consP n g).length))\/∃ p,v=.tup [p,.int .i64 0]/\PolyV H p n (Lin.consP n g) g/\g.length<1024/\(Lin.consP n g).length<1024
section
variable {tab:Nat->Option aw} {H:Heap} {s:AV}
def A5 (C:Code tab) (hw:Wf H) {n m:Nat} {g:List (Nat × List Int)} (hs:SlV genE ak H s g) (hbig:g.length<1099511627776) (hn:n<=4) (hrow:∀ x∈g,x.2.length=n+1/\Lin.Bd (2^m) x.2) (hm:m<=300000) :
  Ans tab (.fn pJ [.int .i64 (n:Int),s]) H fun v H'=>mB H' v n g/\Kp H H':=by
 have os:=hs.one;refine bz C.q52 zU fun T hl g0 g1=>?_;by_cases q1:(1024:Int)<=(g.length:Int)
 ·refine zW (eW hl g0 g1 hs.lenV q1 @mF) ?_;exact ⟨.inl ⟨rfl,.inl zO⟩,zK⟩
 refine zW (cr hl g0 g1 hs.lenV q1) ?_;refine AnsH.use (A6 C zF (hs.mono (zG H)) hn zO (I4 zO hn) hrow hm) ?_;rintro v H2 ⟨hc,hk2⟩;obtain ⟨k2,_,w2⟩:=zT H zK hk2;have ov:=hc.one;have d0:=hk2.get (b:=H.next) (e:=.cells [.int .i64 0,.nilSl,.nilSl] ah true) (cR);have lt0:=w2 _ _ d0;by_cases q2:(1024:Int)<=((Lin.consP n g).length:Int)
 ·refine zW (gf hl g0 g1 hc.lenV q2 d0 @mF) ?_;exact ⟨.inl ⟨rfl,.inr zO⟩,zK⟩
 have st:NoTy [t_api_Con,aa,ae,ak] H2 H.next:=NoTy.ty d0 zU
 refine zW (ki hl hc.lenV q2 d0 g0 g1 @Qx @mF) ?_;refine ⟨.inr ⟨_,rfl,⟨v,s,rfl,?_,?_⟩,zO,zO⟩,zK⟩
 ·have m3:NoTy (t_api_Con :: conE.tys) H2 H.next:=NoTy.ty d0 zU
  exact SlV.monoT (E:=conE) zS hc
 ·have m3:NoTy (ak :: genE.tys) H2 H.next:=NoTy.ty d0 zU
  exact SlV.monoT (E:=genE) zS (hs.mono k2.sub)
end
section
open Lin
variable {n:Nat}
def EH {l:List (V × Bool)} (hn:n<=8) (hl:l.length<=60) (h:∀ c∈l,c.1.length=n+1):dK n (l.map fun c=>(c.1.map eR,c.2))=0:=by
 unfold dK;rw [if_neg zO,if_neg (by rw [B8]; omega),if_neg,if_neg]
 ·rw [VA];rintro ⟨c,hc,h1⟩;obtain ⟨x,hx,rfl⟩:=uL.1 hc;have h1:=of_decide_eq_true h1
  have:=h x hx
  simp only [B8] at h1;omega
 ·rw [VA];rintro ⟨c,hc,h1⟩;obtain ⟨x,hx,rfl⟩:=uL.1 hc
  have:=h x hx
  rw [V3,B5 zO] at h1;cases h1
def OL {l:List (V × Bool)} (hn:n<=60) (h:∀ c∈l,c.1.length=n+1/\∀ z∈c.1,St z):∀ c∈l.map fun c=>(c.1.map eR,c.2),vJ c.1:=fun c hc=>by
 obtain ⟨x,hx,rfl⟩:=uL.1 hc;exact Ts (by rw [(h x hx).1]; omega) (h x hx).2
def EG {g:List (Nat × V)} (hn:n<=8) (hl:g.length<=60) (h:ValidG n g) (hk:∀ x∈g,x.1=1\/x.1=2\/x.1=3):Ss n (g.map fun c=>(c.1,c.2.map eR))=0:=by
 unfold Ss;rw [if_neg zO,if_neg (by rw [B8]; omega),if_neg,if_neg]
 ·rw [VA];rintro ⟨c,hc,h1⟩;obtain ⟨x,hx,rfl⟩:=uL.1 hc;have h1:=of_decide_eq_true h1
  have:=(h x hx).1
  simp only [B8] at h1;omega
 ·rw [VA];rintro ⟨c,hc,h1⟩;obtain ⟨x,hx,rfl⟩:=uL.1 hc;obtain ⟨h2,h3,h4⟩:=h x hx;simp only [FP,Md,WK,V3,B5 (r:=x.2) zO,FQ] at h1;rcases h1 with h1 | h1
  ·cases h1
  ·rcases hk x hx with e | e | e
   ·rw [if_pos (.inl e)] at h1;exact absurd (h4 zO) (of_decide_eq_true h1)
   ·rw [if_pos (.inr e)] at h1;exact absurd (h4 zO) (of_decide_eq_true h1)
   ·rw [if_neg zO,if_pos e] at h1
    have:=h3 e
    have:=of_decide_eq_true h1
    omega
def OK {g:List (Nat × V)} (hn:n<=60) (h:∀ c∈g,c.2.length=n+1/\∀ z∈c.2,St z):∀ c∈g.map fun c=>(c.1,c.2.map eR),vJ c.2:=fun c hc=>by
 obtain ⟨x,hx,rfl⟩:=uL.1 hc;exact Ts (by rw [(h x hx).1]; omega) (h x hx).2
end
section
variable {tab:Nat->Option aw} {H:Heap} {s:AV}
def El (C:Code tab) (hw:Wf H) {n:Int} {l:List ur} (hs:SlV conQE t_api_Con H s l) (hbig:∀ c∈l,vJ c.1) (hlen:l.length<4611686018427387904) (hc:dK n l≠0) :
  Ans tab (.fn nw [.int .i64 n,s]) H fun v H'=>v=.tup [Cc,.int .i64 (dK n l)]/\Kp H H':=by
 refine bz C.q20 zU fun T hl g0 g1=>?_;refine zW (aC hl g0 g1) ?_;refine AnsH.eq (nC C zF (hs.mono (zG H)) hbig hlen) fun H2 hk2=>?_;obtain ⟨k2,_,w2⟩:=zT H zK hk2;have d0:=hk2.get (b:=H.next) (e:=.cells [.int .i64 0,.nilSl,.nilSl] ah true) (cR);have lt0:=w2 _ _ d0;have hc:¬ dK n l=0:=hc;refine zW (eW hl g0 g1 hc d0 @mF) ?_;exact zK
def SH (C:Code tab) (hw:Wf H) {n m m2:Nat} {l:List (List Int × Bool)} (hs:SlV conE t_api_Con H s l) (hn:n<=4) (hlen:l.length<=60) (hrow:∀ c∈l,c.1.length=n+1/\Lin.Bd (2^m) c.1) (hm:m<=300000) (hG:∀ x∈Lin.gensP n l,Lin.Bd (2^m2) x.2) (hm2:m2<=300000) :
  Ans tab (.fn nw [.int .i64 (n:Int),s]) H fun v H'=>mB H' v n (Lin.gensP n l)/\Kp H H':=by
 refine bz C.q20 zU fun T hl g0 g1=>?_;refine zW (aC hl g0 g1) ?_;refine AnsH.eq (nC C zF ((Eu hs).mono (zG H)) (OL (n:=n) zO fun c hc=>⟨(hrow c hc).1,fun z hz=>(jk (hrow c hc).2 z hz).sm zO⟩) (by rw [B8]; omega)) fun H2 hk2=>?_;rw [EH zO hlen fun c hc=>(hrow c hc).1];obtain ⟨k2,_,w2⟩:=zT H zK hk2;refine zW (aC hl g0 g1) ?_;refine AnsH.use (wz C zF ((hs.mono k2.sub).mono (zG H2)) hn zO (I4 zO hn) hrow hm) ?_;rintro v H3 ⟨hg,hk3⟩;obtain ⟨k23,_,_⟩:=zT H2 zK hk3;have k3:Kp H H3:=k2.trans k23;have le_k3:=k3.le;have w3:=k3.wf;refine zW (aC hl g0 g1) ?_;refine AnsH.use (A5 C zF (hg.mono (zG H3)) ?_ hn (fun x hx=>⟨(tD zO hrow x hx).1,hG x hx⟩) hm2) ?_
 ·have hT:=Lin.gens_told (d:=n+1) (Lin.eqs_len (l:=l) fun c hc=>(hrow c hc).1) (Lin.ineqs_len (l:=l) fun c hc=>(hrow c hc).1);have h1:=hT.dd.count3 (Lin.ineqs_len (l:=l) fun c hc=>(hrow c hc).1);have h2:=ech_len hT.form;have h3:(Lin.ineqsOf n l).length^n<1099000000000:=I4 (Oc (tw l) zO) hn;simp only [W7] at h1;unfold Lin.gensP;split
  ·rw [Vg,B8,B8]; omega
  ·simp
 rintro v2 H4 ⟨hm4,hk4⟩;have k4:Kp H H4:=k3.trans (Kp.trans zK hk4);have le_k4:=k4.le;have w4:=k4.wf;have d0:=hk4.get (hk3.get (hk2.get (b:=H.next) (e:=.cells [.int .i64 0,.nilSl,.nilSl] ah true) (cR)));have lt0:=w4 _ _ d0;rcases hm4 with ⟨rfl,hm4⟩ | ⟨p,rfl,⟨vc,vg,rfl,hc,hg4⟩,h1,h2⟩
 ·refine zW (cr hl g0 g1 d0 @mF) ?_;exact ⟨.inl ⟨rfl,hm4⟩,zK⟩
 ·have oc:=hc.one;have og:=hg4.one;have e1:Eg 0 (.tup [.agg [.int .i64 (n:Int),vc,vg],.int .i64 0])=some (.agg [.int .i64 (n:Int),vc,vg]):=rfl;refine zW (cr hl g0 g1 d0 @mF) ?_;refine ⟨.inr ⟨_,rfl,⟨vc,vg,rfl,?_,?_⟩,h1,h2⟩,zK⟩
  ·have m3:NoTy (t_api_Con :: conE.tys) H4 H.next:=NoTy.ty d0 zU
   exact SlV.monoT (E:=conE) zS hc
  ·have m3:NoTy (ak :: genE.tys) H4 H.next:=NoTy.ty d0 zU
   exact SlV.monoT (E:=genE) zS hg4
def DR {n k m:Nat} (h:n<2^m) (hm:m<=64*k):(ag n).length<=k:=gZ (by
 have e:B^k=2^(64*k):=by
  have:B=2^64:=by decide
  rw [this,<- Ym]
 rw [e];exact Vi h (VD zU hm))
def Ie (H:Heap) (v:AV) (n:Nat) (g:List (Nat × List Int)):Prop :=
 (v=.tup [Cc,.int .i64 4]/\1024<=(Lin.consP n g).length)\/mB H v n (Lin.gensP n (Lin.consP n g))
def tJ (C:Code tab) (hw:Wf H) {n m m2 m3:Nat} {g:List (Nat × List Int)} (hs:SlV genE ak H s g) (hn:n<=4) (hlen:g.length<=60) (hv:Lin.ValidG n g) (hk:∀ x∈g,x.1=1\/x.1=2\/x.1=3) (hrow:∀ c∈g,Lin.Bd (2^m) c.2) (hm:m<=300000) (hC:∀ c∈Lin.consP n g,Lin.Bd (2^m2) c.1) (hm2:m2<=300000) (hG:∀ x∈Lin.gensP n (Lin.consP n g),Lin.Bd (2^m3) x.2) (hm3:m3<=300000)
  (hlc:(Lin.consP n g).length<=1022\/1024<=(Lin.consP n g).length) :
  Ans tab (.fn pL [.int .i64 (n:Int),s]) H fun v H'=>Ie H' v n g/\Kp H H':=by
 have hrow':∀ c∈g,c.2.length=n+1/\Lin.Bd (2^m) c.2:=fun c hc=>⟨(hv c hc).1,hrow c hc⟩
 have hgood:∀ c∈g.map fun c=>(c.1,c.2.map eR),∀ z∈c.2,Lim z.2/\z.2.length<=1048576:=fun c hc z hz=>by
  obtain ⟨x,hx,rfl⟩:=uL.1 hc;obtain ⟨y,hy,rfl⟩:=uL.1 hz;have hb:=jk (hrow x hx) y hy;exact ⟨bu _,DR (n:=y.natAbs) (k:=1048576) (m:=m+1) hb zO⟩
 refine bz C.q44 zU fun T hl g0 g1=>?_;refine zW (aC hl g0 g1) ?_;refine AnsH.eq (vA C zF ((Ea hs).mono (zG H)) (OK (n:=n) zO fun c hc=>⟨(hrow' c hc).1,fun z hz=>(jk (hrow c hc) z hz).sm zO⟩) hgood (by rw [B8]; omega)) fun H2 hk2=>?_;rw [EG zO hlen hv hk];obtain ⟨k2,_,w2⟩:=zT H zK hk2;refine zW (aC hl g0 g1) ?_;refine AnsH.use (A6 C zF ((hs.mono k2.sub).mono (zG H2)) hn zO (I4 zO hn) hrow' zO) ?_;rintro v H3 ⟨hc3,hk3⟩;obtain ⟨k23,_,_⟩:=zT H2 zK hk3;have k3:Kp H H3:=k2.trans k23;have le_k3:=k3.le;have w3:=k3.wf;have d3:=hk3.get (hk2.get (b:=H.next) (e:=.cells [.int .i64 0,.nilSl,.nilSl] ah true) (cR));have lt3:=w3 _ _ d3;by_cases q1:(1024:Int)<=((Lin.consP n g).length:Int)
 ·refine zW (gf hl g0 g1 hc3.lenV q1 d3 @mF) ?_;exact ⟨.inl ⟨rfl,zO⟩,zK⟩
 have hrc:∀ c∈Lin.consP n g,c.1.length=n+1/\Lin.Bd (2^m2) c.1:=fun c hc=>⟨(Mz zO hrow' c hc).1,hC c hc⟩
 refine zW (aV hl hc3.lenV q1 g0) ?_;refine AnsH.use (wz C zF (hc3.mono (zG H3)) hn zO (I4 zO hn) hrc hm2) ?_;rintro v4 H4 ⟨hg4,hk4⟩;obtain ⟨k34,_,_⟩:=zT H3 zK hk4;have k4:Kp H H4:=k3.trans k34;have le_k4:=k4.le;have w4:=k4.wf;refine zW (aB hl g0) ?_;refine AnsH.use (A5 C zF (hg4.mono (zG H4)) ?_ hn (fun x hx=>⟨(tD zO hrc x hx).1,hG x hx⟩) hm3) ?_
 ·have hT:=Lin.gens_told (d:=n+1) (Lin.eqs_len (l:=Lin.consP n g) fun c hc=>(hrc c hc).1) (Lin.ineqs_len (l:=Lin.consP n g) fun c hc=>(hrc c hc).1);have h1:=hT.dd.count3 (Lin.ineqs_len (l:=Lin.consP n g) fun c hc=>(hrc c hc).1);have h2:=ech_len hT.form;have h3:(Lin.ineqsOf n (Lin.consP n g)).length^n<1099000000000:=I4 (Oc (tw _) zO) hn;simp only [W7] at h1;unfold Lin.gensP;split
  ·rw [Vg,B8,B8]; omega
  ·simp
 rintro v5 H5 ⟨hm5,hk5⟩;have k5:Kp H H5:=k4.trans (Kp.trans zK hk5);have le_k5:=k5.le;have w5:=k5.wf;have d0:=hk5.get (hk4.get d3);have lt0:=w5 _ _ d0;rcases hm5 with ⟨rfl,hm5⟩ | ⟨p,rfl,⟨vc,vg,rfl,hc,hg5⟩,h1,h2⟩
 ·refine zW (cr hl g0 g1 d0 @mF) ?_;exact ⟨.inr (.inl ⟨rfl,hm5⟩),zK⟩
 ·have oc:=hc.one;have og:=hg5.one;refine zW (cr hl g0 g1 d0 @mF) ?_;refine ⟨.inr (.inr ⟨_,rfl,⟨vc,vg,rfl,?_,?_⟩,h1,h2⟩),zK⟩
  ·have m3:NoTy (t_api_Con :: conE.tys) H5 H.next:=NoTy.ty d0 zU
   exact SlV.monoT (E:=conE) zS hc
  ·have m3:NoTy (ak :: genE.tys) H5 H.next:=NoTy.ty d0 zU
   exact SlV.monoT (E:=genE) zS hg5
end
section
variable {tab:Nat->Option aw} {base i k:Nat} {T0:Tm} {dst:Option Nat} {op:AOp} {us:List (Nat × Option Nat)} {adds:List Nat} {r:List (Nat × List Nat)} {ds:List jm} {Vs:List AV} {Cs:List Heap} {Es:List (Option Ent)} {Q:DS->Prop} {t:Nat} {w:Bool}
end
section
variable {tab:Nat->Option aw} {H:Heap} {s:AV}
def yw (C:Code tab) (hw:Wf H) {a b:AV} {l m:List (List Int × Bool)} (ha:SlV conE t_api_Con H a l) (hb:SlV conE t_api_Con H b m) (hl':l.length<1099511627776) (hz:∀ r∈l,r.1.length<1099511627776/\∀ z∈r.1,St z) :
  Ans tab (.fn d9 [a,b]) H fun v H'=>v=.bool (decide (l=m))/\Kp H H':=by
 refine bz C.q99 zU fun T hl g0 g1=>?_;by_cases he:l.length=m.length
 ·have lb:lenV b=some (.int .i64 (l.length:Int)):=by rw [hb.lenV,he]
  refine zW (cr hl g0 g1 ha.lenV lb) ?_;refine bC H [5] (fun k vs H'=>∃ i:Nat,vs=[.int .i64 (i:Int)]/\i+k=l.length/\∀ q (h:q<l.length) (h':q<m.length),q<i->l[q]=m[q]) l.length (by simp only [dj]; exact hl) rfl zK ⟨0,by refine zW (aC hl g0 g1) ?_; rfl,zO,fun q _ _ h=>by omega⟩ ?_;rintro k T1 H1 hl1 hs1 hk1 ⟨i,hv,hik,hP⟩;have w1:=hk1.wf;have le_hk1:=hk1.le;simp only [wW,AO,zB,and_true] at hv;have t0:ad T1 0=a:=(hs1.at_ 0 zU).trans (zV (aB hl g0));have t1:ad T1 1=b:=(hs1.at_ 1 zU).trans (zV (aV hl g0 g1 g1));by_cases hi:i<l.length
  ·have hii:(i:Int)<(l.length:Int):=zO;have hi':i<m.length:=zO;obtain ⟨cs,⟨w,rfl,hr⟩,-,h2,-⟩:=(ha.mono hk1.sub).at (pD hi);obtain ⟨cs',⟨w',rfl,hr'⟩,-,h2',-⟩:=(hb.mono hk1.sub).at (pD hi');have l0:aW H1 none (ap a (i*2))=some w:=h2 0 _ rfl;have l1:aW H1 none (ap a (i*2+1))=some (.bool l[i].2):=h2 1 _ rfl;have l0':aW H1 none (ap b (i*2))=some w':=h2' 0 _ rfl;have l1':aW H1 none (ap b (i*2+1))=some (.bool m[i].2):=h2' 1 _ rfl;have hix:co 2 a (.int .i64 (i:Int))=some (ap a (i*2)):=SlV.idx ha .i64 i hi;have hix':co 2 b (.int .i64 (i:Int))=some (ap b (i*2)):=SlV.idx hb .i64 i hi';have f0:xv 0 (ap a (i*2))=some (ap a (i*2)):=ha.fa zO 0 (i*2);have f1:xv 1 (ap a (i*2))=some (ap a (i*2+1)):=ha.fa zO 1 (i*2);have f0':xv 0 (ap b (i*2))=some (ap b (i*2)):=hb.fa zO 0 (i*2);have f1':xv 1 (ap b (i*2))=some (ap b (i*2+1)):=hb.fa zO 1 (i*2);have e:IntKind.i64.wrap ((i:Int)+1)=((i+1:Nat):Int):=by rw [wrap_i64] <;> omega
   refine zW (gf hl1 hv t0 t1 ha.lenV hii hi) ?_;by_cases hx:l[i].2=m[i].2
   ·skip
    refine aH ?_;refine zX (QK hl1 hv t0 t1 hix hix' l0 l1 l0' l1' f0 f1 f0' f1' hx (beq_self_eq_true (α:=Bool))) ?_;refine AnsH.eq (yx C zF (hr.mono (zG H1)) (hr'.mono (zG H1)) (hz _ (rZ hi)).1 (hz _ (rZ hi)).2) fun H2 hk2=>?_;obtain ⟨k12,_,_⟩:=zT H1 zK hk2;have k2:Kp H H2:=Kp.trans hk1 k12;have le_k2:=k2.le;have l0b:=bJ k12.sub l0;have l1b:=bJ k12.sub l1;have l0b':=bJ k12.sub l0';have l1b':=bJ k12.sub l1';cases hq:decide (l[i].1=m[i].1) with
    | true =>
     have hq:=of_decide_eq_true hq;refine zX (QI hl1 hv t0 t1 hix hix' l0 l1 l0' l1' l0b l1b l0b' l1b' f0 f1 f0' f1' hx e (beq_self_eq_true (α:=Bool))) ?_;refine ⟨zK,k-1,zO,i+1,rfl,zO,fun q h h' hqi=>?_⟩;by_cases eq:q=i
     ·subst eq; exact Prod.ext hq hx
     ·exact hP q h h' zO
    | false =>
     have hq:=of_decide_eq_false hq;refine zX (QI hl1 hv t0 t1 hix hix' l0 l1 l0' l1' l0b l1b l0b' l1b' f0 f1 f0' f1' hx e (beq_self_eq_true (α:=Bool))) ?_;refine ⟨?_,zK⟩;rw [decide_eq_false];intro e; subst e; exact hq rfl
   ·have hxb:(l[i].2 == m[i].2)=false:=by simpa using hx
    refine aH ?_;refine zX (Fd hl1 hv t0 t1 hix hix' l0 l1 l0' l1' f0 f1 f0' f1' hx hxb (beq_self_eq_true (α:=Bool))) ?_;refine ⟨?_,zK⟩;rw [decide_eq_false];intro e; subst e; exact hx rfl
  ·have hii:¬ (i:Int)<(l.length:Int):=zO;refine zW (gf hl1 hv t0 t1 ha.lenV hii hi) ?_;refine ⟨?_,zK⟩;rw [decide_eq_true (iH he fun q h h'=>hP q h h' zO)]
 ·have he':¬ (l.length:Int)=(m.length:Int):=zO;refine zW (gf hl g0 g1 ha.lenV hb.lenV he' he) ?_;refine ⟨?_,zK⟩;rw [decide_eq_false];intro e; subst e; exact he rfl
def yv (C:Code tab) (hw:Wf H) {a b:AV} {l m:List (Nat × List Int)} (ha:SlV genE ak H a l) (hb:SlV genE ak H b m) (hl':l.length<1099511627776) (hz:∀ r∈l,r.2.length<1099511627776/\∀ z∈r.2,St z) :
  Ans tab (.fn dZ [a,b]) H fun v H'=>v=.bool (decide (l=m))/\Kp H H':=by
 refine bz C.q100 zU fun T hl g0 g1=>?_;by_cases he:l.length=m.length
 ·have lb:lenV b=some (.int .i64 (l.length:Int)):=by rw [hb.lenV,he]
  refine zW (cr hl g0 g1 ha.lenV lb) ?_;refine bC H [5] (fun k vs H'=>∃ i:Nat,vs=[.int .i64 (i:Int)]/\i+k=l.length/\∀ q (h:q<l.length) (h':q<m.length),q<i->l[q]=m[q]) l.length (by simp only [dj]; exact hl) rfl zK ⟨0,by refine zW (aC hl g0 g1) ?_; rfl,zO,fun q _ _ h=>by omega⟩ ?_;rintro k T1 H1 hl1 hs1 hk1 ⟨i,hv,hik,hP⟩;have w1:=hk1.wf;have le_hk1:=hk1.le;simp only [wW,AO,zB,and_true] at hv;have t0:ad T1 0=a:=(hs1.at_ 0 zU).trans (zV (aB hl g0));have t1:ad T1 1=b:=(hs1.at_ 1 zU).trans (zV (aV hl g0 g1 g1));by_cases hi:i<l.length
  ·have hii:(i:Int)<(l.length:Int):=zO;have hi':i<m.length:=zO;obtain ⟨cs,⟨w,rfl,hr⟩,-,h2,-⟩:=(ha.mono hk1.sub).at (pD hi);obtain ⟨cs',⟨w',rfl,hr'⟩,-,h2',-⟩:=(hb.mono hk1.sub).at (pD hi');have l0:aW H1 none (ap a (i*2))=some (.int .u8 (l[i].1:Int)):=h2 0 _ rfl;have l1:aW H1 none (ap a (i*2+1))=some w:=h2 1 _ rfl;have l0':aW H1 none (ap b (i*2))=some (.int .u8 (m[i].1:Int)):=h2' 0 _ rfl;have l1':aW H1 none (ap b (i*2+1))=some w':=h2' 1 _ rfl;have hix:co 2 a (.int .i64 (i:Int))=some (ap a (i*2)):=SlV.idx ha .i64 i hi;have hix':co 2 b (.int .i64 (i:Int))=some (ap b (i*2)):=SlV.idx hb .i64 i hi';have f0:xv 0 (ap a (i*2))=some (ap a (i*2)):=ha.fa zO 0 (i*2);have f1:xv 1 (ap a (i*2))=some (ap a (i*2+1)):=ha.fa zO 1 (i*2);have f0':xv 0 (ap b (i*2))=some (ap b (i*2)):=hb.fa zO 0 (i*2);have f1':xv 1 (ap b (i*2))=some (ap b (i*2+1)):=hb.fa zO 1 (i*2);have e:IntKind.i64.wrap ((i:Int)+1)=((i+1:Nat):Int):=by rw [wrap_i64] <;> omega
   refine zW (gf hl1 hv t0 t1 ha.lenV hii hi) ?_;by_cases hx:l[i].1=m[i].1
   ·have hx2:(l[i].1:Int)=(m[i].1:Int):=zO;refine aH ?_;refine zX (Fd hl1 hv t0 t1 hix hix' l0 l1 l0' l1' f0 f1 f0' f1' hx hx2 (beq_self_eq_true (α:=Bool))) ?_;refine AnsH.eq (yx C zF (hr.mono (zG H1)) (hr'.mono (zG H1)) (hz _ (rZ hi)).1 (hz _ (rZ hi)).2) fun H2 hk2=>?_;obtain ⟨k12,_,_⟩:=zT H1 zK hk2;have k2:Kp H H2:=Kp.trans hk1 k12;have le_k2:=k2.le;have l0b:=bJ k12.sub l0;have l1b:=bJ k12.sub l1;have l0b':=bJ k12.sub l0';have l1b':=bJ k12.sub l1';cases hq:decide (l[i].2=m[i].2) with
    | true =>
     have hq:=of_decide_eq_true hq;refine zX (Pg hl1 hv t0 t1 hix hix' l0 l1 l0' l1' l0b l1b l0b' l1b' f0 f1 f0' f1' hx hx2 e (beq_self_eq_true (α:=Bool))) ?_;refine ⟨zK,k-1,zO,i+1,rfl,zO,fun q h h' hqi=>?_⟩;by_cases eq:q=i
     ·subst eq; exact Prod.ext hx hq
     ·exact hP q h h' zO
    | false =>
     have hq:=of_decide_eq_false hq;refine zX (Pg hl1 hv t0 t1 hix hix' l0 l1 l0' l1' l0b l1b l0b' l1b' f0 f1 f0' f1' hx hx2 e (beq_self_eq_true (α:=Bool))) ?_;refine ⟨?_,zK⟩;rw [decide_eq_false];intro e; subst e; exact hq rfl
   ·have hx2:¬ (l[i].1:Int)=(m[i].1:Int):=zO;have hxb:=hx2;refine aH ?_;refine zX (BC hl1 hv t0 t1 hix hix' l0 l1 l0' l1' f0 f1 f0' f1' hx hx2 hxb (beq_self_eq_true (α:=Bool))) ?_;refine ⟨?_,zK⟩;rw [decide_eq_false];intro e; subst e; exact hx rfl
  ·have hii:¬ (i:Int)<(l.length:Int):=zO;refine zW (gf hl1 hv t0 t1 ha.lenV hii hi) ?_;refine ⟨?_,zK⟩;rw [decide_eq_true (iH he fun q h h'=>hP q h h' zO)]
 ·have he':¬ (l.length:Int)=(m.length:Int):=zO;refine zW (gf hl g0 g1 ha.lenV hb.lenV he' he) ?_;refine ⟨?_,zK⟩;rw [decide_eq_false];intro e; subst e; exact he rfl
def fe (n:Nat) (l:List ur):Bool:=decide (n<l.length) || l.any fun c=>iX 5 1 c.1
def ko (C:Code tab) (hw:Wf H) {a:AV} {ls:List ur} {n:Nat} (ha:SlV conQE t_api_Con H a ls) (hn:n<4611686018427387904) :
  Ans tab (.fn Sv [a,.int .i64 (n:Int)]) H fun v H'=>v=.bool (fe n ls)/\Kp H H':=by
 refine bz C.q3 zU fun T hl g0 g1=>?_;by_cases he:n<ls.length
 ·have he':(n:Int)<(ls.length:Int):=zO;refine zW (eW hl g0 g1 ha.lenV he' he) ?_;exact ⟨by unfold fe; rw [decide_eq_true he]; rfl,zK⟩
 ·have he':¬ (n:Int)<(ls.length:Int):=zO;refine zW (eW hl g0 g1 ha.lenV he' he) ?_;refine bC H [5] (fun k vs H'=>∃ i:Nat,vs=[.int .i64 (i:Int)]/\i+k=ls.length/\∀ q (h:q<ls.length),q<i->iX 5 1 (ls[q]).1=false) ls.length (by simp only [dj]; exact hl) rfl zK ⟨0,by refine zW (aC hl g0 g1) ?_; rfl,zO,fun q _ h=>by omega⟩ ?_;rintro k T1 H1 hl1 hs1 hk1 ⟨i,hv,hik,hP⟩;have w1:=hk1.wf;have le_hk1:=hk1.le;simp only [wW,AO,zB,and_true] at hv;have t0:ad T1 0=a:=(hs1.at_ 0 zU).trans (zV (aB hl g0));by_cases hi:i<ls.length
  ·have hii:(i:Int)<(ls.length:Int):=zO;obtain ⟨cs,⟨w,rfl,hr⟩,-,h2,-⟩:=(ha.mono hk1.sub).at (pD hi);have hld:aW H1 none (ap a (i*2))=some w:=h2 0 _ rfl;have hix:co 2 a (.int .i64 (i:Int))=some (ap a (i*2)):=SlV.idx ha .i64 i hi;have hfa:xv 0 (ap a (i*2))=some (ap a (i*2)):=ha.fa zO 0 (i*2);have e:IntKind.i64.wrap ((i:Int)+1)=((i+1:Nat):Int):=by rw [wrap_i64] <;> omega
   refine zW (kj hl1 hv t0 ha.lenV hii hi hix hfa hld) ?_;refine AnsH.eq (vY C (many:=5) (lim:=1) zF (hr.mono (zG H1)) zO) fun H2 hk2=>?_;obtain ⟨k12,_,_⟩:=zT H1 zK hk2;have k2:Kp H H2:=Kp.trans hk1 k12;have le_k2:=k2.le;cases hq:iX 5 1 (ls[i]).1 with
   | true =>
    refine zW hl1 ?_;refine ⟨?_,zK⟩;unfold fe;rw [VA.2 ⟨_,rZ hi,hq⟩,Zz]
   | false =>
    refine zW (aC hl1 hv e) ?_;refine ⟨zK,k-1,zO,i+1,rfl,zO,fun q h hqi=>?_⟩;by_cases eq:q=i
    ·subst eq; exact hq
    ·exact hP q h zO
  ·have hii:¬ (i:Int)<(ls.length:Int):=zO;refine zW (eW hl1 hv t0 ha.lenV hii hi) ?_;refine ⟨?_,zK⟩;have e:(ls.any fun c=>iX 5 1 c.1)=false:=by
    rw [Wh];intro z hz;obtain ⟨q,hq,rfl⟩:=V6 hz;rw [hP q hq zO]; simp
   unfold fe;rw [decide_eq_false he,X5,e]
def lS (n:Nat) (l:List E6):Bool:=decide (n<l.length) || l.any fun c=>iX 5 1 c.2
def xq (C:Code tab) (hw:Wf H) {a:AV} {ls:List E6} {n:Nat} (ha:SlV genQE ak H a ls) (hn:n<4611686018427387904) :
  Ans tab (.fn dF [a,.int .i64 (n:Int)]) H fun v H'=>v=.bool (lS n ls)/\Kp H H':=by
 refine bz C.q4 zU fun T hl g0 g1=>?_;by_cases he:n<ls.length
 ·have he':(n:Int)<(ls.length:Int):=zO;refine zW (eW hl g0 g1 ha.lenV he' he) ?_;exact ⟨by unfold lS; rw [decide_eq_true he]; rfl,zK⟩
 ·have he':¬ (n:Int)<(ls.length:Int):=zO;refine zW (eW hl g0 g1 ha.lenV he' he) ?_;refine bC H [5] (fun k vs H'=>∃ i:Nat,vs=[.int .i64 (i:Int)]/\i+k=ls.length/\∀ q (h:q<ls.length),q<i->iX 5 1 (ls[q]).2=false) ls.length (by simp only [dj]; exact hl) rfl zK ⟨0,by refine zW (aC hl g0 g1) ?_; rfl,zO,fun q _ h=>by omega⟩ ?_;rintro k T1 H1 hl1 hs1 hk1 ⟨i,hv,hik,hP⟩;have w1:=hk1.wf;have le_hk1:=hk1.le;simp only [wW,AO,zB,and_true] at hv;have t0:ad T1 0=a:=(hs1.at_ 0 zU).trans (zV (aB hl g0));by_cases hi:i<ls.length
  ·have hii:(i:Int)<(ls.length:Int):=zO;obtain ⟨cs,⟨w,rfl,hr⟩,-,h2,-⟩:=(ha.mono hk1.sub).at (pD hi);have hld:aW H1 none (ap a (i*2+1))=some w:=h2 1 _ rfl;have hix:co 2 a (.int .i64 (i:Int))=some (ap a (i*2)):=SlV.idx ha .i64 i hi;have hfa:xv 1 (ap a (i*2))=some (ap a (i*2+1)):=ha.fa zO 1 (i*2);have e:IntKind.i64.wrap ((i:Int)+1)=((i+1:Nat):Int):=by rw [wrap_i64] <;> omega
   refine zW (kj hl1 hv t0 ha.lenV hii hi hix hfa hld) ?_;refine AnsH.eq (vY C (many:=5) (lim:=1) zF (hr.mono (zG H1)) zO) fun H2 hk2=>?_;obtain ⟨k12,_,_⟩:=zT H1 zK hk2;have k2:Kp H H2:=Kp.trans hk1 k12;have le_k2:=k2.le;cases hq:iX 5 1 (ls[i]).2 with
   | true =>
    refine zW hl1 ?_;refine ⟨?_,zK⟩;unfold lS;rw [VA.2 ⟨_,rZ hi,hq⟩,Zz]
   | false =>
    refine zW (aC hl1 hv e) ?_;refine ⟨zK,k-1,zO,i+1,rfl,zO,fun q h hqi=>?_⟩;by_cases eq:q=i
    ·subst eq; exact hq
    ·exact hP q h zO
  ·have hii:¬ (i:Int)<(ls.length:Int):=zO;refine zW (eW hl1 hv t0 ha.lenV hii hi) ?_;refine ⟨?_,zK⟩;have e:(ls.any fun c=>iX 5 1 c.2)=false:=by
    rw [Wh];intro z hz;obtain ⟨q,hq,rfl⟩:=V6 hz;rw [hP q hq zO]; simp
   unfold lS;rw [decide_eq_false he,X5,e]
end
def yP {H:Heap} {b:Nat} {x y:Int} {r:Bool} (h:H.get b=some (.cells [.int .i64 x,.int .i64 y] fW r)):xJ (F9 .i64) fW H (.own b 0 2 2 1 true) [x,y] :=
 ⟨[_,_],Rd.own h rfl (wT _),fun _ _ _ _ _ _ e=>by cases e; exact ⟨_,_,h⟩,rfl,fun i a hi=>by
  match i with
  | 0=>simp at hi; subst hi; exact ⟨_,rfl,rfl⟩
  | 1=>simp at hi; subst hi; exact ⟨_,rfl,rfl⟩
  | i+2=>simp at hi⟩
def Emp (H:Heap) (a e:Nat):Prop:=e<=H.next/\∀ c,a<=c->c<e->H.get c=none
def Emp.start {H:Heap} (hw:Wf H) {k:Nat}:Emp (H.up k) H.next (H.next+k):=⟨wT _,fun c h _=>hw.fresh h⟩
def Emp.next {G H2:Heap} {a e p a':Nat} {x:Ent} (hf:Emp G a e) (hk:Kp (G.put p x) H2) (hp:p<a') (ha:a<=a'):Emp H2 a' e :=
 ⟨Oc hf.1 hk.le,fun c h1 h2=>hk.free (by rw [next_put]; exact Vi h2 hf.1) (by rw [az zO]; exact hf.2 c zO h2)⟩
def Emp.keep {G H2:Heap} {a e:Nat} (hf:Emp G a e) (hk:Kp G H2):Emp H2 a e :=
 ⟨Oc hf.1 hk.le,fun c h1 h2=>hk.free (Vi h2 hf.1) (hf.2 c h1 h2)⟩
def Emp.sub {G:Heap} {a e p:Nat} {x:Ent} (hf:Emp G a e) (h1:a<=p) (h2:p<e):Sub G (G.put p x):=aP (hf.2 p h1 h2)
section
variable {tab:Nat->Option aw} {H:Heap} {s:AV}
end
end Go.Proofs.YthjdfjlhjnihfaaGreat.Ev
namespace Go.Proofs.YthjdfjlhjnihfaaGreat.Lin
def Gn:gensL 2 [] [[1,1]]=[[-1,1]]/\gensR 2 [] [[1,1]]=[[1,0]]:=by
 have r:(gensU 2 [] [[1,1]]).rays.map (restF (gensL 2 [] [[1,1]]))=[[1,0]]:=by decide +kernel
 refine ⟨by decide +kernel,?_⟩;unfold gensR; rw [r]; simp
end Go.Proofs.YthjdfjlhjnihfaaGreat.Lin
namespace Go.Proofs.YthjdfjlhjnihfaaGreat.Ev
open Go Nn
def Emp.put {G:Heap} {a e p a':Nat} {x:Ent} (hf:Emp G a e) (hp:p<a') (ha:a<=a'):Emp (G.put p x) a' e :=
 ⟨hf.1,fun c h1 h2=>by rw [az zO]; exact hf.2 c zO h2⟩
section
variable {tab:Nat->Option aw} {H:Heap} {s:AV}
end
end Go.Proofs.YthjdfjlhjnihfaaGreat.Ev
namespace Go.Proofs.YthjdfjlhjnihfaaGreat.Lin
end Go.Proofs.YthjdfjlhjnihfaaGreat.Lin
namespace Go.Proofs.YthjdfjlhjnihfaaGreat.Ev
open Go Nn
def Rs {a b c:AV} (ha:One a) (hb:One b) (hc:One c):fZ (.agg [a,b,c])=some [a,b,c]:=by
 simp [fZ,AV.cells,ha.2,hb.2,hc.2]
def kg {b c:AV} (hb:One b) (hc:One c) (k:IntKind) (n:Int):fZ (.agg [.int k n,b,c])=some [.int k n,b,c]:=Rs (bf _ _) hb hc
section
variable {tab:Nat->Option aw} {H:Heap} {s:AV}
def lP (c:List (List Int × Bool)) (g:List (Nat × List Int)):Bool:=fe 9 (c.map fun c=>(c.1.map eR,c.2)) || lS 9 (g.map fun c=>(c.1,c.2.map eR))
def Dq (C:Code tab) (hw:Wf H) {v:AV} {n:Nat} {c:List (List Int × Bool)} {g:List (Nat × List Int)} (hp:PolyV H v n c g) :
  Ans tab (.fn ft [v]) H fun x H'=>x=.bool (lP c g)/\Kp H H':=by
 obtain ⟨vc,vg,rfl,hc,hg⟩:=hp;have oc:=hc.one;have og:=hg.one;refine cQ C.q83 zU fun T hl g0=>?_;refine zW (aC hl g0 (kg oc og)) ?_;refine AnsH.eq (ko C (n:=9) zF ((Eu hc).mono (zG H)) zO) fun H2 hk2=>?_;obtain ⟨k2,_,w2⟩:=zT H zK hk2;have d0:=hk2.get (b:=H.next) (e:=.cells [.int .i64 (n:Int),vc,vg] ah true) (cR);cases hq:fe 9 (c.map fun c=>(c.1.map eR,c.2)) with
 | true =>
  refine zW (aB hl g0) ?_;exact ⟨by unfold lP; rw [hq,Bool.true_or],zK⟩
 | false =>
  refine zW (aC hl g0 d0) ?_;refine AnsH.eq (xq C (n:=9) zF ((Ea (hg.mono k2.sub)).mono (zG H2)) zO) fun H3 hk3=>?_;have k3:Kp H H3:=k2.trans (Kp.trans zK hk3);have le_k3:=k3.le;refine zW (aB hl g0) ?_;exact ⟨by unfold lP; rw [hq,X5],zK⟩
def FE (C:Code tab) (hw:Wf H) {v v':AV} {n n':Nat} {c c':List (List Int × Bool)} {g g':List (Nat × List Int)} (hp:PolyV H v n c g) (hp':PolyV H v' n' c' g') (hc1:c.length<1099511627776) (hc2:∀ r∈c,r.1.length<1099511627776/\∀ z∈r.1,St z) (hg1:g.length<1099511627776) (hg2:∀ r∈g,r.2.length<1099511627776/\∀ z∈r.2,St z) :
  Ans tab (.fn fP [v,v']) H fun x H'=>x=.bool (decide (n=n'/\c=c'/\g=g'))/\Kp H H':=by
 obtain ⟨vc,vg,rfl,hc,hg⟩:=hp;obtain ⟨vc',vg',rfl,hc',hg'⟩:=hp';have oc:=hc.one;have og:=hg.one;have oc':=hc'.one;have og':=hg'.one;refine bz C.q74 zU fun T hl g0 g1=>?_;by_cases hn:n=n'
 ·subst hn;refine zW (cr hl g0 g1 (kg oc og) (kg oc' og')) ?_;refine AnsH.eq (yw C zF (hc.mono (zG H)) (hc'.mono (zG H)) hc1 hc2) fun H2 hk2=>?_;obtain ⟨k2,_,w2⟩:=zT H zK hk2;have d0:=hk2.get (b:=H.next) (e:=.cells [.int .i64 (n:Int),vc,vg] ah true) (cR);have d1:=hk2.get (b:=H.next+1) (e:=.cells [.int .i64 (n:Int),vc',vg'] ah true) (cR);by_cases hcc:c=c'
  ·rw [decide_eq_true hcc];refine zW (cr hl g0 g1 d0 d1) ?_;refine AnsH.eq (yv C zF ((hg.mono k2.sub).mono (zG H2)) ((hg'.mono k2.sub).mono (zG H2)) hg1 hg2) fun H3 hk3=>?_;have k3:Kp H H3:=k2.trans (Kp.trans zK hk3);have le_k3:=k3.le;refine zW (aC hl g0 g1) ?_;exact ⟨by simp [hcc],zK⟩
  ·rw [decide_eq_false hcc];refine zW (aC hl g0 g1) ?_;exact ⟨by simp [hcc],zK⟩
 ·have hn':¬ (n:Int)=(n':Int):=zO;refine zW (eW hl g0 g1 (kg oc og) (kg oc' og') hn') ?_;exact ⟨by simp [hn],zK⟩
def Q5 {H:Heap} {b:Nat} {v:AV} {x:List Int} {p r:Bool} (h:H.get b=some (.cells [v,.bool p] t_api_Con r)) (hv:RowV H v x):SlV conE t_api_Con H (.own b 0 1 1 2 true) [(x,p)] :=
 ⟨[_,_],Rd.own h rfl (wT _),fun _ _ _ _ _ _ e=>by cases e; exact ⟨_,_,h⟩,Cells.one (E:=conE) ⟨v,rfl,hv⟩⟩
def Q4 {H:Heap} {b:Nat} {v w:AV} {x y:List Int} {p q r:Bool} (h:H.get b=some (.cells [v,.bool p,w,.bool q] t_api_Con r)) (hv:RowV H v x) (hw:RowV H w y):SlV conE t_api_Con H (.own b 0 2 2 2 true) [(x,p),(y,q)] :=
 ⟨[_,_,_,_],Rd.own h rfl (wT _),fun _ _ _ _ _ _ e=>by cases e; exact ⟨_,_,h⟩,(Cells.one (E:=conE) ⟨v,rfl,hv⟩).append (Cells.one (E:=conE) ⟨w,rfl,hw⟩)⟩
def US {H:Heap} {b:Nat} {v:AV} {x:List Int} {p:Nat} {r:Bool} (h:H.get b=some (.cells [.int .u8 (p:Int),v] ak r)) (hv:RowV H v x):SlV genE ak H (.own b 0 1 1 2 true) [(p,x)] :=
 ⟨[_,_],Rd.own h rfl (wT _),fun _ _ _ _ _ _ e=>by cases e; exact ⟨_,_,h⟩,Cells.one (E:=genE) ⟨v,rfl,hv⟩⟩
def tx {many lim:Nat} {r:List (Bool × List Nat)} (h:iX many lim r=false):r.length<=many/\∀ z∈r,z.2.length<=lim:=by
 unfold iX at h;rw [WE,decide_eq_false_iff_not,Wh] at h;refine ⟨zO,fun z hz=>?_⟩
 have:=h.2 z hz
 simp only [decide_eq_true_eq] at this;omega
def iY {n:Nat} {l:List ur} (h:fe n l=false):l.length<=n/\∀ c∈l,c.1.length<=5/\∀ z∈c.1,z.2.length<=1:=by
 unfold fe at h;rw [WE,decide_eq_false_iff_not,Wh] at h;exact ⟨zO,fun c hc=>tx (by simpa using h.2 c hc)⟩
def yZ {n:Nat} {l:List E6} (h:lS n l=false):l.length<=n/\∀ c∈l,c.2.length<=5/\∀ z∈c.2,z.2.length<=1:=by
 unfold lS at h;rw [WE,decide_eq_false_iff_not,Wh] at h;exact ⟨zO,fun c hc=>tx (by simpa using h.2 c hc)⟩
def Gg {n:Nat} {l:List ur} (h:fe n l=false):∀ c∈l,vJ c.1:=fun c hc=>by
 obtain ⟨h1,h2⟩:=(iY h).2 c hc;exact ⟨zO,fun z hz=>by have:=h2 z hz; omega⟩
def Up {n:Nat} {l:List E6} (h:lS n l=false):∀ c∈l,vJ c.2:=fun c hc=>by
 obtain ⟨h1,h2⟩:=(yZ h).2 c hc;exact ⟨zO,fun z hz=>by have:=h2 z hz; omega⟩
abbrev O6 (c:ur):List Int × Bool:=(c.1.map fE,c.2)
abbrev UT (c:E6):Nat × List Int:=(c.1,c.2.map fE)
def PZ {r:List (Bool × List Nat)} (hl:∀ z∈r,Lim z.2/\z.2.length<=1):Lin.Bd (2^64) (r.map fE):=fun i=>by
 unfold Lin.at_;rw [dH];cases hi:(r.map fE)[i]? with
 | none=>simp
 | some z =>
  obtain ⟨x,hx,rfl⟩:=uL.1 (Ve hi)
  have:=KV (n:=1) (hl x hx).1 (hl x hx).2
  unfold Bt at this;simp only [Wo] at this;simp only [Ww];omega
def N5 {r:List (Bool × List Nat)} (h:Aj r=true):∀ z∈r,SK z=false:=by
 simp only [Aj,Vy,V3,Wh,YJ] at h;exact h.2
def JV {d:Int} {n:Nat} {l:List ur} (hs:SlV conQE t_api_Con H s l) (gl:∀ r∈l,jU r.1) (hg:fe n l=false) (h4:¬ 4<d) (hn:n<=60) :
  dK d l≠0\/∃ k:Nat,d=(k:Int)/\k<=4/\SlV conE t_api_Con H s (l.map O6)/\l.length<=n/\∀ c∈l.map O6,c.1.length=k+1/\Lin.Bd (2^64) c.1:=by
 by_cases hc:dK d l=0
 ·refine .inr ?_;obtain ⟨h1,h2⟩:=iY hg;unfold dK at hc;split at hc
  ·omega
  split at hc
  ·omega
  split at hc
  ·omega
  split at hc
  ·omega
  rename_i q1 q2 q3 q4;have q3:∀ c∈l,Aj c.1=true:=fun c hc=>by
   cases hok:Aj c.1 with
   | true=>rfl
   | false=>exact absurd (VA.2 ⟨c,hc,by rw [hok]; rfl⟩) q3
  have q4:∀ c∈l,(c.1.length:Int)=d+1:=fun c hc=>by
   apply Wv
   intro hn;exact q4 (VA.2 ⟨c,hc,by simpa using hn⟩)
  refine ⟨d.toNat,zO,zO,My hs fun r hr z hz=>⟨N5 (q3 r hr) z hz,((gl r hr).1 z hz).1⟩,h1,fun c hc=>?_⟩;obtain ⟨x,hx,rfl⟩:=uL.1 hc;refine ⟨?_,PZ fun z hz=>⟨((gl x hx).1 z hz).1,(h2 x hx).2 z hz⟩⟩
  have:=q4 x hx
  show (x.1.map fE).length=_;rw [B8];omega
 ·exact .inl hc
end
end Go.Proofs.YthjdfjlhjnihfaaGreat.Ev
namespace Go.Proofs.YthjdfjlhjnihfaaGreat.Lin
section
variable {n:Nat} {l:List (V × Bool)}
end
section
variable {n:Nat} {l m:List (V × Bool)}
def qX (hne:gensP n l≠[]):(gensR (n+1) (eqsOf l) (ineqsOf n l)).any (fun r=>decide (0<hd1 r))=true:=by
 cases hs:(gensR (n+1) (eqsOf l) (ineqsOf n l)).any (fun r=>decide (0<hd1 r)) with
 | true=>rfl
 | false=>exact absurd (by unfold gensP; rw [if_neg (by rw [hs]; decide)]) hne
def wt {c:V × Bool} {g:Nat × V}:keepsP c g=true ↔ (if c.2=true\/g.1=1 then dot c.1 g.2=0 else 0<=dot c.1 g.2):=by
 unfold keepsP;by_cases h:c.2=true\/g.1=1
 ·rw [if_pos h,if_pos (by simpa using h)]; simp
 ·rw [if_neg h,if_neg (by simpa using h)]; simp
def xT (h:∀ c∈l,c.1.length=n+1) (hne:gensP n l≠[]) {c:V × Bool}:(∀ g∈gensP n l,keepsP c g=true) ↔ E4 n l c:=by
 constructor
 ·intro hk x hx;have t:=gens_told (eqs_len h) (ineqs_len h);have hs:=qX hne;have e:gensP n l=(gensL (n+1) (eqsOf l) (ineqsOf n l)).map (fun r=>(1,r))++(gensR (n+1) (eqsOf l) (ineqsOf n l)).map (fun r=>(kindOf r,r)):=by
   unfold gensP; rw [if_pos hs]
  have hL:∀ r∈gensL (n+1) (eqsOf l) (ineqsOf n l),dot c.1 r=0:=fun r hr=>by
   have:=hk (1,r) (by rw [e]; exact VU _ (uL.2 ⟨r,hr,rfl⟩))
   rw [wt,if_pos (.inr rfl)] at this;exact this
  have hR:∀ r∈gensR (n+1) (eqsOf l) (ineqsOf n l),(c.2=true->dot c.1 r=0)/\0<=dot c.1 r:=fun r hr=>by
   have:=hk (kindOf r,r) (by rw [e]; exact Wl _ (uL.2 ⟨r,hr,rfl⟩))
   rw [wt] at this;split at this
   ·exact ⟨fun _=>this,by simp only at this; omega⟩
   ·rename_i hc;exact ⟨fun e=>absurd (.inl e) hc,this⟩
  exact ⟨fun hb=>(t.dd.all x hx).dot_zero t.dd.lenL t.dd.lenR hL fun r hr=>(hR r hr).1 hb,(t.dd.all x hx).dot_nonneg t.dd.lenL t.dd.lenR hL fun r hr=>(hR r hr).2⟩
 ·intro hv g hg;obtain ⟨k1,k2⟩:=oE h hg;exact ts hv k1 k2
def inP (G:List (Nat × V)) (K:List (V × Bool)):Bool:=G.all fun g=>K.all fun c=>keepsP c g
def inP_iff {G:List (Nat × V)} {K:List (V × Bool)}:inP G K=true ↔ ∀ g∈G,∀ c∈K,keepsP c g=true:=by
 unfold inP;rw [Vq];exact ⟨fun h g hg=>Vq.1 (h g hg),fun h g hg=>Vq.2 (h g hg)⟩
structure Own (n:Nat) (K:List (V × Bool)) (G:List (Nat × V)):Prop where
 rows:∀ c∈K,c.1.length=n+1
 gens:gensP n K=G
 cons:consP n G=K
def own_of (h:∀ c∈l,c.1.length=n+1):Own n (consP n (gensP n l)) (gensP n l):=⟨Ew (vj h),I7 h,rfl⟩
def Own.valid {K:List (V × Bool)} {G:List (Nat × V)} (h:Own n K G):ValidG n G:=by rw [<- h.gens]; exact Ed h.rows
def Own.point {K:List (V × Bool)} {G:List (Nat × V)} (h:Own n K G) (hne:G≠[]):G.any (fun x=>x.1 == 3)=true:=by
 have:=h.gens; rw [<- this] at hne ⊢; exact Ul hne
section
variable {K K' Kr:List (V × Bool)} {G G' Gr:List (Nat × V)}
end
section
variable {g g':List (Nat × V)}
end
section
variable {K K' Kr:List (V × Bool)} {G G' Gr:List (Nat × V)}
def validG_app (h:ValidG n G) (h':ValidG n G'):ValidG n (G++G'):=fun x hx=>(Vf.1 hx).elim (h x) (h' x)
end
end
end Go.Proofs.YthjdfjlhjnihfaaGreat.Lin
namespace Go.Proofs.YthjdfjlhjnihfaaGreat.Ev
open Go Nn
section
variable {tab:Nat->Option aw} {H:Heap} {s:AV}
theorem Ab {v:AV} (ov:One v) (b:Bool):fZ (.agg [v,.bool b])=some [v,.bool b]:=by simp [fZ,AV.cells,ov.2]; rfl
theorem EP {v:AV} (ov:One v) (k:Int):fZ (.agg [.int .u8 k,v])=some [.int .u8 k,v]:=by simp [fZ,AV.cells,ov.2]; rfl
def Uf (C:Code tab) (hw:Wf H) {cs cs':List AV} {x y:List Int × Bool} (hx:conE.R H cs x) (hy:conE.R H cs' y) (hl':x.1.length<1099511627776) (hz:∀ z∈x.1,St z) :
  Ans tab (.fn gy [.agg cs,.agg cs']) H fun v H'=>v=.bool (decide (x=y))/\Kp H H':=by
 obtain ⟨v,rfl,hv⟩:=hx;obtain ⟨w,rfl,hw'⟩:=hy;have ov:=hv.one;have ow:=hw'.one;obtain ⟨a,p⟩:=x;obtain ⟨b,q⟩:=y;have hv:RowV H v a:=hv;have hw':RowV H w b:=hw';refine bz C.q84 zU fun T hl g0 g1=>?_;by_cases hb:p=q
 ·subst hb;refine zW (eW hl g0 g1 (Ab ov) (Ab ow) (beq_self_eq_true (α:=Bool))) ?_;refine AnsH.eq (xS C zF (hv.mono (zG H)) (hw'.mono (zG H)) hl' hz) fun H2 hk2=>?_;obtain ⟨k2,_,_⟩:=zT H zK hk2;refine zW (aC hl g0 g1) ?_;exact ⟨by simp,zK⟩
 ·have hxb:(p == q)=false:=by simpa using hb
  refine zW (eW hl g0 g1 (Ab ov) (Ab ow) hxb) ?_;exact ⟨by simp [hb],zK⟩
def CD (C:Code tab) (hw:Wf H) {cs cs':List AV} {x y:Nat × List Int} (hx:genE.R H cs x) (hy:genE.R H cs' y) (hl':x.2.length<1099511627776) (hz:∀ z∈x.2,St z) :
  Ans tab (.fn gw [.agg cs,.agg cs']) H fun v H'=>v=.bool (decide (x=y))/\Kp H H':=by
 obtain ⟨v,rfl,hv⟩:=hx;obtain ⟨w,rfl,hw'⟩:=hy;have ov:=hv.one;have ow:=hw'.one;obtain ⟨p,a⟩:=x;obtain ⟨q,b⟩:=y;have hv:RowV H v a:=hv;have hw':RowV H w b:=hw';refine bz C.q85 zU fun T hl g0 g1=>?_;by_cases hb:p=q
 ·subst hb;refine zW (cr hl g0 g1 (EP ov) (EP ow)) ?_;refine AnsH.eq (xS C zF (hv.mono (zG H)) (hw'.mono (zG H)) hl' hz) fun H2 hk2=>?_;obtain ⟨k2,_,_⟩:=zT H zK hk2;refine zW (aC hl g0 g1) ?_;exact ⟨by simp,zK⟩
 ·have hxb:¬ (p:Int)=(q:Int):=zO;refine zW (eW hl g0 g1 (EP ov) (EP ow) hxb) ?_;exact ⟨by simp [hb],zK⟩
def AC (C:Code tab) (hw:Wf H) {a b:AV} {l m:List (List Int × Bool)} (ha:SlV conE t_api_Con H a l) (hb:SlV conE t_api_Con H b m) (hbig:l.length<1099511627776) (hz:∀ r∈l,r.1.length<1099511627776/\∀ z∈r.1,St z) :
  Ans tab (.fn aT [a,b,.fn (.func gy) [] []]) H fun v H'=>v=.bool (decide (l=m))/\Kp H H':=by
 refine lU C.q86 zU fun T hl g0 g1 g2=>?_;by_cases he:l.length=m.length
 ·have lb:lenV b=some (.int .i64 (l.length:Int)):=by rw [hb.lenV,he]
  refine zW (eW hl g0 g1 g2 ha.lenV lb) ?_;refine am H [] (fun j _ _=>∀ q (h:q<l.length) (h':q<m.length),q<j->l[q]=m[q]) (a:=0) (N:=l.length) rfl (by refine zW (aV hl g0 g1 g2) ?_; rfl) (zV (aV hl g0 g1 g2)) (II _) zO (by simp only [dj,hl]; rfl) rfl (fun _ _ _ _ h=>h) zK (fun q _ _ h=>by omega) ?_ ?_
  ·intro j T1 H1 _ hj hl1 hi1 hs1 hk1 hP;have w1:=hk1.wf;have le_hk1:=hk1.le;have hj2:j<m.length:=zO;have t15:ad T1 15=a:=(hs1.at_ 15 zU).trans (zV (aB hl g0));have t1:ad T1 1=b:=(hs1.at_ 1 zU).trans (zV (cr hl g0 g1 g2 g1));have t2:ad T1 2=.fn (.func gy) [] []:=(hs1.at_ 2 zU).trans (zV (cr hl g0 g1 g2 g2));obtain ⟨_,⟨v,rfl,hr⟩,-,-,L⟩:=(ha.mono hk1.sub).at (pD hj);obtain ⟨_,⟨w,rfl,hr'⟩,-,-,L'⟩:=(hb.mono hk1.sub).at (pD hj2);have L:aW H1 (some 2) (ap a (j*2))=some (.agg [v,.bool l[j].2]):=L;have L':aW H1 (some 2) (ap b (j*2))=some (.agg [w,.bool m[j].2]):=L';have hix:co 2 a (.int .i64 (j:Int))=some (ap a (j*2)):=SlV.idx ha .i64 j hj;have hiy:co 2 b (.int .i64 (j:Int))=some (ap b (j*2)):=SlV.idx hb .i64 j hj2;have ov:=hr.one;have ow:=hr'.one;have Lp0:=(Ldd.of w1 L).put;have Ll0:=(Ldd.of w1 L).ld;have Lp:=(Ldd.of w1 L').put;have Ll:=(Ldd.of w1 L').ld;simp only [dj,hl] at hl1;refine zW (rc hl1 t15 t1 t2 hi1 hix hiy Lp0 Ll0 Lp Ll) ?_;refine AnsH.eq (Uf C (x:=l[j]) (y:=m[j]) zF ⟨v,rfl,hr.mono (zG H1)⟩ ⟨w,rfl,hr'.mono (zG H1)⟩ (hz _ (rZ hj)).1 (hz _ (rZ hj)).2) fun H2 hk2=>?_;obtain ⟨k2,_,_⟩:=zT H zK hk2;cases hq:decide (l[j]=m[j]) with
   | true =>
    have hq:=of_decide_eq_true hq;refine zW hl1 ?_;refine ⟨zK,fun q h h' hqi=>?_⟩;by_cases e:q=j
    ·subst e; exact hq
    ·exact hP q h h' zO
   | false =>
    have hq:=of_decide_eq_false hq;refine zW hl1 ?_;refine ⟨?_,zK⟩;rw [decide_eq_false];intro e; subst e; exact hq rfl
  ·intro T1 H1 hl1 hs1 hk1 hP;simp only [dj,hl] at hl1;refine zW hl1 ?_;exact ⟨by rw [decide_eq_true (iH he fun q h h'=>hP q h h' h)],zK⟩
 ·have he':¬ (l.length:Int)=(m.length:Int):=zO;refine zW (ki hl g0 g1 g2 ha.lenV hb.lenV he' he) ?_;refine ⟨?_,zK⟩;rw [decide_eq_false];intro e; subst e; exact he rfl
def AB (C:Code tab) (hw:Wf H) {a b:AV} {l m:List (Nat × List Int)} (ha:SlV genE ak H a l) (hb:SlV genE ak H b m) (hbig:l.length<1099511627776) (hz:∀ r∈l,r.2.length<1099511627776/\∀ z∈r.2,St z) :
  Ans tab (.fn aS [a,b,.fn (.func gw) [] []]) H fun v H'=>v=.bool (decide (l=m))/\Kp H H':=by
 refine lU C.q87 zU fun T hl g0 g1 g2=>?_;by_cases he:l.length=m.length
 ·have lb:lenV b=some (.int .i64 (l.length:Int)):=by rw [hb.lenV,he]
  refine zW (eW hl g0 g1 g2 ha.lenV lb) ?_;refine am H [] (fun j _ _=>∀ q (h:q<l.length) (h':q<m.length),q<j->l[q]=m[q]) (a:=0) (N:=l.length) rfl (by refine zW (aV hl g0 g1 g2) ?_; rfl) (zV (aV hl g0 g1 g2)) (II _) zO (by simp only [dj,hl]; rfl) rfl (fun _ _ _ _ h=>h) zK (fun q _ _ h=>by omega) ?_ ?_
  ·intro j T1 H1 _ hj hl1 hi1 hs1 hk1 hP;have w1:=hk1.wf;have le_hk1:=hk1.le;have hj2:j<m.length:=zO;have t15:ad T1 15=a:=(hs1.at_ 15 zU).trans (zV (aB hl g0));have t1:ad T1 1=b:=(hs1.at_ 1 zU).trans (zV (cr hl g0 g1 g2 g1));have t2:ad T1 2=.fn (.func gw) [] []:=(hs1.at_ 2 zU).trans (zV (cr hl g0 g1 g2 g2));obtain ⟨_,⟨v,rfl,hr⟩,-,-,L⟩:=(ha.mono hk1.sub).at (pD hj);obtain ⟨_,⟨w,rfl,hr'⟩,-,-,L'⟩:=(hb.mono hk1.sub).at (pD hj2);have L:aW H1 (some 2) (ap a (j*2))=some (.agg [.int .u8 (l[j].1:Int),v]):=L;have L':aW H1 (some 2) (ap b (j*2))=some (.agg [.int .u8 (m[j].1:Int),w]):=L';have hix:co 2 a (.int .i64 (j:Int))=some (ap a (j*2)):=SlV.idx ha .i64 j hj;have hiy:co 2 b (.int .i64 (j:Int))=some (ap b (j*2)):=SlV.idx hb .i64 j hj2;have ov:=hr.one;have ow:=hr'.one;have Lp0:=(Ldd.of w1 L).put;have Ll0:=(Ldd.of w1 L).ld;have Lp:=(Ldd.of w1 L').put;have Ll:=(Ldd.of w1 L').ld;simp only [dj,hl] at hl1;refine zW (rc hl1 t15 t1 t2 hi1 hix hiy Lp0 Ll0 Lp Ll) ?_;refine AnsH.eq (CD C (x:=l[j]) (y:=m[j]) zF ⟨v,rfl,hr.mono (zG H1)⟩ ⟨w,rfl,hr'.mono (zG H1)⟩ (hz _ (rZ hj)).1 (hz _ (rZ hj)).2) fun H2 hk2=>?_;obtain ⟨k2,_,_⟩:=zT H zK hk2;cases hq:decide (l[j]=m[j]) with
   | true =>
    have hq:=of_decide_eq_true hq;refine zW hl1 ?_;refine ⟨zK,fun q h h' hqi=>?_⟩;by_cases e:q=j
    ·subst e; exact hq
    ·exact hP q h h' zO
   | false =>
    have hq:=of_decide_eq_false hq;refine zW hl1 ?_;refine ⟨?_,zK⟩;rw [decide_eq_false];intro e; subst e; exact hq rfl
  ·intro T1 H1 hl1 hs1 hk1 hP;simp only [dj,hl] at hl1;refine zW hl1 ?_;exact ⟨by rw [decide_eq_true (iH he fun q h h'=>hP q h h' h)],zK⟩
 ·have he':¬ (l.length:Int)=(m.length:Int):=zO;refine zW (ki hl g0 g1 g2 ha.lenV hb.lenV he' he) ?_;refine ⟨?_,zK⟩;rw [decide_eq_false];intro e; subst e; exact he rfl
def A7 (C:Code tab) (hw:Wf H) {v v':AV} {n n':Nat} {c c':List (List Int × Bool)} {g g':List (Nat × List Int)} (hp:PolyV H v n c g) (hp':PolyV H v' n' c' g') (hc1:c.length<1099511627776) (hc2:∀ r∈c,r.1.length<1099511627776/\∀ z∈r.1,St z) (hg1:g.length<1099511627776) (hg2:∀ r∈g,r.2.length<1099511627776/\∀ z∈r.2,St z) :
  Ans tab (.fn pM [v,v']) H fun x H'=>x=.bool (decide (n=n'/\c=c'/\g=g'))/\Kp H H':=by
 obtain ⟨vc,vg,rfl,hc,hg⟩:=hp;obtain ⟨vc',vg',rfl,hc',hg'⟩:=hp';have oc:=hc.one;have og:=hg.one;have oc':=hc'.one;have og':=hg'.one;refine bz C.q54 zU fun T hl g0 g1=>?_;by_cases hn:n=n'
 ·subst hn;refine zW (cr hl g0 g1 (kg oc og) (kg oc' og')) ?_;refine AnsH.eq (AC C zF (hc.mono (zG H)) (hc'.mono (zG H)) hc1 hc2) fun H2 hk2=>?_;obtain ⟨k2,_,w2⟩:=zT H zK hk2;have d0:=hk2.get (b:=H.next) (e:=.cells [.int .i64 (n:Int),vc,vg] ah true) (cR);have d1:=hk2.get (b:=H.next+1) (e:=.cells [.int .i64 (n:Int),vc',vg'] ah true) (cR);by_cases hcc:c=c'
  ·rw [decide_eq_true hcc];refine zW (cr hl g0 g1 d0 d1) ?_;refine AnsH.eq (AB C zF ((hg.mono k2.sub).mono (zG H2)) ((hg'.mono k2.sub).mono (zG H2)) hg1 hg2) fun H3 hk3=>?_;have k3:Kp H H3:=k2.trans (Kp.trans zK hk3);have le_k3:=k3.le;refine zW (aC hl g0 g1) ?_;exact ⟨by simp [hcc],zK⟩
  ·rw [decide_eq_false hcc];refine zW (aC hl g0 g1) ?_;exact ⟨by simp [hcc],zK⟩
 ·have hn':¬ (n:Int)=(n':Int):=zO;refine zW (eW hl g0 g1 (kg oc og) (kg oc' og') hn') ?_;exact ⟨by simp [hn],zK⟩
def I5 (C:Code tab) (hw:Wf H) {v w:AV} {a r:List Int} {e f:Nat} (ha:RowV H v a) (hr:RowV H w r) (har:a.length=r.length) (h64:a.length<=64) (hae:∀ z∈a,Bt e z) (hrf:∀ z∈r,Bt f z) (hbt:e+f+7<=8796093022208) :
  Ans tab (.fn S9 [v,w]) H fun x H'=>x=.int .i64 (iv (Lin.dot a r))/\Kp H H':=by
 refine bz C.q69 zU fun T hl g0 g1=>?_;refine zW (aC hl g0 g1) ?_;refine AnsH.use (rO C zF (ha.mono (zG H)) (hr.mono (zG H)) har h64 hae hrf hbt) ?_;rintro x H2 ⟨q,rfl,⟨p,rfl,hp⟩,hk2⟩;obtain ⟨k2,_,w2⟩:=zT H zK hk2;have op:=hp.one;have n2:H.next+10<=H2.next:=hk2.le
 have fr:H2.get (H.next+7)=none:=hk2.free (show H.next+7<H.next+10 by omega) (hw.fresh (b:=H.next+7) zO);obtain ⟨G,hG⟩:∃ G,G=((H2.up 7).put (H.next+7) (.cells [.bool false,.nilSl] aa true)).put (H.next+7) (.cells [.bool (decide (Lin.dot a r<0)),p] aa true):=⟨_,rfl⟩
 have kG:Kp H G:=by rw [hG]; exact zK
 have hpG:cp G p (Lin.dot a r).natAbs:=by
  rw [hG];exact hp.mono (((Sub.bump H2 7).put fr _).put fr _)
 refine zW (aC hl g0 g1) ?_;rw [<- hG];refine AnsH.eq (nM C (x:=Lin.dot a r) kG.wf ⟨p,rfl,hpG⟩ ((oF hae hrf har h64).sm hbt)) fun H3 hk3=>?_;have k3:Kp H H3:=kG.trans hk3;have le_k3:=k3.le;refine zW (aC hl g0 g1) ?_;exact zK
def poly_keeps (C:Code tab) (hw:Wf H) {v w:AV} {b:Bool} {k:Nat} {a r:List Int} {e f:Nat} (ha:RowV H v a) (hr:RowV H w r) (har:a.length=r.length) (h64:a.length<=64) (hae:∀ z∈a,Bt e z) (hrf:∀ z∈r,Bt f z) (hbt:e+f+7<=8796093022208) :
  Ans tab (.fn gO [.agg [.int .u8 (k:Int),w],.agg [v,.bool b]]) H fun x H'=>x=.bool (Lin.keepsP (a,b) (k,r))/\Kp H H':=by
 have ov:=ha.one;have ow:=hr.one;refine bz C.q35 zU fun T hl g0 g1=>?_;refine zW (cr hl g0 g1 (Ab ov) (EP ow)) ?_;refine AnsH.eq (I5 C (e:=f) (f:=e) zF (hr.mono (zG H)) (ha.mono (zG H)) har.symm zO hrf hae zO) fun H2 hk2=>?_;obtain ⟨k2,_,w2⟩:=zT H zK hk2;have d1:H2.get H.next=some (.cells [.int .u8 (k:Int),w] ak true):=hk2.get (cR)
 have d2:H2.get (H.next+1)=some (.cells [v,.bool b] t_api_Con true):=hk2.get (cR);have hd:=Lin.dot_comm r a;cases b with
 | true =>
  refine zW (cr hl g0 g1 d1 d2) ?_;refine ⟨?_,zK⟩;congr 1;rw [We];simp [Lin.keepsP,ig,hd]
 | false =>
  by_cases hk1:k=1
  ·subst hk1;have d1:H2.get H.next=some (.cells [.int .u8 1,w] ak true):=d1
   refine zW (cr hl g0 g1 d1 d2) ?_;refine ⟨?_,zK⟩;congr 1;rw [We];simp [Lin.keepsP,ig,hd]
  ·have hk2':¬ (k:Int)=1:=zO;refine zW (eW hl g0 g1 d1 d2 hk2') ?_;refine ⟨?_,zK⟩;congr 1;rw [We];simp [Lin.keepsP,Fy,hd,hk1]
def EZ {α:Type} {p:α->Bool} {l:List α} {j:Nat} (hj:j<l.length):(l.take (j+1)).all p=((l.take j).all p && p l[j]):=by
 rw [ZO,pD hj,List.all_append]; simp
def FK (C:Code tab) (hw:Wf H) {a b:AV} {n e f:Nat} {G:List (Nat × List Int)} {K:List (List Int × Bool)} (ha:SlV genE ak H a G) (hb:SlV conE t_api_Con H b K) (hG:∀ x∈G,x.2.length=n+1/\Lin.Bd (2^e) x.2) (hK:∀ c∈K,c.1.length=n+1/\Lin.Bd (2^f) c.1) (hn:n<=60) (hlG:G.length<1099511627776) (hlK:K.length<1099511627776) (hef:e+f<=4398046511104) :
  Ans tab (.fn nZ [a,b,.fn (.func gO) [] []]) H fun v H'=>v=.bool (Lin.inP G K)/\Kp H H':=by
 refine lU C.q34 zU fun T hl g0 g1 g2=>?_;refine zW (cr hl g0 g1 g2 ha.lenV) ?_;refine am H [] (fun j _ _=>Lin.inP (G.take j) K=true) (a:=0) (N:=G.length) rfl (by refine zW (aV hl g0 g1 g2) ?_; rfl) (zV (aV hl g0 g1 g2)) (II _) zO (by simp only [dj,hl]; rfl) rfl (fun _ _ _ _ h=>h) zK rfl ?_ ?_
 ·intro j T1 H1 _ hj hl1 hi1 hs1 hk1 hP;have w1:=hk1.wf;have le_hk1:=hk1.le;have t11:ad T1 11=a:=(hs1.at_ 11 zU).trans (zV (aB hl g0));have t1:ad T1 1=b:=(hs1.at_ 1 zU).trans (zV (cr hl g0 g1 g2 g1));have t2:ad T1 2=.fn (.func gO) [] []:=(hs1.at_ 2 zU).trans (zV (cr hl g0 g1 g2 g2));obtain ⟨_,⟨v,rfl,hr⟩,-,-,L⟩:=(ha.mono hk1.sub).at (pD hj);have L:aW H1 (some 2) (ap a (j*2))=some (.agg [.int .u8 (G[j].1:Int),v]):=L;have hix:co 2 a (.int .i64 (j:Int))=some (ap a (j*2)):=SlV.idx ha .i64 j hj;have hr:RowV H1 v G[j].2:=hr;have ov:=hr.one;have Lp0:=(Ldd.of w1 L).put;have Ll0:=(Ldd.of w1 L).ld;have mG:=rZ hj;simp only [dj,hl] at hl1;refine zW (ki hl1 t11 t1 hi1 hix Lp0 Ll0 hb.lenV) ?_;obtain ⟨H2,hH2⟩:∃ H2,H2=((H1.up 7).put (H1.next+2) (.cells [.int .u8 0,.nilSl] ak true)).put (H1.next+2) (.cells [.int .u8 (G[j].1:Int),v] ak true):=⟨_,rfl⟩
  have k12:Kp H1 H2:=by rw [hH2]; exact zK
  have le_k12:=k12.le;have k2:Kp H H2:=hk1.trans k12;have le_k2:=k2.le;have w2:=k2.wf;have d8:H2.get (H1.next+2)=some (.cells [.int .u8 (G[j].1:Int),v] ak true):=by rw [hH2]; exact au _ _ _
  rw [<- hH2];refine am H2 [] (fun i _ _=>(K.take i).all (fun c=>Lin.keepsP c G[j])=true) (a:=0) (N:=K.length) rfl (by refine zW hl1 ?_; rfl) (zV hl1) (II _) zO (by simp only [dj,hl1]; rfl) rfl (fun _ _ _ _ h=>h) zK rfl ?_ ?_
  ·intro i T2 H3 _ hi hl2 hi2 hs2 hk3 hP2;have w3:=hk3.wf;have le_hk3:=hk3.le;have t17:ad T2 17=b:=(hs2.at_ 17 zU).trans (zV (aB hl1 t1));have t2b:ad T2 2=.fn (.func gO) [] []:=(hs2.at_ 2 zU).trans (zV (aB hl1 t2));have t8:ad T2 8=.ptr (H1.next+2) 0:=(hs2.at_ 8 zU).trans (zV hl1);have d8':=hk3.get d8;have lt8:=w3 _ _ d8';have s13:Sub H1 H3:=k12.sub.trans hk3.sub;obtain ⟨_,⟨w,rfl,hc⟩,-,-,L'⟩:=((hb.mono hk1.sub).mono s13).at (pD hi);have L':aW H3 (some 2) (ap b (i*2))=some (.agg [w,.bool K[i].2]):=L';have hiy:co 2 b (.int .i64 (i:Int))=some (ap b (i*2)):=SlV.idx hb .i64 i hi;have hc:RowV H3 w K[i].1:=hc;have ow:=hc.one;have Lp:=(Ldd.of w3 L').put;have Ll:=(Ldd.of w3 L').ld;have mK:=rZ hi;have hr3:=hr.mono s13;simp only [dj,hl1] at hl2;refine zW (kj hl2 t17 t2b t8 hi2 hiy Lp Ll d8') ?_;refine AnsH.eq (poly_keeps C (e:=f+1) (f:=e+1) (b:=K[i].2) (k:=G[j].1) (a:=K[i].1) (r:=G[j].2) zF (hc.mono (zG H3)) (hr3.mono (zG H3)) ((hK _ mK).1.trans (hG _ mG).1.symm) (by rw [(hK _ mK).1]; omega) (fun z hz=>jk (hK _ mK).2 z hz) (fun z hz=>jk (hG _ mG).2 z hz) zO) fun H4 hk4=>?_;obtain ⟨k4,_,_⟩:=zT H2 zK hk4;have k4':Kp H H4:=k2.trans k4;cases hq:Lin.keepsP (K[i].1,K[i].2) (G[j].1,G[j].2) with
   | true =>
    refine zW hl2 ?_;refine ⟨zK,?_⟩;rw [EZ hi,hP2];exact hq
   | false =>
    refine zW hl2 ?_;refine ⟨?_,zK⟩
    have:Lin.inP G K=false:=by
     cases h:Lin.inP G K with
     | false=>rfl
     | true =>
      have:=Lin.inP_iff.1 h _ mG _ mK
      exact absurd (this.symm.trans hq) zU
    rw [this]
  ·intro T2 H3 hl2 hs2 hk3 hP2;rw [Vo] at hP2;simp only [dj,hl1] at hl2;have k3:Kp H H3:=k2.trans hk3;have le_k3:=k3.le;refine zW hl2 ?_;refine ⟨zK,?_⟩;unfold Lin.inP at hP ⊢;rw [EZ hj,hP];exact hP2
 ·intro T1 H1 hl1 hs1 hk1 hP;simp only [dj,hl] at hl1;rw [Vo] at hP;refine zW hl1 ?_;exact ⟨by rw [hP],zK⟩
end
def TE {α:Type} {p:α->Bool} {l:List α} {j:Nat} (hj:j<l.length):(l.take (j+1)).any p=((l.take j).any p || p l[j]):=by
 rw [Bj hj,List.any_append]
 simp
section
variable {tab:Nat->Option aw} {H:Heap} {s:AV}
end
section
open Lin
def AL {r:V} (h:∀ z∈r.map eR,z.2.length<=1):Bd (2^64) r:=fun i=>by
 unfold at_;rw [dH];cases hi:r[i]? with
 | none=>simp
 | some z =>
  have h1:=h (eR z) (uL.2 ⟨z,Ve hi,rfl⟩);have h2:z.natAbs<B^1:=uV (n:=z.natAbs) h1;have h3:B^1=2^64:=by decide
  simp only [Ww];omega
def tz {c:List (V × Bool)} {g:List (Nat × V)} (h:lP c g=false):(c.length<=9/\∀ x∈c,x.1.length<=5/\Bd (2^64) x.1)/\g.length<=9/\∀ x∈g,x.2.length<=5/\Bd (2^64) x.2:=by
 unfold lP at h;rw [WE] at h;obtain ⟨h1,h2⟩:=iY h.1;obtain ⟨h3,h4⟩:=yZ h.2;rw [B8] at h1 h3;refine ⟨⟨h1,fun x hx=>?_⟩,h3,fun x hx=>?_⟩
 ·obtain ⟨q1,q2⟩:=h2 _ (uL.2 ⟨x,hx,rfl⟩);simp only [B8] at q1;exact ⟨q1,AL q2⟩
 ·obtain ⟨q1,q2⟩:=h4 _ (uL.2 ⟨x,hx,rfl⟩);simp only [B8] at q1;exact ⟨q1,AL q2⟩
def Jz {n:Nat} {l:List (V × Bool)}:∀ x∈gensP n l,x.1=1\/x.1=2\/x.1=3:=fun x hx=>by
 unfold gensP at hx;split at hx
 ·rcases Vf.1 hx with hx | hx
  ·obtain ⟨r,hr,rfl⟩:=uL.1 hx;exact .inl rfl
  ·obtain ⟨r,hr,rfl⟩:=uL.1 hx;show kindOf r=1\/kindOf r=2\/kindOf r=3;unfold kindOf;split <;> simp
 ·cases hx
end
section
variable {tab:Nat->Option aw} {H:Heap} {s:AV}
end
end Go.Proofs.YthjdfjlhjnihfaaGreat.Ev
