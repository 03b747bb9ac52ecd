/- A part. -/
import Derived.Test.YteaefaohjlmjdaaGreatA0
import Derived.Test.YteaefaohjlmjdaaGreatSize2
import Derived.ChangeArms
import Derived.DataReads
import Derived.Test.YteaefaohjlmjdaaGreatN39
set_option linter.all false
namespace Go.Proofs.YteaefaohjlmjdaaGreat.Ev
open Go Nn
def yj {β:Type} {P:Nat->β->Prop}:∀ n,(∀ i,i<n->∃ y,P i y)->∃ l:List β,l.length=n/\∀ i (h:i<l.length),P i l[i]
 | 0,_=>⟨[],rfl,fun i h=>by simp at h⟩
 | n+1,h=>by
  obtain ⟨l,h1,h2⟩:=yj n fun i hi=>h i zO;obtain ⟨y,hy⟩:=h n zO;refine ⟨l++[y],by simp [h1],fun i hi=>?_⟩;by_cases hin:i<l.length
  ·rw [Zz hin]; exact h2 i hin
  ·have:i=n:=by rw [Vr] at hi; simp at hi; omega
   subst this;rw [Zp zO]
   simpa [h1] using hy
def JT {β:Type} {sz:Nat} {f:β->List AV}:∀ (l:List β),(∀ y∈l,(f y).length=sz)->(l.flatMap f).length=l.length*sz/\∀ i (h:i<l.length) k,k<sz->(l.flatMap f)[i*sz+k]? = (f l[i])[k]?
 | [],_=>⟨by simp,fun i h=>by simp at h⟩
 | y :: l,h=>by
  obtain ⟨h1,h2⟩:=JT l fun z hz=>h z (Vd _ hz);have hy:=h y (Vh ..);refine ⟨by rw [YF,Vr,h1,hy,VT,WP]; omega,fun i hi k hk=>?_⟩;rw [YF];cases i with
  | zero=>rw [VE zO]; simp
  | succ i =>
   rw [VY (by rw [WP]; omega),hy];have e:(i+1)*sz+k-sz=i*sz+k:=by rw [WP]; omega
   rw [e,h2 i (by simpa using hi) k hk]
   simp
def uz {HT:Type}:DataW HT->List (DataW HT)
 | .slice l _=>l
 | _=>[]
def Sj {HT:Type}:DataW HT->List (DataW HT)
 | .agg l=>l
 | _=>[]
def Ej {HT:Type} (y:DataW HT) (z:Bool × List Nat):Prop:=∃ y2∈Sj y,z.2.length<=(uz y2).length
section
variable {HT:Type} {enc:TypeId × Value->HT} {P:Program} {w:World} {base:Nat} {sp:Nat->Bool} {held:Bool} {μ:Mu} {F:Nat->Prop} {H:Heap} {α:Type}
def zI {E:fw α} {ty:Nat} {good:DataW HT->α->Prop} {t e:TypeId} (hF:∀ c,c<w.heap.size->F c) (ht:P.underlying t=some (.slice e)) (hsz:P.cellsOf e=E.sz)
  (helem:∀ fuel cs x,DataW.trod enc P w base sp held fuel e cs=some x->∃ acs z,LR μ F w acs cs/\E.R H acs z/\good x.1 z)
  {fuel:Nat} {cs:List Value} {x:DataW HT × List MemPlace} (h:DataW.trod enc P w base sp held fuel t cs=some x) :
  ∃ v av zs,cs=[v]/\VR μ F w av v/\SlV E ty H av zs/\(∀ z∈zs,∃ y∈uz x.1,good y z)/\zs.length<=maxLen/\zs.length<=(uz x.1).length:=by
 rcases DataW.trod_slice ht h with ⟨rfl,-⟩ | ⟨a,len,cap,elems,rest,n,-,rfl,ex,hb,hl,hc,hlen,hel,-⟩
 ·exact ⟨_,.nilSl,[],rfl,.nilSl,SlV.nil _ _ _,(fun z h=>by cases h),Vj _,Vj _⟩
 ·rcases Xd len with h0 | h0
  ·subst h0;refine ⟨_,.sl [] 0,[],rfl,.sl0 a cap,⟨[],⟨trivial,(fun s h=>by cases h),0,rfl,by simp [aN]⟩,(fun _ _ _ _ _ _ e=>by cases e),by simp,fun i a h=>by simp at h⟩,fun z h=>(by cases h),Vj _,Vj _⟩
  ·have hp:=E.pos;obtain ⟨L,hL1,hL2⟩:=yj (P:=fun i (y:List AV × List Value × α)=>w.cells? base (a.add (i*E.sz)) E.sz=some y.2.1/\LR μ F w y.1 y.2.1/\E.R H y.1 y.2.2/\∃ h:i<elems.length,good elems[i].1 y.2.2) len fun i hi=>by
    have h1:=hel i hi;rw [U7 zO,hsz] at h1;obtain ⟨cs,h2,h3⟩:=U3.1 h1;obtain ⟨acs,z,h4,h5,h6⟩:=helem _ _ _ h3;exact ⟨(acs,cs,z),h2,h4,h5,zO,h6⟩
   have hsizes:∀ y∈L,y.1.length=E.sz:=fun y hy=>by
    obtain ⟨i,hi,rfl⟩:=Wg hy;exact (E.len (hL2 i hi).2.2.1).1
   obtain ⟨hfl,hfa⟩:=JT (f:=fun y:List AV × List Value × α=>y.1) L hsizes;have hcell:∀ i (hi:i<L.length) k,k<E.sz->w.cell? (a.add (i*E.sz) |>.add k)=(L[i]).2.1[k]?:=fun i hi k hk=>((World.cells?_some (hL2 i hi).1).2.2 k hk)
   obtain ⟨v0,hv0⟩:∃ v0,w.cell? a=some v0:=by
    have h1:=hcell 0 zO 0 hp;have h2:=(World.cells?_some (hL2 0 zO).1).2.1;rw [U7 zO] at h1;simp [Addr.add] at h1;exact ⟨_,h1⟩
   obtain ⟨arr,ety,fr,hblk,hspot⟩:∃ arr ety fr,w.heap[a.block]? = some (.cells arr ety fr)/\a.spot=none:=by
    unfold World.cell? at hv0;split at hv0
    ·rename_i c ety fr hb;refine ⟨c,ety,fr,hb,?_⟩;cases hs:a.spot with
     | none=>rfl
     | some s=>rw [hs] at hv0; simp at hv0
    ·cases hv0
   obtain ⟨blk,off,spot⟩:=a;simp only at hspot hblk hb;subst hspot;have hat:∀ i (hi:i<L.length) k,k<E.sz->arr[off+(i*E.sz+k)]? = (L[i]).2.1[k]?:=fun i hi k hk=>by
    rw [<- hcell i hi k hk];have e:((⟨blk,off,none⟩:Addr).add (i*E.sz) |>.add k)=⟨blk,off+(i*E.sz+k),none⟩:=by
     unfold Addr.add;by_cases h1:i*E.sz=0
     ·by_cases h2:k=0
      ·simp [h1,h2]
      ·simp [h1,h2]
     ·by_cases h2:k=0
      ·simp [h1,h2]
      ·simp [h1,h2]; omega
    rw [e];simp [World.cell?,hblk]
   have hvl:∀ i (hi:i<L.length),(L[i]).2.1.length=E.sz:=fun i hi=>(World.cells?_some (hL2 i hi).1).2.1;have hsize:off+(L.flatMap fun y=>y.1).length<=arr.size:=by
    have h1:=hat (len-1) zO (E.sz-1) zO;rw [U7 (by have:=hvl (len-1) zO; omega)] at h1;have h2:=(Wc.1 h1).1;rw [hfl,hL1];have h3:len*E.sz=(len-1)*E.sz+E.sz:=by
     obtain ⟨m,rfl⟩:∃ m,len=m+1:=⟨len-1,zO⟩
     rw [WP,Xe]
    omega
   refine ⟨_,.sl (L.flatMap fun y=>y.1) len,L.map fun y=>y.2.2,rfl,.sl _ _ _ blk off arr ety fr (hF _ (Wc.1 hblk).1) hblk hl hsize fun j c v hc hv=>?_,⟨L.flatMap fun y=>y.1,⟨trivial,(fun s h=>by cases h),len,rfl,?_⟩,(fun _ _ _ _ _ _ e=>by cases e),?_,fun i z hz=>?_⟩,fun z hz=>?_,by rw [Vc,hL1]; omega,by rw [Vc,hL1,ex]; simp [uz,hlen]⟩
   ·have hj:=(Vm.1 hc).1;rw [hfl] at hj;have hi:j / E.sz<L.length:=(Vz hp).2 hj;have hk:j % E.sz<E.sz:=V4 _ hp;have hjk:j / E.sz*E.sz+j % E.sz=j:=Yp j E.sz;have h1:=hfa _ hi _ hk;have h2:=hat _ hi _ hk;rw [hjk] at h1 h2;rw [hc] at h1;rw [hv] at h2;exact (hL2 _ hi).2.1.2 _ _ _ h1.symm h2.symm
   ·simp only [aN];rw [if_pos ⟨Vb _,by rw [hfl,hL1]; exact Vb _⟩,VF (by rw [hfl,hL1]; exact Vb _)]
   ·rw [hfl,Vc]
   ·rw [V5,Vf] at hz;obtain ⟨y,hy,rfl⟩:=hz;obtain ⟨hi,rfl⟩:=Vm.1 hy;have e:(((L.flatMap fun y=>y.1).drop (i*E.sz)).take E.sz)=L[i].1:=by
     apply WM
     intro k;rw [Vv];have hl1:=hsizes _ (U9 hi);split
     ·rename_i hk;rw [Vw]; exact hfa i hi k hk
     ·exact (VI zO).symm
    rw [e];exact (hL2 i hi).2.2.1
   ·obtain ⟨y,hy,rfl⟩:=Va.1 hz;obtain ⟨i,hi,rfl⟩:=Wg hy;obtain ⟨h1,h2⟩:=(hL2 i hi).2.2.2;rw [ex];exact ⟨_,Va.2 ⟨_,U9 h1,rfl⟩,h2⟩
def PY {E:fw α} {ty:Nat} {good:α->Prop} {t e:TypeId} (hF:∀ c,c<w.heap.size->F c) (ht:P.underlying t=some (.slice e)) (hsz:P.cellsOf e=E.sz)
  (helem:∀ fuel cs x,DataW.trod enc P w base sp held fuel e cs=some x->∃ acs z,LR μ F w acs cs/\E.R H acs z/\good z)
  {fuel:Nat} {cs:List Value} {x:DataW HT × List MemPlace} (h:DataW.trod enc P w base sp held fuel t cs=some x) :
  ∃ v av zs,cs=[v]/\VR μ F w av v/\SlV E ty H av zs/\(∀ z∈zs,good z)/\zs.length<=maxLen:=by
 obtain ⟨v,av,zs,h1,h2,h3,h4,h5,-⟩:=zI (good:=fun _ z=>good z) hF ht hsz helem h;exact ⟨v,av,zs,h1,h2,h3,fun z hz=>(h4 z hz).elim fun _ h=>h.2,h5⟩
def KH {t:TypeId} (ht:P.underlying t=some (.int .u64)) {fuel:Nat} {cs:List Value} {x:DataW HT × List MemPlace} (h:DataW.trod enc P w base sp held fuel t cs=some x) :
  ∃ acs z,LR μ F w acs cs/\(bS cj).R H acs z/\z<18446744073709551616:=by
 obtain ⟨n,rfl,-,hw⟩:=DataW.trod_int ht h;have hr:0<=n/\n<18446744073709551616:=by
  have h1:IntKind.u64.min=0:=by decide
  have h2:IntKind.u64.max=18446744073709551615:=by decide
  unfold Lit.wf at hw;simp [h1,h2] at hw;omega
 refine ⟨[.int .u64 n],n.toNat,LR.cons (.int _ _) LR.nil,⟨_,rfl,?_⟩,zO⟩;show AV.int .u64 n=.int .u64 (n.toNat:Int);rw [Z1 hr.1]
def Ni {t e:TypeId} (hF:∀ c,c<w.heap.size->F c) (ht:P.underlying t=some (.slice e)) (he:P.underlying e=some (.int .u64)) (hsz:P.cellsOf e=1) {fuel:Nat} {cs:List Value} {x:DataW HT × List MemPlace} (h:DataW.trod enc P w base sp held fuel t cs=some x) :
  ∃ v av zs,cs=[v]/\VR μ F w av v/\SlV (bS cj) ae H av zs/\(∀ z∈zs,z<18446744073709551616)/\zs.length<=maxLen/\zs.length<=(uz x.1).length:=by
 obtain ⟨v,av,zs,h1,h2,h3,h4,h5⟩:=zI (E:=bS cj) (ty:=ae) (H:=H) (μ:=μ) (good:=fun _ z=>z<18446744073709551616) hF ht hsz (fun fuel cs x h=>KH he h) h;exact ⟨v,av,zs,h1,h2,h3,fun z hz=>(h4 z hz).elim fun _ h=>h.2,h5⟩
def Ep (z:Bool × List Nat):Prop:=(∀ x∈z.2,x<18446744073709551616)/\z.2.length<=maxLen
def Nh {t e:TypeId} {fs:Array Field} {f0 f1:Field} (hF:∀ c,c<w.heap.size->F c) (ht:P.underlying t=some (.struct fs)) (hfs:fs = #[f0,f1]) (h0:f0.offset=0) (h1:f1.offset=1) (hc:P.cellsOf t=2) (hb:P.underlying f0.type=some .bool) (hcb:P.cellsOf f0.type=1) (hn:P.underlying f1.type=some (.slice e)) (hcn:P.cellsOf f1.type=1) (he:P.underlying e=some (.int .u64)) (hce:P.cellsOf e=1)
  {fuel:Nat} {cs:List Value} {x:DataW HT × List MemPlace} (h:DataW.trod enc P w base sp held fuel t cs=some x) :
  ∃ acs z,LR μ F w acs cs/\rawE.R H acs z/\Ep z/\Ej x.1 z:=by
 subst hfs;obtain ⟨xs,n,-,ex,hl,hxl,hx⟩:=DataW.trod_struct ht h;have hxl:xs.length=2:=by simpa using hxl
 rw [hc] at hl
 match cs,hl with
 | [c0,c1],_ =>
  have e0:=hx 0 f0 rfl;have e1:=hx 1 f1 rfl;rw [U7 zO,h0,hcb] at e0;rw [U7 zO,h1,hcn] at e1;have m1:xs[1]∈xs:=U9 _;obtain ⟨b,g0,-⟩:=DataW.trod_bool hb e0;obtain ⟨v,av,zs,g1,g2,g3,g4,g5,g6⟩:=Ni (H:=H) (μ:=μ) hF hn he hce e1;have q0:c0=.bool b:=by simpa using g0
  have q1:c1=v:=by simpa using g1
  clear g0 g1;subst q0; subst q1;exact ⟨[.bool b,av],(b,zs),LR.cons (.bool _) (LR.cons g2 LR.nil),⟨av,rfl,g3⟩,⟨g4,g5⟩,by rw [ex]; exact ⟨_,Va.2 ⟨_,m1,rfl⟩,g6⟩⟩
structure RowTys (P:Program) (tvs tv ti te:TypeId):Prop where
 vs:P.underlying tvs=some (.slice tv)
 cv:P.cellsOf tv=1
 v:P.underlying tv=some (.slice ti)
 ci:P.cellsOf ti=2
 i:∃ f0 f1:Field,P.underlying ti=some (.struct #[f0,f1])/\f0.offset=0/\f1.offset=1/\P.underlying f0.type=some .bool/\P.cellsOf f0.type=1/\P.underlying f1.type=some (.slice te)/\P.cellsOf f1.type=1
 e:P.underlying te=some (.int .u64)
 ce:P.cellsOf te=1
abbrev TU (H:Heap) (v:AV) (l:List (Bool × List Nat)):Prop:=SlV rawE aa H v l
def iw (l:List (Bool × List Nat)):Prop:=(∀ z∈l,Ep z)/\l.length<=maxLen
def E4 {tvs tv ti te:TypeId} (hP:RowTys P tvs tv ti te) (hF:∀ c,c<w.heap.size->F c) {fuel:Nat} {cs:List Value} {x:DataW HT × List MemPlace} (h:DataW.trod enc P w base sp held fuel tv cs=some x) :
  ∃ v av l,cs=[v]/\VR μ F w av v/\TU H av l/\iw l/\∀ z∈l,∃ y∈uz x.1,Ej y z:=by
 obtain ⟨f0,f1,i1,i2,i3,i4,i5,i6,i7⟩:=hP.i;obtain ⟨v,av,l,g1,g2,g3,g4,g5,-⟩:=zI (E:=rawE) (ty:=aa) (H:=H) (μ:=μ) (good:=fun y z=>Ep z/\Ej y z) hF hP.v hP.ci (fun fuel cs x h=>Nh hF i1 rfl i2 i3 hP.ci i4 i5 i6 i7 hP.e hP.ce h) h;exact ⟨v,av,l,g1,g2,g3,⟨fun z hz=>(g4 z hz).elim fun _ h=>h.2.1,g5⟩,fun z hz=>(g4 z hz).imp fun y h=>⟨h.1,h.2.2⟩⟩
end
def ct (z:Bool × List Nat):Int:=if z.1=true then -(val z.2:Int) else (val z.2:Int)
def Ct:∀ {z:Bool × List Nat},mP z=false->Lim z.2->cC (ct z)=z
 | (b,l),hb,hl=>by
  simp only [mP,WR,decide_eq_false_iff_not,ZL] at hb;obtain ⟨h1,h2⟩:=hb;have hn:My l:=h1;have hv:=xA hl hn;cases b with
  | false =>
   have e:ct (false,l)=(val l:Int):=rfl;rw [e];unfold cC;rw [decide_eq_false zO,Xx,hv]
  | true =>
   have e:ct (true,l) = -(val l:Int):=rfl;have hne:l≠[]:=fun e=>by subst e; simp at h2
   have hp:0<B^(l.length-1):=VK (by decide);have hq:=zh hn hne;rw [e];unfold cC;rw [decide_eq_true zO,Yj,Xx,hv]
def SlV.int {ty:Nat} {H:Heap} {v:AV} {l:List (Bool × List Nat)} (h:SlV rawE ty H v l) (hb:∀ z∈l,mP z=false/\Lim z.2):SlV intE ty H v (l.map ct):=by
 obtain ⟨cells,hr,ht,hc,ha⟩:=h;refine ⟨cells,hr,ht,by rw [hc,Vc]; rfl,fun i a hi=>?_⟩;rw [V5,Vf] at hi;obtain ⟨z,hz,rfl⟩:=hi;obtain ⟨w,h1,h2⟩:=ha i z hz;have hm:=hb z (Vo hz);have e:=Ct hm.1 hm.2;have e1:decide (ct z<0)=z.1:=congrArg Prod.fst e;have e2:ag (ct z).natAbs=z.2:=congrArg Prod.snd e;refine ⟨w,by rw [e1]; exact h1,?_⟩;show Lb H w (ag (ct z).natAbs);rw [e2]; exact h2
section
open Go.ChangeShapes Go.WideShapes
variable {HT:Type} {enc:TypeId × Value->HT} {P:Program} {w:World} {base base':Nat} {sp:Nat->Bool} {held:Bool} {μ:Mu} {F:Nat->Prop} {H:Heap}
def open_vec {tvs tv ti te:TypeId} (hP:RowTys P tvs tv ti te) (hF:∀ c,c<w.heap.size->F c) {r:Reach} {v:Value} {d:DataW HT} {ps:List MemPlace} (hval:Value.okWide P w r base' tv v) (hd:DataW.Trod enc P w base sp held tv v d ps) :
  ∃ av l,VR μ F w av v/\TU H av l/\iw l/\∀ z∈l,∃ y∈uz d,Ej y z:=by
 obtain ⟨a,n,c,rfl⟩:=okWide_slice hP.v hval;obtain ⟨fuel,h⟩:=hd;obtain ⟨v',av,l,e,g⟩:=E4 (H:=H) (μ:=μ) hP hF h;have e:v'=.slice a n c:=by simpa [Value.cells] using e.symm
 subst e;exact ⟨av,l,g⟩
end
def int_range {n:Int} (h:(Lit.int .i64 n).wf=true) : -9223372036854775808<=n/\n<9223372036854775808:=by
 have h1:IntKind.i64.min = -9223372036854775808:=by decide
 have h2:IntKind.i64.max=9223372036854775807:=by decide
 unfold Lit.wf at h;simp [h1,h2] at h;omega
def wf_nil:Wf (Heap.nil 0):=fun b e h=>by rw [Tr.nil_get] at h; cases h
def Dw {z:Bool × List Nat} {n:Nat} (hl:Lim z.2) (hn:z.2.length<=n):Bt (64*n) (ct z):=by
 have h1:=wM hl;have h2:B^z.2.length<=B^n:=Vx (by decide) hn;have h3:B^n=2^(64*n):=by
  have:B=2^64:=by decide
  rw [this,<- Ym]
 unfold Bt ct;split
 ·rw [Yj,Xx]; omega
 ·rw [Xx]; omega
def Ri {α:Type} (E:fw α) (ty:Nat):fw (List α × Bool) where
 sz:=2
 tys:=ty :: E.tys
 R H cs z:=∃ v,cs=[v,.bool z.2]/\SlV E ty H v z.1
 pos:=zO
 len:=by rintro H cs z ⟨v,rfl,h⟩; exact ⟨rfl,by simp [h.one.2]; rfl⟩
 mono:=by rintro H H' cs z hs ⟨v,rfl,h⟩; exact ⟨v,rfl,h.monoT hs⟩
def Rf {α:Type} (E:fw α) (ty:Nat):fw (Nat × List α) where
 sz:=2
 tys:=ty :: E.tys
 R H cs z:=∃ v,cs=[.int .u8 (z.1:Int),v]/\SlV E ty H v z.2
 pos:=zO
 len:=by rintro H cs z ⟨v,rfl,h⟩; exact ⟨rfl,by simp [h.one.2]; rfl⟩
 mono:=by rintro H H' cs z hs ⟨v,rfl,h⟩; exact ⟨v,rfl,h.monoT hs⟩
abbrev conE:fw (List Int × Bool):=Ri intE aa
abbrev conQE:fw (List (Bool × List Nat) × Bool):=Ri rawE aa
abbrev genE:fw (Nat × List Int):=Rf intE aa
abbrev genQE:fw (Nat × List (Bool × List Nat)):=Rf rawE aa
section
variable {HT:Type} {enc:TypeId × Value->HT} {P:Program} {w:World} {base:Nat} {sp:Nat->Bool} {held:Bool} {μ:Mu} {F:Nat->Prop} {H:Heap}
structure ConTys (P:Program) (tcs tc tv:TypeId):Prop where
 cs:P.underlying tcs=some (.slice tc)
 cc:P.cellsOf tc=2
 c:∃ f0 f1:Field,P.underlying tc=some (.struct #[f0,f1])/\f0.offset=0/\f1.offset=1/\f0.type=tv/\P.underlying f1.type=some .bool/\P.cellsOf f1.type=1
def Nj {tcs tc tvs tv ti te:TypeId} (hC:ConTys P tcs tc tv) (hP:RowTys P tvs tv ti te) (hF:∀ c,c<w.heap.size->F c) {fuel:Nat} {cs:List Value} {x:DataW HT × List MemPlace} (h:DataW.trod enc P w base sp held fuel tc cs=some x) :
  ∃ acs z,LR μ F w acs cs/\conQE.R H acs z/\iw z.1:=by
 obtain ⟨f0,f1,i1,i2,i3,i4,i5,i6⟩:=hC.c;obtain ⟨xs,n,-,ex,hl,hxl,hx⟩:=DataW.trod_struct i1 h;have hxl:xs.length=2:=by simpa using hxl
 rw [hC.cc] at hl
 match cs,hl with
 | [c0,c1],_ =>
  have e0:=hx 0 f0 rfl;have e1:=hx 1 f1 rfl;rw [U7 zO,i2,i4,hP.cv] at e0;rw [U7 zO,i3,i6] at e1;obtain ⟨b,g0,-⟩:=DataW.trod_bool i5 e1;obtain ⟨v,av,l,g1,g2,g3,g4,-⟩:=E4 (H:=H) (μ:=μ) hP hF e0;have q0:c1=.bool b:=by simpa using g0
  have q1:c0=v:=by simpa using g1
  clear g0 g1;subst q0; subst q1;exact ⟨[av,.bool b],(l,b),LR.cons g2 (LR.cons (.bool _) LR.nil),⟨av,rfl,g3⟩,g4⟩
def KI {tcs tc tvs tv ti te:TypeId} (hC:ConTys P tcs tc tv) (hP:RowTys P tvs tv ti te) (hF:∀ c,c<w.heap.size->F c) {fuel:Nat} {cs:List Value} {x:DataW HT × List MemPlace} (h:DataW.trod enc P w base sp held fuel tcs cs=some x) (ty:Nat) :
  ∃ v av l,cs=[v]/\VR μ F w av v/\SlV conQE ty H av l/\(∀ r∈l,iw r.1)/\l.length<=maxLen :=
 PY (E:=conQE) (good:=fun z=>iw z.1) hF hC.cs hC.cc (fun fuel cs x h=>Nj hC hP hF h) h
end
section
open Go.ChangeShapes Go.WideShapes
variable {HT:Type} {enc:TypeId × Value->HT} {P:Program} {w:World} {base base':Nat} {sp:Nat->Bool} {held:Bool} {μ:Mu} {F:Nat->Prop} {H:Heap}
def open_cons {tcs tc tvs tv ti te:TypeId} (hC:ConTys P tcs tc tv) (hP:RowTys P tvs tv ti te) (hF:∀ c,c<w.heap.size->F c) {r:Reach} {v:Value} {d:DataW HT} {ps:List MemPlace} (hval:Value.okWide P w r base' tcs v) (hd:DataW.Trod enc P w base sp held tcs v d ps) (ty:Nat) :
  ∃ av l,VR μ F w av v/\SlV conQE ty H av l/\(∀ r∈l,iw r.1)/\l.length<=maxLen:=by
 obtain ⟨a,n,c,rfl⟩:=okWide_slice hC.cs hval;obtain ⟨fuel,h⟩:=hd;obtain ⟨v',av,l,e,g⟩:=KI (H:=H) (μ:=μ) hC hP hF h ty;have e:v'=.slice a n c:=by simpa [Value.cells] using e.symm
 subst e;exact ⟨av,l,g⟩
end
def OO {ty:Nat} {H:Heap} {v:AV} {l:List (List (Bool × List Nat) × Bool)} (h:SlV conQE ty H v l) (hb:∀ r∈l,∀ z∈r.1,mP z=false/\Lim z.2):SlV conE ty H v (l.map fun r=>(r.1.map ct,r.2)):=by
 obtain ⟨cells,hr,ht,hc,ha⟩:=h;refine ⟨cells,hr,ht,by rw [hc,Vc]; rfl,fun i a hi=>?_⟩;rw [V5,Vf] at hi;obtain ⟨z,hz,rfl⟩:=hi;obtain ⟨w,h1,h2⟩:=ha i z hz;exact ⟨w,h1,SlV.int h2 (hb z (Vo hz))⟩
end Go.Proofs.YteaefaohjlmjdaaGreat.Ev
namespace Go.Proofs.YteaefaohjlmjdaaGreat.Lin
def zQ (d:Nat):List V->V
 | []=>lc d
 | a :: l=>mix 1 a 1 (zQ d l)
def uL {d:Nat}:∀ {l:List V},(∀ a∈l,a.length=d)->(zQ d l).length=d
 | [],_=>by simp [zQ,lc]
 | a :: l,h=>mix_length (h a (Vh ..)) (uL fun b hb=>h b (Vd _ hb))
def sn {d:Nat} {x:V}:∀ {l:List V},(∀ a∈l,a.length=d)->(∀ a∈l,dot x a=0)->dot x (zQ d l)=0
 | [],_,_=>kg x d
 | a :: l,hl,h=>by
  have h1:=sn (x:=x) (l:=l) (fun b hb=>hl b (Vd _ hb)) fun b hb=>h b (Vd _ hb);have h2:=h a (Vh ..);have e:=uL (d:=d) (l:=l) fun b hb=>hl b (Vd _ hb);rw [zQ,aT _ _ _ ((hl a (Vh ..)).trans e.symm)];omega
def ye {d:Nat} {x:V}:∀ {l:List V},(∀ a∈l,a.length=d)->(∀ a∈l,0<=dot x a)->0<=dot x (zQ d l)/\((∃ a∈l,dot x a≠0)->1<=dot x (zQ d l))
 | [],_,_=>⟨by rw [zQ,kg]; exact Xi _,fun ⟨a,ha,_⟩=>by cases ha⟩
 | a :: l,hl,h=>by
  obtain ⟨h1,h3⟩:=ye (x:=x) (l:=l) (fun b hb=>hl b (Vd _ hb)) fun b hb=>h b (Vd _ hb);have h2:=h a (Vh ..);have e:=uL (d:=d) (l:=l) fun b hb=>hl b (Vd _ hb);rw [zQ,aT _ _ _ ((hl a (Vh ..)).trans e.symm)];refine ⟨zO,?_⟩;rintro ⟨b,hb,hn⟩;rcases VA.1 hb with rfl | hb
  ·omega
  ·have:=h3 ⟨b,hb,hn⟩
   omega
def Hn {d:Nat} {E I:V->Prop} {L R:List V} (h:y8 d E I L R) {r s:V} (hr:r∈R) (hs:s∈R) (hne:s≠r):∃ i,I i/\dot i r=0/\dot i s≠0:=by
 apply VP
 intro hno;have hk:=h.dd.keep r hr;have hrk':=h.dd.keep s hs;have hrl':=h.dd.lenR s hs;obtain ⟨k1,c1,hk1,hc1,hsp⟩:=h.dd.ext r hr s hrk' fun i hi hz=>VP fun hn=>hno ⟨i,hi,hz,hn⟩;have hc1':c1≠0:=fun e0=>by
  subst e0;obtain ⟨i',hi',hn'⟩:=h.dd.off s hs
  have:=Con.dot_zero (a:=i') h.dd.lenL (fun r h=>h.elim) (fun l hl=>h.dd.lineI l hl i' hi') (fun r h=>h.elim) hsp
  rw [aT _ _ _ (hrl'.trans hk.len.symm)] at this;rcases VB.1 (show k1*dot i' s=0 by omega) with h1 | h1
  ·omega
  ·exact hn' h1
 have:s=r:=yf h.form hrl' hk.len (fun l hl=>h.rest s hs l hl) (fun l hl=>h.rest r hr l hl) (h.cont s hs) (h.cont r hr) hk1 zO hsp
 exact hne this
def zZ (f:V->Int):∀ S:List V,∃ N:Int,0<=N/\∀ s∈S,f s<=N
 | []=>⟨0,Xi _,fun s h=>by cases h⟩
 | a :: S=>by
  obtain ⟨N,h0,hN⟩:=zZ f S;refine ⟨N+(f a).natAbs,zO,fun s hs=>?_⟩;rcases VA.1 hs with rfl | hs
  ·omega
  ·have:=hN s hs; omega
def unitC (n:Nat) (k:Int):V:=k :: List.replicate n 0
def hd1 (r:V):Int:=r.headD 0
def eqsOf (l:List (V × Bool)):List V:=(l.filter fun c=>c.2).map fun c=>c.1
def ineqsOf (n:Nat) (l:List (V × Bool)):List V:=unitC n 1 :: (l.filter fun c=>!c.2).map fun c=>c.1
def kindOf (r:V):Nat:=if 0<hd1 r then 3 else 2
def gensP (n:Nat) (l:List (V × Bool)):List (Nat × V) :=
 if (gensR (n+1) (eqsOf l) (ineqsOf n l)).any (fun r=>decide (0<hd1 r)) then
  (gensL (n+1) (eqsOf l) (ineqsOf n l)).map (fun r=>(1,r))++(gensR (n+1) (eqsOf l) (ineqsOf n l)).map fun r=>(kindOf r,r)
 else []
def linesOf (g:List (Nat × V)):List V:=(g.filter fun x=>x.1 == 1).map fun x=>x.2
def raysOf (g:List (Nat × V)):List V:=(g.filter fun x=>!(x.1 == 1)).map fun x=>x.2
def consP (n:Nat) (g:List (Nat × V)):List (V × Bool) :=
 if g.any (fun x=>x.1 == 3) then
  (gensL (n+1) (linesOf g) (raysOf g)).map (fun r=>(r,true))++((gensR (n+1) (linesOf g) (raysOf g)).filter fun r=>!decide (r=unitC n 1)).map fun r=>(r,false)
 else [(unitC n (-1),false)]
def keepsP (c:V × Bool) (g:Nat × V):Bool:=if c.2 || g.1 == 1 then decide (dot c.1 g.2=0) else decide (0<=dot c.1 g.2)
def unitC_len (n:Nat) (k:Int):(unitC n k).length=n+1:=by simp [unitC]
def CO:∀ (n:Nat) (x:V),dot (List.replicate n 0) x=0
 | 0,x=>by simp [dot]
 | n+1,[]=>by simp [dot]
 | n+1,a :: x=>by
  have:=CO n x
  rw [WA];simp [dot] at this ⊢;exact this
def fN {n:Nat} {k:Int} {x:V}:dot (unitC n k) x=k*hd1 x:=by
 cases x with
 | nil=>simp [unitC,dot,hd1]
 | cons a x =>
  have:=CO n x
  simp [unitC,dot,hd1,this]
section
variable {n:Nat} {l:List (V × Bool)}
def eqs_len (h:∀ c∈l,c.1.length=n+1):∀ a∈eqsOf l,a.length=n+1:=fun a ha=>by
 obtain ⟨c,hc,rfl⟩:=Va.1 ha;exact h c (Vp.1 hc).1
def ineqs_len (h:∀ c∈l,c.1.length=n+1):∀ a∈ineqsOf n l,a.length=n+1:=fun a ha=>by
 rcases VA.1 ha with rfl | ha
 ·exact unitC_len n 1
 ·obtain ⟨c,hc,rfl⟩:=Va.1 ha;exact h c (Vp.1 hc).1
def mem_eqs {a:V}:a∈eqsOf l ↔ (a,true)∈l:=by
 constructor
 ·intro h;obtain ⟨⟨r,b⟩,hc,rfl⟩:=Va.1 h;obtain ⟨h1,h2⟩:=Vp.1 hc;simp only at h2;subst h2;exact h1
 ·intro h;exact Va.2 ⟨(a,true),Vp.2 ⟨h,rfl⟩,rfl⟩
def mem_ineqs {a:V}:a∈ineqsOf n l ↔ a=unitC n 1\/(a,false)∈l:=by
 unfold ineqsOf;rw [VA];refine or_congr YR ?_;constructor
 ·intro h;obtain ⟨⟨r,b⟩,hc,rfl⟩:=Va.1 h;obtain ⟨h1,h2⟩:=Vp.1 hc;cases b with
  | false=>exact h1
  | true=>simp at h2
 ·intro h;exact Va.2 ⟨(a,false),Vp.2 ⟨h,rfl⟩,rfl⟩
abbrev gc (n:Nat) (l:List (V × Bool)) (x:V):Prop:=Keep (n+1) (· ∈ eqsOf l) (· ∈ ineqsOf n l) x
def keepP_iff {x:V}:gc n l x ↔ x.length=n+1/\0<=hd1 x/\∀ c∈l,(c.2=true->dot c.1 x=0)/\(c.2=false->0<=dot c.1 x):=by
 constructor
 ·intro h;have h1:=h.ge (unitC n 1) (mem_ineqs.2 (.inl rfl));rw [fN] at h1;refine ⟨h.len,zO,fun ⟨r,b⟩ hc=>⟨fun hb=>?_,fun hb=>?_⟩⟩
  ·simp only at hb; subst hb; exact h.eq r (mem_eqs.2 hc)
  ·simp only at hb; subst hb; exact h.ge r (mem_ineqs.2 (.inr hc))
 ·rintro ⟨h1,h2,h3⟩;refine ⟨h1,fun a ha=>(h3 _ (mem_eqs.1 ha)).1 rfl,fun a ha=>?_⟩;rcases mem_ineqs.1 ha with rfl | ha
  ·rw [fN]; omega
  ·exact (h3 _ ha).2 rfl
def Iz {l':List (V × Bool)} (h:∀ c∈l,c.1.length=n+1) (h':∀ c∈l',c.1.length=n+1) (hs:∀ x,gc n l x ↔ gc n l' x):gensP n l=gensP n l':=by
 obtain ⟨e1,e2⟩:=qF (gens_told (eqs_len h) (ineqs_len h)) (gens_told (eqs_len h') (ineqs_len h')) hs;unfold gensP;rw [e1,e2]
def Og (h:∀ c∈l,c.1.length=n+1) {r:V} (hr:r∈gensL (n+1) (eqsOf l) (ineqsOf n l)):gc n l r/\gc n l (scl (-1) r):=by
 have t:=gens_told (eqs_len h) (ineqs_len h);refine ⟨⟨t.dd.lenL r hr,fun e he=>t.dd.lineE r hr e he,fun i hi=>by rw [t.dd.lineI r hr i hi]; exact Xi _⟩,⟨ah (t.dd.lenL r hr),fun e he=>by rw [dot_scl,t.dd.lineE r hr e he]; rfl,fun i hi=>by rw [dot_scl,t.dd.lineI r hr i hi]; exact Xi _⟩⟩
def NK (h:∀ c∈l,c.1.length=n+1) {r:V} (hr:r∈gensR (n+1) (eqsOf l) (ineqsOf n l)):gc n l r:=(gens_told (eqs_len h) (ineqs_len h)).dd.keep r hr
def De (n:Nat) (l:List (V × Bool)) (c:V × Bool):Prop:=∀ x,gc n l x->(c.2=true->dot c.1 x=0)/\0<=dot c.1 x
def se {c:V × Bool} (hc:c∈l):De n l c:=fun x hx=>by
 have h1:=(keepP_iff.1 hx).2.2 c hc;refine ⟨h1.1,?_⟩;cases hb:c.2 with
 | false=>exact h1.2 hb
 | true=>rw [h1.1 hb]; exact Xi _
def jd {c:V × Bool} {g:Nat × V} (hc:De n l c) (hg:gc n l g.2) (hl:g.1=1->gc n l (scl (-1) g.2)):keepsP c g=true:=by
 have h1:=hc _ hg;unfold keepsP;cases hb:c.2 with
 | true=>simp [h1.1 hb]
 | false =>
  by_cases hk:g.1=1
  ·have h2:=(hc _ (hl hk)).2;rw [dot_scl] at h2;simp [hk]; omega
  ·simp [hk]; exact h1.2
def mM (h:∀ c∈l,c.1.length=n+1) {g:Nat × V} (hg:g∈gensP n l):gc n l g.2/\(g.1=1->gc n l (scl (-1) g.2)):=by
 unfold gensP at hg;split at hg
 ·rcases Vu.1 hg with hg | hg
  ·obtain ⟨r,hr,rfl⟩:=Va.1 hg;exact ⟨(Og h hr).1,fun _=>(Og h hr).2⟩
  ·obtain ⟨r,hr,rfl⟩:=Va.1 hg;refine ⟨NK h hr,fun e=>?_⟩;have e:kindOf r=1:=e;unfold kindOf at e;split at e <;> omega
 ·cases hg
theorem JJ (r:V):(kindOf r == 1)=false:=by unfold kindOf; split <;> rfl
def mL (hs:(gensR (n+1) (eqsOf l) (ineqsOf n l)).any (fun r=>decide (0<hd1 r))=true) :
  linesOf (gensP n l)=gensL (n+1) (eqsOf l) (ineqsOf n l)/\raysOf (gensP n l)=gensR (n+1) (eqsOf l) (ineqsOf n l)/\(gensP n l).any (fun x=>x.1 == 3)=true:=by
 unfold gensP;rw [if_pos hs];refine ⟨?_,?_,?_⟩
 ·unfold linesOf;rw [Wo,Z4.2,ZH.2,Wy,Xl]
  ·exact YU _
  ·intro x hx;obtain ⟨r,-,rfl⟩:=Va.1 hx;simp [JJ]
  ·intro x hx;obtain ⟨r,-,rfl⟩:=Va.1 hx;rfl
 ·unfold raysOf;rw [Wo,ZH.2,Z4.2,Xr,Xl]
  ·exact YU _
  ·intro x hx;obtain ⟨r,-,rfl⟩:=Va.1 hx;simp [JJ]
  ·intro x hx;obtain ⟨r,-,rfl⟩:=Va.1 hx
   simp
 ·rw [VO] at hs ⊢;obtain ⟨r,hr,h0⟩:=hs;refine ⟨(kindOf r,r),WO _ (Va.2 ⟨r,hr,rfl⟩),?_⟩;have h0:0<hd1 r:=of_decide_eq_true h0;simp [kindOf,h0]
def l7 {g:List (Nat × V)} (h3:g.any (fun x=>x.1 == 3)=true) (x:V):gc n (consP n g) x ↔ 0<=hd1 x/\Keep (n+1) (· ∈ gensL (n+1) (linesOf g) (raysOf g)) (· ∈ gensR (n+1) (linesOf g) (raysOf g)) x:=by
 rw [keepP_iff];unfold consP;rw [if_pos h3];constructor
 ·rintro ⟨q1,q2,q3⟩;refine ⟨q2,q1,fun a ha=>(q3 (a,true) (WF _ (Va.2 ⟨a,ha,rfl⟩))).1 rfl,fun b hb=>?_⟩;by_cases hu:b=unitC n 1
  ·rw [hu,fN]; omega
  ·exact (q3 (b,false) (WO _ (Va.2 ⟨b,Vp.2 ⟨hb,by simp [hu]⟩,rfl⟩))).2 rfl
 ·rintro ⟨q2,hk⟩;refine ⟨hk.len,q2,fun c hc=>?_⟩;rcases Vu.1 hc with hc | hc
  ·obtain ⟨a,ha,rfl⟩:=Va.1 hc;exact ⟨fun _=>hk.eq a ha,fun e=>by cases e⟩
  ·obtain ⟨b,hb,rfl⟩:=Va.1 hc;exact ⟨(fun e=>by cases e),fun _=>hk.ge b (Vp.1 hb).1⟩
def jh {g:List (Nat × V)} (hg:∀ x∈g,x.2.length=n+1):∀ c∈consP n g,c.1.length=n+1:=by
 have e1:∀ a∈linesOf g,a.length=n+1:=fun a ha=>by obtain ⟨x,hx,rfl⟩:=Va.1 ha; exact hg x (Vp.1 hx).1
 have e2:∀ a∈raysOf g,a.length=n+1:=fun a ha=>by obtain ⟨x,hx,rfl⟩:=Va.1 ha; exact hg x (Vp.1 hx).1
 intro c hc;unfold consP at hc;split at hc
 ·rcases Vu.1 hc with hc | hc
  ·obtain ⟨a,ha,rfl⟩:=Va.1 hc;exact LI e1 e2 a ha
  ·obtain ⟨b,hb,rfl⟩:=Va.1 hc;exact LH e1 e2 b (Vp.1 hb).1
 ·rw [V7] at hc;subst hc;exact unitC_len n (-1)
def sK (h:∀ c∈l,c.1.length=n+1):∀ x∈gensP n l,x.2.length=n+1:=fun x hx=>(mM h hx).1.len
def uW (h:∀ c∈l,c.1.length=n+1) (hs:(gensR (n+1) (eqsOf l) (ineqsOf n l)).any (fun r=>decide (0<hd1 r))=true) (x:V):gc n (consP n (gensP n l)) x ↔ gc n l x:=by
 obtain ⟨p1,p2,p3⟩:=mL hs;rw [l7 p3,p1,p2];have t1:=gens_told (eqs_len h) (ineqs_len h);have t2:=gens_told t1.dd.lenL t1.dd.lenR;have hd:=CL (eqs_len h) (ineqs_len h) t1.dd t2.dd x;constructor
 ·rintro ⟨-,hk⟩; exact hd.2 hk
 ·intro hk; exact ⟨(keepP_iff.1 hk).2.1,hd.1 hk⟩
def px:gensP n [(unitC n (-1),false)]=[]:=by
 have hl:∀ c∈[(unitC n (-1),false)],c.1.length=n+1:=fun c hc=>by rw [V7] at hc; subst hc; exact unitC_len n (-1)
 unfold gensP;rw [if_neg];intro hs;rw [VO] at hs;obtain ⟨r,hr,h0⟩:=hs;have h0:0<hd1 r:=of_decide_eq_true h0
 have:=((keepP_iff.1 (NK hl hr)).2.2 _ (V7.2 rfl)).2 rfl
 rw [fN] at this;omega
def K9 (h:∀ c∈l,c.1.length=n+1):gensP n (consP n (gensP n l))=gensP n l:=by
 by_cases hs:(gensR (n+1) (eqsOf l) (ineqsOf n l)).any (fun r=>decide (0<hd1 r))=true
 ·exact Iz (jh (sK h)) h (uW h hs)
 ·have e:gensP n l=[]:=by unfold gensP; rw [if_neg hs]
  rw [e];exact px
def poly_keeps (h:∀ c∈l,c.1.length=n+1) {g:Nat × V} (hg:g∈gensP n l) {c:V × Bool} (hc:c∈l\/c∈consP n (gensP n l)):keepsP c g=true:=by
 obtain ⟨k1,k2⟩:=mM h hg;refine jd (l:=l) ?_ k1 k2;rcases hc with hc | hc
 ·exact se hc
 ·have hs:(gensR (n+1) (eqsOf l) (ineqsOf n l)).any (fun r=>decide (0<hd1 r))=true:=by
   cases hs:(gensR (n+1) (eqsOf l) (ineqsOf n l)).any (fun r=>decide (0<hd1 r)) with
   | true=>rfl
   | false =>
    unfold gensP at hg;rw [if_neg (by rw [hs]; decide)] at hg;cases hg
  exact fun x hx=>se hc x ((uW h hs x).2 hx)
def Au (hne:gensP n l≠[]):(gensP n l).any (fun x=>x.1 == 3)=true:=by
 cases hs:(gensR (n+1) (eqsOf l) (ineqsOf n l)).any (fun r=>decide (0<hd1 r)) with
 | true=>exact (mL hs).2.2
 | false=>exact absurd (by unfold gensP; rw [if_neg (by rw [hs]; decide)]) hne
def ValidG (n:Nat) (g:List (Nat × V)):Prop:=∀ x∈g,x.2.length=n+1/\(x.1=3->0<hd1 x.2)/\(x.1≠3->hd1 x.2=0)
def mem_lines {g:List (Nat × V)} {r:V}:r∈linesOf g ↔ (1,r)∈g:=by
 constructor
 ·intro h;obtain ⟨⟨k,a⟩,hc,rfl⟩:=Va.1 h;obtain ⟨h1,h2⟩:=Vp.1 hc;have h2:k=1:=by simpa using h2
  subst h2;exact h1
 ·intro h;exact Va.2 ⟨(1,r),Vp.2 ⟨h,rfl⟩,rfl⟩
def mem_rays {g:List (Nat × V)} {r:V}:r∈raysOf g ↔ ∃ k,k≠1/\(k,r)∈g:=by
 constructor
 ·intro h;obtain ⟨⟨k,a⟩,hc,rfl⟩:=Va.1 h;obtain ⟨h1,h2⟩:=Vp.1 hc;exact ⟨k,by simpa using h2,h1⟩
 ·rintro ⟨k,hk,h⟩;exact Va.2 ⟨(k,r),Vp.2 ⟨h,by simpa using hk⟩,rfl⟩
def lO {g:List (Nat × V)} (hg:ValidG n g) (h3:g.any (fun x=>x.1 == 3)=true) {x:Nat × V} (hx:x∈g):gc n (consP n g) x.2/\(x.1=1->gc n (consP n g) (scl (-1) x.2)):=by
 have e1:∀ a∈linesOf g,a.length=n+1:=fun a ha=>(hg _ (mem_lines.1 ha)).1;have e2:∀ a∈raysOf g,a.length=n+1:=fun a ha=>by obtain ⟨k,-,h⟩:=mem_rays.1 ha; exact (hg _ h).1
 have t:=gens_told e1 e2;obtain ⟨h1,h2,h4⟩:=hg x hx;rw [l7 h3,l7 h3];obtain ⟨k,r⟩:=x;by_cases hk:k=1
 ·subst hk;have hm:=mem_lines.2 hx;have h5:hd1 r=0:=h4 (show ¬ (1:Nat)=3 by omega);have h6:hd1 (scl (-1) r)=0:=by
   cases r with
   | nil=>rfl
   | cons a r=>simp [scl,hd1] at h5 ⊢; exact h5
  refine ⟨⟨by rw [h5]; exact Xi _,⟨h1,fun a ha=>?_,fun b hb=>?_⟩⟩,fun _=>⟨by rw [h6]; exact Xi _,⟨ah h1,fun a ha=>?_,fun b hb=>?_⟩⟩⟩
  ·rw [dot_comm]; exact t.dd.lineE a ha r hm
  ·rw [dot_comm,(t.dd.keep b hb).eq r hm]; exact Xi _
  ·rw [dot_scl,dot_comm,t.dd.lineE a ha r hm]; rfl
  ·rw [dot_scl,dot_comm,(t.dd.keep b hb).eq r hm]; exact Xi _
 ·have hm:=mem_rays.2 ⟨k,hk,hx⟩;refine ⟨⟨?_,⟨h1,fun a ha=>?_,fun b hb=>?_⟩⟩,fun e=>absurd e hk⟩
  ·by_cases h:k=3
   ·have:0<hd1 r:=h2 h
    show 0<=hd1 r;omega
   ·have:hd1 r=0:=h4 h
    show 0<=hd1 r;omega
  ·rw [dot_comm]; exact t.dd.lineI a ha r hm
  ·rw [dot_comm]; exact (t.dd.keep b hb).ge r hm
def yo (h:∀ c∈l,c.1.length=n+1):ValidG n (gensP n l):=fun x hx=>by
 refine ⟨sK h x hx,fun e=>?_,fun e=>?_⟩
 ·unfold gensP at hx;split at hx
  ·rcases Vu.1 hx with hx | hx
   ·obtain ⟨r,-,rfl⟩:=Va.1 hx;cases e
   ·obtain ⟨r,-,rfl⟩:=Va.1 hx;have e:kindOf r=3:=e;unfold kindOf at e;split at e
    ·assumption
    ·omega
  ·cases hx
 ·obtain ⟨k1,k2⟩:=mM h hx;have p1:=(keepP_iff.1 k1).2.1;unfold gensP at hx;split at hx
  ·rcases Vu.1 hx with hx | hx
   ·obtain ⟨r,-,rfl⟩:=Va.1 hx;have p2:=(keepP_iff.1 (k2 rfl)).2.1;cases r with
    | nil=>rfl
    | cons a r=>simp [scl,hd1] at p1 p2 ⊢; omega
   ·obtain ⟨r,-,rfl⟩:=Va.1 hx;have e:¬ kindOf r=3:=e;unfold kindOf at e;split at e
    ·omega
    ·have p1:0<=hd1 r:=p1;show hd1 r=0;omega
  ·cases hx
end
end Go.Proofs.YteaefaohjlmjdaaGreat.Lin
namespace Go.Proofs.YteaefaohjlmjdaaGreat.Ev
open Go Nn
section
variable {tab:Nat->Option aA} {H:Heap} {s:AV}
def Ca (C:Code tab) (hw:Wf H) {α:Type} {E:fw α} {ty fi:Nat} {first caps:List AV} {l:List α} (hE:E.sz=2) (hs:SlV E ty H s l) (hbig:l.length<4611686018427387904) (p:α->Bool)
  (hf:∀ a∈l,∀ H' cs,Kp H H'->E.R H' cs a->Ans tab (.fn fi (first++[.agg cs]++caps)) H' fun v H2=>v=.bool (p a)/\Kp H' H2) :
  Ans tab (.fn b7 [s,.fn (.func fi) first caps]) H fun v H'=>v=.int .i64 (nr p l)/\Kp H H':=by
 refine bB C.q90 zU fun T hl g0 g1=>?_;refine zW (aQ hl g0 g1 hs.lenV) ?_;refine aq H [] (fun j _ _=>∀ k (h:k<l.length),k<j->p l[k]=false) (a:=0) (N:=l.length) rfl (by refine zW (aE hl g0 g1) ?_; rfl) (zV (aE hl g0 g1)) (Vj _) zO (by simp only [U4,hl]; rfl) rfl (fun _ _ _ _ h=>h) zK (fun k _ h=>by omega) ?_ ?_
 ·intro j T1 H1 _ hj hl1 hi1 hs1 hk1 hP;have w1:=hk1.wf;have le_hk1:=hk1.le;have t0:ad T1 0=s:=(hs1.at_ 0 zU).trans (zV (aD hl g0));have t1:ad T1 1=.fn (.func fi) first caps:=(hs1.at_ 1 zU).trans (zV (aQ hl g0 g1 g1))
  obtain ⟨cs,hr,hlen,-,hld⟩:=(hs.mono hk1.sub).at (U7 hj);have hix:=SlV.idx hs .i64 j hj;rw [hE] at hld hix;simp only [U4,hl] at hl1;refine zW (dL hl1 t0 t1 hi1 hix hld) ?_;refine AnsH.eq (hf _ (U9 hj) _ cs zK (E.mono ((zG H1).t _) hr)) fun H2 hk2=>?_;obtain ⟨k2,_,_⟩:=zT H zK hk2;cases hp:p l[j] with
  | true =>
   refine zW hl1 ?_;exact ⟨by rw [sG hj hP hp],zK⟩
  | false =>
   refine zW hl1 ?_;refine ⟨zK,fun k h hk=>?_⟩;by_cases e:k=j
   ·subst e; exact hp
   ·exact hP k h zO
 ·intro T1 H1 hl1 hs1 hk1 hP;simp only [U4,hl] at hl1;refine zW hl1 ?_;exact ⟨by rw [pR fun k h=>hP k h h],zK⟩
def pf (C:Code tab) (hw:Wf H) {α:Type} {E:fw α} {ty fi:Nat} {first caps:List AV} {l:List α} (hE:E.sz=2) (hs:SlV E ty H s l) (hbig:l.length<4611686018427387904) (p:α->Bool)
  (hf:∀ a∈l,∀ H' cs,Kp H H'->E.R H' cs a->Ans tab (.fn fi (first++[.agg cs]++caps)) H' fun v H2=>v=.bool (p a)/\Kp H' H2) :
  Ans tab (.fn bN [s,.fn (.func fi) first caps]) H fun v H'=>v=.bool (l.any p)/\Kp H H':=by
 refine bB C.q63 zU fun T hl g0 g1=>?_;refine zW (aE hl g0 g1) ?_;refine AnsH.eq (Ca C zF hE (hs.mono (zG H)) hbig p fun a ha H' cs hk hr=>hf a ha H' cs (Kp.trans (H:=H) zK hk) hr) fun H2 hk2=>?_;obtain ⟨k2,_,_⟩:=zT H zK hk2;refine zW (aE hl g0 g1) ?_;exact ⟨by rw [sI],zK⟩
def B9 (C:Code tab) (hw:Wf H) {α:Type} {E:fw α} {ty fi:Nat} {first caps:List AV} {l:List α} (hE:E.sz=2) (hs:SlV E ty H s l) (hbig:l.length<4611686018427387904) (p:α->Bool)
  (hf:∀ a∈l,∀ H' cs,Kp H H'->E.R H' cs a->Ans tab (.fn fi (first++[.agg cs]++caps)) H' fun v H2=>v=.bool (p a)/\Kp H' H2) :
  Ans tab (.fn bZ [s,.fn (.func fi) first caps]) H fun v H'=>v=.int .i64 (nr p l)/\Kp H H':=by
 refine bB C.q110 zU fun T hl g0 g1=>?_;refine zW (aQ hl g0 g1 hs.lenV) ?_;refine aq H [] (fun j _ _=>∀ k (h:k<l.length),k<j->p l[k]=false) (a:=0) (N:=l.length) rfl (by refine zW (aE hl g0 g1) ?_; rfl) (zV (aE hl g0 g1)) (Vj _) zO (by simp only [U4,hl]; rfl) rfl (fun _ _ _ _ h=>h) zK (fun k _ h=>by omega) ?_ ?_
 ·intro j T1 H1 _ hj hl1 hi1 hs1 hk1 hP;have w1:=hk1.wf;have le_hk1:=hk1.le;have t0:ad T1 0=s:=(hs1.at_ 0 zU).trans (zV (aD hl g0));have t1:ad T1 1=.fn (.func fi) first caps:=(hs1.at_ 1 zU).trans (zV (aQ hl g0 g1 g1))
  obtain ⟨cs,hr,hlen,-,hld⟩:=(hs.mono hk1.sub).at (U7 hj);have hix:=SlV.idx hs .i64 j hj;rw [hE] at hld hix;simp only [U4,hl] at hl1;refine zW (dL hl1 t0 t1 hi1 hix hld) ?_;refine AnsH.eq (hf _ (U9 hj) _ cs zK (E.mono ((zG H1).t _) hr)) fun H2 hk2=>?_;obtain ⟨k2,_,_⟩:=zT H zK hk2;cases hp:p l[j] with
  | true =>
   refine zW hl1 ?_;exact ⟨by rw [sG hj hP hp],zK⟩
  | false =>
   refine zW hl1 ?_;refine ⟨zK,fun k h hk=>?_⟩;by_cases e:k=j
   ·subst e; exact hp
   ·exact hP k h zO
 ·intro T1 H1 hl1 hs1 hk1 hP;simp only [U4,hl] at hl1;refine zW hl1 ?_;exact ⟨by rw [pR fun k h=>hP k h h],zK⟩
def pd (C:Code tab) (hw:Wf H) {α:Type} {E:fw α} {ty fi:Nat} {first caps:List AV} {l:List α} (hE:E.sz=2) (hs:SlV E ty H s l) (hbig:l.length<4611686018427387904) (p:α->Bool)
  (hf:∀ a∈l,∀ H' cs,Kp H H'->E.R H' cs a->Ans tab (.fn fi (first++[.agg cs]++caps)) H' fun v H2=>v=.bool (p a)/\Kp H' H2) :
  Ans tab (.fn bM [s,.fn (.func fi) first caps]) H fun v H'=>v=.bool (l.any p)/\Kp H H':=by
 refine bB C.q84 zU fun T hl g0 g1=>?_;refine zW (aE hl g0 g1) ?_;refine AnsH.eq (B9 C zF hE (hs.mono (zG H)) hbig p fun a ha H' cs hk hr=>hf a ha H' cs (Kp.trans (H:=H) zK hk) hr) fun H2 hk2=>?_;obtain ⟨k2,_,_⟩:=zT H zK hk2;refine zW (aE hl g0 g1) ?_;exact ⟨by rw [sI],zK⟩
def mN (C:Code tab) (hw:Wf H) {l:List Int} (hs:RowV H s l) (hz:∀ z∈l,dJ z):Ans tab (.fn pM [s]) H fun v H'=>v=.int .i64 (ik (Lin.hd1 l))/\Kp H H':=by
 refine cR C.q69 zU fun T hl g0=>?_;cases l with
 | nil =>
  have ls:lenV s=some (.int .i64 0):=hs.lenV;refine zW (aE hl g0 ls) ?_;exact ⟨rfl,zK⟩
 | cons a l =>
  have ls:lenV s=some (.int .i64 ((l.length+1:Nat):Int)):=hs.lenV;have hne:¬ ((l.length+1:Nat):Int)=0:=zO;have hpos:0<(a :: l).length:=by simp
  obtain ⟨w,hn,hld,-,-⟩:=je hs hpos;have hix:cI 2 s (.int .i64 0)=some (au s 0):=SlV.idx hs .i64 0 hpos;have hld:aX H (some 2) (au s 0)=some (.agg [.bool (decide (a<0)),w]):=hld;have hn:bJ H w a.natAbs:=hn;refine zW (dL hl g0 ls hne hix hld) ?_;refine AnsH.eq (pg C (x:=a) zF ⟨w,rfl,hn.mono (zG H)⟩ (hz a (by simp))) fun H2 hk2=>?_;obtain ⟨k2,_,_⟩:=zT H zK hk2;refine zW (aD hl g0) ?_;exact ⟨rfl,zK⟩
def yu (C:Code tab) (hw:Wf H) {v:AV} {b:Bool} (ov:One v):Ans tab (.fn eE [.agg [v,.bool b]]) H fun x H'=>x=v/\Kp H H':=by
 have hbv:fJ (.agg [v,.bool b])=some [v,.bool b]:=by simp [fJ,AV.cells,ov.2]; rfl
 refine cR C.q35 zU fun T hl g0=>?_;refine zW (aE hl g0 hbv) ?_;exact zK
def yr (C:Code tab) (hw:Wf H) {v:AV} {k:Int} (ov:One v):Ans tab (.fn eD [.agg [.int .u8 k,v]]) H fun x H'=>x=v/\Kp H H':=by
 have hbv:fJ (.agg [.int .u8 k,v])=some [.int .u8 k,v]:=by simp [fJ,AV.cells,ov.2]; rfl
 refine cR C.q57 zU fun T hl g0=>?_;refine zW (aE hl g0 hbv) ?_;exact zK
def LU (C:Code tab) (hw:Wf H) {v:AV} {b:Bool} (ov:One v):Ans tab (.fn kr [.agg [v,.bool b]]) H fun x H'=>x=.bool false/\Kp H H':=by
 have hbv:fJ (.agg [v,.bool b])=some [v,.bool b]:=by simp [fJ,AV.cells,ov.2]; rfl
 refine cR C.q36 zU fun T hl g0=>?_;refine zW (aE hl g0 hbv) ?_;exact zK
def Hu (x:Int):0<=ik x ↔ 0<=x:=by unfold ik; split <;> (try split) <;> omega
def xE (C:Code tab) (hw:Wf H) {n:Nat} {k:Int} (hn:n<=60) (hk1 : -9223372036854775808<=k) (hk2:k<9223372036854775808) :
  Ans tab (.fn rj [.int .i64 (n:Int),.int .i64 k]) H fun v H'=>RowV H' v (Lin.unitC n k)/\Kp H H':=by
 obtain ⟨cells,hcells⟩:∃ cells,cells=(List.replicate (n+1) [AV.bool false,AV.nilSl]).flatten:=⟨_,rfl⟩
 have hmk:∀ H':Heap,Jy H' (H.next+3) aa 2 32 [.bool false,.nilSl] (.int .i64 ((n+1:Nat):Int)) (.int .i64 ((n+1:Nat):Int))=some (.own (H.next+3) 0 (n+1) (n+1) 2 true,H'.put (H.next+3) (.cells cells aa true)):=fun H'=>by rw [hcells]; exact jc _ _ _ _ _ _ _ _ _ zO zO rfl
 have ej:IntKind.i64.wrap ((n:Int)+1)=((n+1:Nat):Int):=by rw [wrap_i64] <;> omega
 refine bB C.q65 zU fun T hl g0 g1=>?_;refine zW (bA hl g0 g1 ej hmk) ?_;refine AnsH.use (iP C (n:=k) zF hk1 hk2) ?_;rintro v H2 ⟨⟨w,rfl,hn2⟩,hk2⟩;obtain ⟨k2,_,w2⟩:=zT H zK hk2;have ow:=hn2.one;have hb2:=hk2.get (b:=H.next+3) (e:=.cells cells aa true) (cH);have lt2:=w2 _ _ hb2;have hclen:cells.length=(n+1)*2:=by rw [hcells]; simp
 have hst:BY (some (.cells cells aa true)) 2 0 (.agg [.bool (decide (k<0)),w])=some (.cells (cells.take 0++[.bool (decide (k<0)),w]++cells.drop (0+2)) aa true):=gh (A4 (am _) ow) zO;have hio:cI 2 (.own (H.next+3) 0 (n+1) (n+1) 2 true) (.int .i64 0)=some (.ptr (H.next+3) 0):=ke (j:=0) zO;obtain ⟨cells2,hc2⟩:∃ c,c=cells.take 0++[.bool (decide (k<0)),w]++cells.drop (0+2):=⟨_,rfl⟩
 rw [<- hc2] at hst;have hz:intE.R H2 [.bool false,.nilSl] 0:=⟨.nilSl,by simp,eN H2⟩
 have hcl:Cells intE H2 cells (List.replicate (n+1) 0):=by rw [hcells]; exact oK hz _
 have hcl2:Cells intE H2 cells2 ((List.replicate (n+1) 0).set 0 k):=by rw [hc2]; exact hcl.set (i:=0) (by simp) ⟨w,rfl,hn2⟩
 have m3:NoTy [ae] H2 (H.next+3):=NoTy.ty hb2 zU;refine zW (dL hl g0 g1 hio hb2 hst) ?_;refine ⟨?_,zK⟩;have e:(List.replicate (n+1) (0:Int)).set 0 k=Lin.unitC n k:=by rw [WA]; rfl
 rw [e] at hcl2;obtain ⟨Hx,hHx⟩:∃ Hx,Hx=(H2.up 2).put (H.next+3) (.cells cells2 aa true):=⟨_,rfl⟩
 have hclx:Cells intE Hx cells2 (Lin.unitC n k):=by rw [hHx]; exact Cells.mono (E:=intE) zS hcl2
 have:Own intE aa H Hx (H.next+3) true (.own (H.next+3) 0 (n+1) (n+1) 2 true) (Lin.unitC n k):=⟨cells2,by rw [Lin.unitC_len]; rfl,by rw [hHx]; exact ap _ _ _,hclx,zO⟩
 rw [<- hHx];exact this.sl
abbrev wI:=List (Bool × List Nat) × Bool
abbrev GT:=Nat × List (Bool × List Nat)
def Bm (C:Code tab) (hw:Wf H) {cs:List AV} {c:wI} {b1 b2:Nat} {r1 r2:Bool} (hc:conQE.R H cs c) (hbig:rV c.1)
  (h1:H.get b1=some (.cells [.fn (.func eE) [] []] eZ r1)) (h2:H.get b2=some (.cells [.fn (.func kr) [] []] sZ r2)) :
  Ans tab (.fn dV [.agg cs,.ptr b1 0,.ptr b2 0]) H fun v H'=>v=.bool (!wW c.1)/\Kp H H':=by
 obtain ⟨v,rfl,hv⟩:=hc;have ov:=hv.one;have lt1:=hw _ _ h1;have lt2:=hw _ _ h2;have hbv:fJ (.agg [v,.bool c.2])=some [v,.bool c.2]:=by simp [fJ,AV.cells,ov.2]; rfl
 refine kS C.q62 zU fun T hl g0 g1 g2=>?_;refine zW (fy hl g0 g1 g2 hbv h1 h2) ?_;refine AnsH.eq (yu C zF ov) fun H2 hk2=>?_;obtain ⟨k2,_,w2⟩:=zT H zK hk2;have d0:=hk2.get (b:=H.next) (e:=.cells [v,.bool c.2] t_api_Con true) (cH);refine zW (aQ hl g0 g1 g2) ?_;refine AnsH.eq (oD C zF (hv.mono (zG H)) hbig) fun H3 hk3=>?_;obtain ⟨k3,_,w3⟩:=zT H zK hk3;have d3:=hk3.get d0;have e2:=k3.get h2;cases hok:wW c.1 with
 | false =>
  refine zW (aQ hl g0 g1 g2) ?_;exact zK
 | true =>
  refine zW (fy hl g0 g1 g2 d3 e2 g2) ?_;refine AnsH.eq (LU C zF ov) fun H4 hk4=>?_;obtain ⟨k4,_,_⟩:=zT H zK hk4;refine zW (aQ hl g0 g1 g2) ?_;exact zK
def Bk (C:Code tab) (hw:Wf H) {cs:List AV} {c:wI} {n:Int} {b1 b2:Nat} {r1 r2:Bool} (hc:conQE.R H cs c) (hn:0<=n/\n<=1000)
  (h1:H.get b1=some (.cells [.fn (.func eE) [] []] eZ r1)) (h2:H.get b2=some (.cells [.int .i64 n] fz r2)) :
  Ans tab (.fn dU [.agg cs,.ptr b1 0,.ptr b2 0]) H fun v H'=>v=.bool (decide ((c.1.length:Int)≠n+1))/\Kp H H':=by
 obtain ⟨v,rfl,hv⟩:=hc;have ov:=hv.one;have lt1:=hw _ _ h1;have lt2:=hw _ _ h2;have hbv:fJ (.agg [v,.bool c.2])=some [v,.bool c.2]:=by simp [fJ,AV.cells,ov.2]; rfl
 have ej:IntKind.i64.wrap (n+1)=n+1:=by rw [wrap_i64] <;> omega
 refine kS C.q64 zU fun T hl g0 g1 g2=>?_;refine zW (fy hl g0 g1 g2 hbv h1 h2) ?_;refine aF ?_;refine zD (dL hl g0 g1 g2 h1 h2) ?_;refine AnsH.eq (yu C zF ov) fun H2 hk2=>?_;obtain ⟨k2,_,w2⟩:=zT H zK hk2;have e2:=k2.get h2;refine zD (jW hl g0 g1 g2 h1 h2 e2 hv.lenV ej) ?_;exact ⟨by simp,zK⟩
def dE (n:Int) (l:List wI):Int :=
 if n<0\/8<n then 2 else if 60<l.length then 4 else if l.any (fun c=>!wW c.1) then 8 else if l.any (fun c=>decide ((c.1.length:Int)≠n+1)) then 70 else 0
def oX (C:Code tab) (hw:Wf H) {n:Int} {l:List wI} (hs:SlV conQE t_api_Con H s l) (hbig:∀ c∈l,rV c.1) (hlen:l.length<4611686018427387904) :
  Ans tab (.fn fm [.int .i64 n,s,.fn (.func eE) [] [],.fn (.func kr) [] []]) H fun v H'=>v=.int .i64 (dE n l)/\Kp H H':=by
 refine LJ C.q34 zU fun T hl g0 g1 g2 g3=>?_;by_cases q1:n<0
 ·refine zW (dL hl g0 g1 g2 g3 q1) ?_;exact ⟨by rw [dE,if_pos (.inl q1)],zK⟩
 by_cases q2:8<n
 ·refine zW (fy hl g0 g1 g2 g3 q1 q2) ?_;exact ⟨by rw [dE,if_pos (.inr q2)],zK⟩
 have e1:¬ (n<0\/8<n):=fun h=>h.elim q1 q2;by_cases q3:(60:Int)<(l.length:Int)
 ·refine zW (jW hl g0 g1 g2 g3 q1 q2 q3 hs.lenV) ?_;exact ⟨by rw [dE,if_neg e1,if_pos zO],zK⟩
 have e2:¬ 60<l.length:=zO;refine zW (jW hl g0 g1 g2 g3 q1 q2 q3 hs.lenV) ?_;refine AnsH.eq (pf C zF (first:=[]) rfl (hs.mono (zG H)) hlen (fun c=>!wW c.1) fun a ha H' cs hk hr=>Bm C hk.wf hr (hbig a ha) (hk.get (by refine uH ?_; rfl)) (hk.get (by refine uH ?_; rfl))) fun H2 hk2=>?_;obtain ⟨k2,_,w2⟩:=zT H zK hk2;cases q4:l.any (fun c=>!wW c.1) with
 | true =>
  refine zW (bA hl g0 g1 g2 g3) ?_;exact ⟨by rw [dE,if_neg e1,if_neg e2,if_pos q4],zK⟩
 | false =>
 have d0:=hk2.get (b:=H.next) (e:=.cells [.int .i64 n] fz true) (cH);have d1:=hk2.get (b:=H.next+1) (e:=.cells [.fn (.func eE) [] []] eZ true) (cH);refine zW (aE hl g0 g1) ?_;refine AnsH.eq (pf C zF (first:=[]) rfl (hs.mono (zG H)) hlen (fun c=>decide ((c.1.length:Int)≠n+1)) fun a ha H' cs hk hr=>Bk C hk.wf hr ⟨zO,zO⟩ (hk.get (b:=H.next+1) (by first | exact d1 | (refine uH ?_; exact d1))) (hk.get (b:=H.next) (by first | exact d0 | (refine uH ?_; exact d0)))) fun H3 hk3=>?_;obtain ⟨k3,_,_⟩:=zT H zK hk3;cases q5:l.any (fun c=>decide ((c.1.length:Int)≠n+1)) with
 | true =>
  refine zW (bA hl g0 g1 g2 g3) ?_;exact ⟨by rw [dE,if_neg e1,if_neg e2,if_neg (by rw [q4]; decide),if_pos q5],zK⟩
 | false =>
  refine zW (bA hl g0 g1 g2 g3) ?_;exact ⟨by rw [dE,if_neg e1,if_neg e2,if_neg (by rw [q4]; decide),if_neg (by rw [q5]; decide)],zK⟩
def HZ (g:Nat × List Int):Bool :=
 if g.1=1\/g.1=2 then decide (Lin.hd1 g.2≠0) else if g.1=3 then decide (Lin.hd1 g.2<=0) else true
def zg (x:Int):0<ik x ↔ 0<x:=by unfold ik; split <;> (try split) <;> omega
def Sa (x:Int):ik x<=0 ↔ x<=0:=by unfold ik; split <;> (try split) <;> omega
def OD (C:Code tab) (hw:Wf H) {v:AV} {k:Nat} {l:List Int} (hv:RowV H v l) (hz:∀ z∈l,dJ z):Ans tab (.fn mB [.agg [.int .u8 (k:Int),v]]) H fun x H'=>x=.bool (HZ (k,l))/\Kp H H':=by
 have ov:=hv.one;have hbv:fJ (.agg [.int .u8 (k:Int),v])=some [.int .u8 (k:Int),v]:=by simp [fJ,AV.cells,ov.2]; rfl
 refine cR C.q58 zU fun T hl g0=>?_;by_cases q1:(k:Int)=1
 ·refine zW (aQ hl g0 hbv q1) ?_;refine AnsH.eq (mN C zF (hv.mono (zG H)) hz) fun H2 hk2=>?_;obtain ⟨k2,_,_⟩:=zT H zK hk2;refine zW (aD hl g0) ?_;refine ⟨?_,zK⟩;congr 1;rw [HZ,if_pos (.inl zO),Wz];simp [il]
 by_cases q2:(k:Int)=2
 ·refine zW (bA hl g0 hbv q1 q2) ?_;refine AnsH.eq (mN C zF (hv.mono (zG H)) hz) fun H2 hk2=>?_;obtain ⟨k2,_,_⟩:=zT H zK hk2;refine zW (aD hl g0) ?_;refine ⟨?_,zK⟩;congr 1;rw [HZ,if_pos (.inr zO),Wz];simp [il]
 have q12:¬ (k=1\/k=2):=zO;by_cases q3:(k:Int)=3
 ·refine zW (dL hl g0 hbv q1 q2 q3) ?_;refine AnsH.eq (mN C zF (hv.mono (zG H)) hz) fun H2 hk2=>?_;obtain ⟨k2,_,_⟩:=zT H zK hk2;refine zW (aD hl g0) ?_;refine ⟨?_,zK⟩;congr 1;have q3':k=3:=zO;rw [HZ,if_neg q12,if_pos q3',Wz];simp [Sa]
 ·refine zW (dL hl g0 hbv q1 q2 q3) ?_;refine ⟨?_,zK⟩;have q3':¬ k=3:=zO;rw [HZ,if_neg q12,if_neg q3']
def HY (g:GT):Bool:=!wW g.2 || HZ (g.1,g.2.map ct)
def Bj (C:Code tab) (hw:Wf H) {cs:List AV} {c:GT} {b1 b2:Nat} {r1 r2:Bool} (hc:genQE.R H cs c) (hbig:rV c.2) (hgood:∀ z∈c.2,Lim z.2/\z.2.length<=1048576)
  (h1:H.get b1=some (.cells [.fn (.func eD) [] []] eY r1)) (h2:H.get b2=some (.cells [.fn (.func mB) [] []] sW r2)) :
  Ans tab (.fn dS [.agg cs,.ptr b1 0,.ptr b2 0]) H fun v H'=>v=.bool (HY c)/\Kp H H':=by
 obtain ⟨v,rfl,hv⟩:=hc;have ov:=hv.one;have lt1:=hw _ _ h1;have lt2:=hw _ _ h2;have hbv:fJ (.agg [.int .u8 (c.1:Int),v])=some [.int .u8 (c.1:Int),v]:=by simp [fJ,AV.cells,ov.2]; rfl
 refine kS C.q83 zU fun T hl g0 g1 g2=>?_;refine zW (fy hl g0 g1 g2 hbv h1 h2) ?_;refine AnsH.eq (yr C zF ov) fun H2 hk2=>?_;obtain ⟨k2,_,w2⟩:=zT H zK hk2;have d0:=hk2.get (b:=H.next) (e:=.cells [.int .u8 (c.1:Int),v] ai true) (cH);refine zW (aQ hl g0 g1 g2) ?_;refine AnsH.eq (oD C zF (hv.mono (zG H)) hbig) fun H3 hk3=>?_;obtain ⟨k3,_,w3⟩:=zT H zK hk3;have d3:=hk3.get d0;have e2:=k3.get h2;cases hok:wW c.2 with
 | false =>
  refine zW (aQ hl g0 g1 g2) ?_;exact ⟨by simp [HY,hok],zK⟩
 | true =>
  have hb:∀ z∈c.2,mP z=false:=by
   simp only [wW,VG,V8,Wt,YO] at hok;exact hok.2
  refine zW (fy hl g0 g1 g2 d3 e2 g2) ?_;refine AnsH.eq (OD C (l:=c.2.map ct) zF ((SlV.int hv fun z hz=>⟨hb z hz,(hgood z hz).1⟩).mono (zG H)) fun z hz=>?_) fun H4 hk4=>?_
  ·obtain ⟨x,hx,rfl⟩:=Va.1 hz;exact (Dw (hgood x hx).1 (hgood x hx).2).sm zO
  obtain ⟨k4,_,_⟩:=zT H zK hk4;refine zW (aQ hl g0 g1 g2) ?_;exact ⟨by simp [HY,hok],zK⟩
def Bi (C:Code tab) (hw:Wf H) {cs:List AV} {c:GT} {n:Int} {b1 b2:Nat} {r1 r2:Bool} (hc:genQE.R H cs c) (hn:0<=n/\n<=1000)
  (h1:H.get b1=some (.cells [.fn (.func eD) [] []] eY r1)) (h2:H.get b2=some (.cells [.int .i64 n] fz r2)) :
  Ans tab (.fn dR [.agg cs,.ptr b1 0,.ptr b2 0]) H fun v H'=>v=.bool (decide ((c.2.length:Int)≠n+1))/\Kp H H':=by
 obtain ⟨v,rfl,hv⟩:=hc;have ov:=hv.one;have lt1:=hw _ _ h1;have lt2:=hw _ _ h2;have hbv:fJ (.agg [.int .u8 (c.1:Int),v])=some [.int .u8 (c.1:Int),v]:=by simp [fJ,AV.cells,ov.2]; rfl
 have ej:IntKind.i64.wrap (n+1)=n+1:=by rw [wrap_i64] <;> omega
 refine kS C.q85 zU fun T hl g0 g1 g2=>?_;refine zW (fy hl g0 g1 g2 hbv h1 h2) ?_;refine aF ?_;refine zD (dL hl g0 g1 g2 h1 h2) ?_;refine AnsH.eq (yr C zF ov) fun H2 hk2=>?_;obtain ⟨k2,_,w2⟩:=zT H zK hk2;have e2:=k2.get h2;refine zD (jW hl g0 g1 g2 h1 h2 e2 hv.lenV ej) ?_;exact ⟨by simp,zK⟩
def ji (n:Int) (l:List GT):Int :=
 if n<0\/8<n then 2 else if 60<l.length then 4 else if l.any HY then 8 else if l.any (fun c=>decide ((c.2.length:Int)≠n+1)) then 70 else 0
def xF (C:Code tab) (hw:Wf H) {n:Int} {l:List GT} (hs:SlV genQE ai H s l) (hbig:∀ c∈l,rV c.2) (hgood:∀ c∈l,∀ z∈c.2,Lim z.2/\z.2.length<=1048576) (hlen:l.length<4611686018427387904) :
  Ans tab (.fn fl [.int .i64 n,s,.fn (.func eD) [] [],.fn (.func mB) [] []]) H fun v H'=>v=.int .i64 (ji n l)/\Kp H H':=by
 refine LJ C.q56 zU fun T hl g0 g1 g2 g3=>?_;by_cases q1:n<0
 ·refine zW (dL hl g0 g1 g2 g3 q1) ?_;exact ⟨by rw [ji,if_pos (.inl q1)],zK⟩
 by_cases q2:8<n
 ·refine zW (fy hl g0 g1 g2 g3 q1 q2) ?_;exact ⟨by rw [ji,if_pos (.inr q2)],zK⟩
 have e1:¬ (n<0\/8<n):=fun h=>h.elim q1 q2;by_cases q3:(60:Int)<(l.length:Int)
 ·refine zW (jW hl g0 g1 g2 g3 q1 q2 q3 hs.lenV) ?_;exact ⟨by rw [ji,if_neg e1,if_pos zO],zK⟩
 have e2:¬ 60<l.length:=zO;refine zW (jW hl g0 g1 g2 g3 q1 q2 q3 hs.lenV) ?_;refine AnsH.eq (pd C zF (first:=[]) rfl (hs.mono (zG H)) hlen HY fun a ha H' cs hk hr=>Bj C hk.wf hr (hbig a ha) (hgood a ha) (hk.get (by refine uH ?_; rfl)) (hk.get (by refine uH ?_; rfl))) fun H2 hk2=>?_;obtain ⟨k2,_,w2⟩:=zT H zK hk2;cases q4:l.any HY with
 | true =>
  refine zW (bA hl g0 g1 g2 g3) ?_;exact ⟨by rw [ji,if_neg e1,if_neg e2,if_pos q4],zK⟩
 | false =>
 have d0:=hk2.get (b:=H.next) (e:=.cells [.int .i64 n] fz true) (cH);have d1:=hk2.get (b:=H.next+1) (e:=.cells [.fn (.func eD) [] []] eY true) (cH);refine zW (aE hl g0 g1) ?_;refine AnsH.eq (pd C zF (first:=[]) rfl (hs.mono (zG H)) hlen (fun c=>decide ((c.2.length:Int)≠n+1)) fun a ha H' cs hk hr=>Bi C hk.wf hr ⟨zO,zO⟩ (hk.get (b:=H.next+1) (by first | exact d1 | (refine uH ?_; exact d1))) (hk.get (b:=H.next) (by first | exact d0 | (refine uH ?_; exact d0)))) fun H3 hk3=>?_;obtain ⟨k3,_,_⟩:=zT H zK hk3;cases q5:l.any (fun c=>decide ((c.2.length:Int)≠n+1)) with
 | true =>
  refine zW (bA hl g0 g1 g2 g3) ?_;exact ⟨by rw [ji,if_neg e1,if_neg e2,if_neg (by rw [q4]; decide),if_pos q5],zK⟩
 | false =>
  refine zW (bA hl g0 g1 g2 g3) ?_;exact ⟨by rw [ji,if_neg e1,if_neg e2,if_neg (by rw [q4]; decide),if_neg (by rw [q5]; decide)],zK⟩
def wJ (C:Code tab) (hw:Wf H) {fi:Nat} {first caps:List AV} {l:List (List Int)} (hs:dK H s l) (hbig:l.length<4611686018427387904) (p:List Int->Bool)
  (hf:∀ r∈l,∀ H' w,Kp H H'->RowV H' w r->Ans tab (.fn fi (first++[w]++caps)) H' fun v H2=>v=.bool (p r)/\Kp H' H2) :
  Ans tab (.fn bL [s,.fn (.func fi) first caps]) H fun v H'=>v=.bool (l.any p)/\Kp H H':=by
 refine bB C.q67 zU fun T hl g0 g1=>?_;refine zW (aE hl g0 g1) ?_;refine AnsH.eq (rZ C zF (hs.mono (zG H)) hbig p fun r hr H' w hk hv=>hf r hr H' w (Kp.trans (H:=H) zK hk) hv) fun H2 hk2=>?_;obtain ⟨k2,_,_⟩:=zT H zK hk2;refine zW (aE hl g0 g1) ?_;exact ⟨by rw [sI],zK⟩
end
def Bq {α:Type} (E:fw α) (ty:Nat) (H0 H:Heap) (v:AV) (l:List α):Prop:=(v=.nilSl/\l=[])\/∃ b ex,Own E ty H0 H b ex v l
section
variable {α β:Type} {E:fw α} {E':fw β} {ty:Nat} {H0 H H':Heap} {v w:AV} {l:List α} {m:List β}
def Bq.nil:Bq E ty H0 H .nilSl []:=.inl ⟨rfl,rfl⟩
def Bq.of (h:Bl E ty H0 H v l):Bq E ty H0 H v l:=by
 rcases h with h | ⟨b,h⟩
 ·exact .inl h
 ·exact .inr ⟨b,false,h⟩
def Bq.sl (h:Bq E ty H0 H v l):SlV E ty H v l:=by
 rcases h with ⟨rfl,rfl⟩ | ⟨b,ex,h⟩
 ·exact SlV.nil E ty H
 ·exact h.sl
def Bq.mono (hs:Sub H H') (h:Bq E ty H0 H v l):Bq E ty H0 H' v l:=by
 rcases h with h | ⟨b,ex,h⟩
 ·exact .inl h
 ·exact .inr ⟨b,ex,h.mono hs⟩
def Bq.lt (hw:Wf H) (h:Bq E ty H0 H v l) {b:Nat} (hb:gY v=some b):b<H.next:=by
 rcases h with ⟨rfl,-⟩ | ⟨b',ex,cells,rfl,hg,-⟩
 ·cases hb
 ·cases hb;exact hw _ _ hg
def Frm.subTq {tys:List Nat} (hf:Frm v H H') (h:Bq E ty H0 H v l) (hn:ty ∉ tys):SubT tys H H':=fun c cs t r ht hc=>hf c _ hc fun e=>by
 rcases h with ⟨rfl,-⟩ | ⟨b,ex,cells,rfl,hb,-⟩
 ·cases e
 ·cases e;rw [hb] at hc; cases hc;exact hn ht
def Frm.bq (hf:Frm v H H') (h:Bq E ty H0 H v l) (hw:Bq E' ty H0 H w m) (hs:Sep v w) (ht:ty ∉ E'.tys):Bq E' ty H0 H' w m:=by
 rcases hw with hw | ⟨b,ex,cells,rfl,hb,hc,h0⟩
 ·exact .inl hw
 ·exact .inr ⟨b,ex,cells,rfl,hf b _ hb fun e=>hs b e rfl,hc.mono (hf.subTq h ht),h0⟩
def Bq.push {ty2 bytes id id2:Nat} {cs:List AV} {a:α} (h:Bq E ty H0 H v l) (hty:ty ∉ E.tys) (hk:Kp H0 H) (hr:E.R H cs a) (hid:H0.next<=id) (hid':id<H.next) (hf:H.get id=none) (hid2:H0.next<=id2) (hid2':id2<H.next) (hf2:H.get id2=none) (hne:id≠id2)
  (hb:(l.length+1)*bytes<=70368744177664) (hl:l.length+1<4611686018427387904) :
  ∃ n H',dI (H.put id2 (.cells cs ty2 true)) id E.sz bytes ty v (.own id2 0 1 1 E.sz true)=some (.own id 0 n n E.sz false,H')/\Bq E ty H0 H' (.own id 0 n n E.sz false) (l++[a])/\Kp H0 H'/\H'.next=H.next/\Frm v H H'/\(∀ c,c≠id->c≠id2->H.get c=none->H'.get c=none):=by
 have hbl:Bl E ty H0 H v l\/∃ b,Own E ty H0 H b true v l:=by
  rcases h with h | ⟨b,ex,h⟩
  ·exact .inl (.inl h)
  ·cases ex with
   | false=>exact .inl (.inr ⟨b,h⟩)
   | true=>exact .inr ⟨b,h⟩
 rcases hbl with hbl | ⟨b,ho⟩
 ·obtain ⟨n,H',e1,e2,e3⟩:=Bl.push2 (ty2:=ty2) (bytes:=bytes) hbl hty hk hr hid hid' hf hid2 hid2' hf2 hne hb hl;exact ⟨n,H',e1,.of e2,e3⟩
 ·have hsub:Sub H (H.put id2 (.cells cs ty2 true)):=aJ hf2;have hk':Kp H0 (H.put id2 (.cells cs ty2 true)):=hk.put hid2 hid2';have hy:SlV E ty2 (H.put id2 (.cells cs ty2 true)) (.own id2 0 1 1 E.sz true) [a] :=
   (show Own E ty2 H0 _ id2 true (.own id2 0 1 1 E.sz true) [a] from ⟨cs,rfl,ap _ _ _,Cells.one (E.mono (hsub.t _) hr),hid2⟩).sl
  have ho1:=ho.mono hsub;have hs:=ho1.sl;obtain ⟨cells,hv,hg,-,-⟩:=ho1;rw [hv] at hs;obtain ⟨v',H',e1,e2,e3,e4,e5,e6⟩:=SlV.app (bytes:=bytes) (id:=id) hs hk' hy hid hid' (by rw [az hne]; exact hf) hb hl;obtain ⟨cells',hv',hg',hc',h0'⟩:=e6 (by simp);rw [hv'] at e1;refine ⟨_,H',by rw [hv]; exact e1,.inr ⟨id,false,cells',rfl,hg',hc',h0'⟩,e3,e4,fun b e hbe _=>e5.get _ _ (hsub.get _ _ hbe),fun c h1 h2 h3=>Db e1 h1 (by rw [az h2]; exact h3)⟩
end
def zm {a:AV} (ha:One a) (x y:AV):fu [x,y] [((0,1),a)]=some (.agg [a,y]):=by
 simp [fu,cG,ha.1,ha.2]
section
open Lin
variable {n:Nat} {l:List (V × Bool)}
def OA {j:Nat} (hj:j<l.length):eqsOf (l.take (j+1))=if l[j].2=true then eqsOf (l.take j)++[l[j].1] else eqsOf (l.take j):=by
 rw [Vi hj];unfold eqsOf;rw [Wo,VW];cases h:l[j].2 <;> simp [h]
def Iq {j:Nat} (hj:j<l.length):ineqsOf n (l.take (j+1))=if l[j].2=true then ineqsOf n (l.take j) else ineqsOf n (l.take j)++[l[j].1]:=by
 rw [Vi hj];unfold ineqsOf;rw [Wo,VW];cases h:l[j].2 <;> simp [h]
def OB (l:List (V × Bool)):(eqsOf l).length<=l.length:=by
 unfold eqsOf;rw [Vc];exact Wn _ _
def rx (l:List (V × Bool)):(ineqsOf n l).length<=l.length+1:=by
 unfold ineqsOf;rw [VT,Vc]
 have:=Wn (fun c:V × Bool=>!c.2) l
 omega
def Dx (n m:Nat):Bd (2^m) (unitC n 1):=fun i=>by
 have h1:1<=2^m:=VK zU;unfold unitC at_;cases i with
 | zero=>simpa using h1
 | succ i =>
  rw [WI,U5,V9];split <;> simp
end
section
variable {tab:Nat->Option aA} {H:Heap} {s:AV}
def A8 (C:Code tab) (hw:Wf H) {l:List Int} (hs:RowV H s l) (hz:∀ z∈l,dJ z):Ans tab (.fn jQ [s]) H fun v H'=>v=.bool (decide (0<Lin.hd1 l))/\Kp H H':=by
 refine cR C.q68 zU fun T hl g0=>?_;refine zW (aD hl g0) ?_;refine AnsH.eq (mN C zF (hs.mono (zG H)) hz) fun H2 hk2=>?_;obtain ⟨k2,_,_⟩:=zT H zK hk2;have e:decide (ik (Lin.hd1 l) > 0)=decide (0<Lin.hd1 l):=by
  rw [Wz];simp [zg]
 refine zW (aD hl g0) ?_;exact ⟨by simp [zg],zK⟩
set_option maxHeartbeats 4000000 in
def yq (C:Code tab) (hw:Wf H) {n m:Nat} {l:List (List Int × Bool)} (hs:SlV conE t_api_Con H s l) (hn:n<=4) (hlen:l.length<=1023) (hcnt:(l.length+1)^n<1099000000000) (hrow:∀ c∈l,c.1.length=n+1/\Lin.Bd (2^m) c.1) (hm:m<=300000) :
  Ans tab (.fn oi [.int .i64 (n:Int),s]) H fun v H'=>SlV genE ai H' v (Lin.gensP n l)/\Kp H H':=by
 refine BP C.q37 rfl rfl zU fun T hl g=>?_;have hl:T.length=79:=hl;have hrs:c_dual_points.results=[(4,none)]:=rfl;have g0:ad T 0=.int .i64 (n:Int):=g 0 (by simp);have g1:ad T 1=s:=g 1 (by simp);refine aS ?_;refine zW (aD hl @aC) ?_;refine aS ?_;refine zW (aD hl @aC) ?_;refine de (fun T' H'=>∃ o,ad T' 6=o/\Kp H H'/\Bq rowsE af H H' o [Lin.unitC n 1]) rfl ?_ ?_
 ·refine zW (aD hl g0) ?_;refine AnsH.use (xE C (n:=n) (k:=1) zF zO zO zO) ?_;rintro v H2 ⟨hr,hk2⟩;obtain ⟨k2,_,w2⟩:=zT H zK hk2;have ov:=hr.one;have n2:H.next+6<=H2.next:=hk2.le
  have f2:H2.get (H.next+4)=none:=hk2.free (show H.next+4<H.next+6 by omega) (hw.fresh (b:=H.next+4) zO);refine zW (aD hl @aW) ?_;refine ⟨_,rfl,zK,.inr ⟨H.next+4,true,[v],rfl,ap _ _ _,?_,zO⟩⟩;exact Cells.one (E:=rowsE) ⟨v,rfl,hr.mono (aJ f2)⟩
 rintro T1 H1 hs1 ⟨o,t6,k1,b1⟩;have w1:=k1.wf;have le1:=k1.le;have t0:ad T1 0=.int .i64 (n:Int):=(hs1.at_ 0 zU).trans (zV (aD hl g0));have t1:ad T1 1=s:=(hs1.at_ 1 zU).trans (zV (aD hl g1));have t4:ad T1 4=.nilSl:=(hs1.at_ 4 zU).trans (zV hl);have t5:ad T1 5=.nilSl:=(hs1.at_ 5 zU).trans (zV hl);have hl1:T1.length=79:=hs1.len.trans (by simp only [U4]; exact hl);have hsl1:=hs.mono k1.sub;refine de (fun T' H'=>∃ o5 o6,ad T' 5=o5/\ad T' 6=o6/\Kp H H'/\dK H' o5 (Lin.eqsOf l)/\dK H' o6 (Lin.ineqsOf n l)) rfl ?_ ?_
 ·refine zW (aE hl1 t1 hs.lenV) ?_;refine aq H [5,6] (fun j vs H'=>∃ o5 o6,vs=[o5,o6]/\Bq rowsE af H H' o5 (Lin.eqsOf (l.take j))/\Bq rowsE af H H' o6 (Lin.ineqsOf n (l.take j))/\Sep o5 o6) (a:=0) (N:=l.length) rfl (by refine zW hl1 ?_; rfl) (zV hl1) (Vj _) zO (by simp only [U4,hl1]; rfl) rfl (fun j vs H' m ⟨o5,o6,q1,q2,q3,q4⟩=>⟨o5,o6,q1,q2.mono (Sub.bump H' m),q3.mono (Sub.bump H' m),q4⟩) zK ⟨.nilSl,o,by exact zV (aE hl1 t5 t6),Bq.nil,b1.mono (Sub.bump H1 _),fun b h=>by cases h⟩ ?_ ?_
  ·rintro j T2 H2 _ hj hl2 hi2 hs2 hk2 ⟨o5,o6,hv,bq5,bq6,hsep⟩;have w2:=hk2.wf;have le_hk2:=hk2.le;have le2:=hk2.le;simp only [Ve,Vk,Vg,and_true] at hv;obtain ⟨v5,v6⟩:=hv;have t20:ad T2 20=s:=(hs2.at_ 20 zU).trans (zV (aD hl1 t1));obtain ⟨cs,⟨w,rfl,hr⟩,hlen',-,hld⟩:=(hs.mono hk2.sub).at (U7 hj);have hix:cI 2 s (.int .i64 (j:Int))=some (au s (j*2)):=SlV.idx hs .i64 j hj;have hld:aX H2 (some 2) (au s (j*2))=some (.agg [w,.bool l[j].2]):=hld;have ow:=hr.one;simp only [U4,hl1] at hl2;have he:=OA (l:=l) hj;have hi:=Iq (n:=n) (l:=l) hj;have l5:=OB (l.take j);have l6:=rx (n:=n) (l.take j);rw [VC] at l5 l6;obtain ⟨Hx,hHx⟩:∃ Hx,Hx=((H2.up 12).put (H2.next+2) (.cells [.nilSl,.bool false] t_api_Con true)).put (H2.next+2) (.cells [w,.bool l[j].2] t_api_Con true):=⟨_,rfl⟩
   have kx:Kp H2 Hx:=by rw [hHx]; exact zK
   have kx0:Kp H Hx:=hk2.trans kx;have nx:Hx.next=H2.next+12:=by rw [hHx]; rfl
   have fx:∀ c,H2.next<=c->c≠H2.next+2->Hx.get c=none:=fun c h1 h2=>by rw [hHx,az h2,az h2]; exact w2.fresh h1
   have hrx:rowsE.R Hx [w] l[j].1:=⟨w,rfl,hr.mono kx.sub⟩
   cases hb:l[j].2 with
   | true =>
    rw [hb] at hld hHx he hi;obtain ⟨n6,H6,e6,b6,k6,nx6,f6,-⟩:=Bq.push (ty2:=af) (bytes:=24) (id:=H2.next+10) (id2:=H2.next+9) (bq5.mono kx.sub) zU kx0 hrx zO zO (fx _ zO zO) zO zO (fx _ zO zO) zO zO zO;have e6':dI ((((H2.up 12).put (H2.next+2) (.cells [.nilSl,.bool false] t_api_Con true)).put (H2.next+2) (.cells [w,.bool true] t_api_Con true)).put (H2.next+9) (.cells [w] af true)) (H2.next+10) 1 24 af o5 (.own (H2.next+9) 0 1 1 1 true)=some (.own (H2.next+10) 0 n6 n6 1 false,H6):=by rw [hHx] at e6; exact e6
    refine zW (iy hl2 t20 hi2 hix hld v5 v6 e6') ?_;refine ⟨k6,_,_,rfl,?_,?_,?_⟩
    ·rw [he,if_pos rfl]; exact b6
    ·rw [hi,if_pos rfl]; exact f6.bq (bq5.mono kx.sub) (bq6.mono kx.sub) hsep zU
    ·intro b h1 h2
     have:=bq6.lt w2 h2
     cases h1;omega
   | false =>
    rw [hb] at hld hHx he hi;obtain ⟨n6,H6,e6,b6,k6,nx6,f6,-⟩:=Bq.push (ty2:=af) (bytes:=24) (id:=H2.next+10) (id2:=H2.next+9) (bq6.mono kx.sub) zU kx0 hrx zO zO (fx _ zO zO) zO zO (fx _ zO zO) zO zO zO;have e6':dI ((((H2.up 12).put (H2.next+2) (.cells [.nilSl,.bool false] t_api_Con true)).put (H2.next+2) (.cells [w,.bool false] t_api_Con true)).put (H2.next+9) (.cells [w] af true)) (H2.next+10) 1 24 af o6 (.own (H2.next+9) 0 1 1 1 true)=some (.own (H2.next+10) 0 n6 n6 1 false,H6):=by rw [hHx] at e6; exact e6
    refine zW (iy hl2 t20 hi2 hix hld v5 v6 e6') ?_;refine ⟨k6,_,_,rfl,?_,?_,?_⟩
    ·rw [he,if_neg zU]; exact f6.bq (bq6.mono kx.sub) (bq5.mono kx.sub) hsep.symm zU
    ·rw [hi,if_neg zU]; exact b6
    ·intro b h1 h2
     have:=bq5.lt w2 h1
     cases h2;omega
  ·rintro T2 H2 hl2 hs2 hk2 ⟨o5,o6,hv,bq5,bq6,hsep⟩;simp only [Ve,Vk,Vg,and_true] at hv;rw [VD] at bq5 bq6;refine zW (aD hl2 @aW) ?_;exact ⟨o5,o6,hv.1,hv.2,hk2,bq5.sl,bq6.sl⟩
 rintro T2 H2 hs2 ⟨o5,o6,v5,v6,k2,r5,r6⟩;have w2:=k2.wf;have le2:=k2.le;have u0:ad T2 0=.int .i64 (n:Int):=(hs2.at_ 0 zU).trans t0;have u4:ad T2 4=.nilSl:=(hs2.at_ 4 zU).trans t4;have hl2:T2.length=79:=hs2.len.trans hl1;have hE:∀ a∈Lin.eqsOf l,a.length=n+1/\Lin.Bd (2^m) a:=fun a ha=>hrow _ (Lin.mem_eqs.1 ha);have hI:∀ a∈Lin.ineqsOf n l,a.length=n+1/\Lin.Bd (2^m) a:=fun a ha=>by
  rcases Lin.mem_ineqs.1 ha with rfl | ha
  ·exact ⟨Lin.unitC_len n 1,Dx n m⟩
  ·exact hrow _ ha
 have lE:=OB l;have lI:=rx (n:=n) l;obtain ⟨c1,c2⟩:=uK (d:=n+1) (m:=m) zO zO hE hI;have hT:=Lin.gens_told (d:=n+1) (fun a ha=>(hE a ha).1) (fun a ha=>(hI a ha).1);have lL:=ech_len hT.form;have hcI:(Lin.ineqsOf n l).length^n<1099000000000:=Wd (WX lI n) hcnt;have lR:(Lin.gensR (n+1) (Lin.eqsOf l) (Lin.ineqsOf n l)).length<=1099000000000:=by
  have:=hT.dd.count3 (fun a ha=>(hI a ha).1)
  simp only [Xe] at this;omega
 obtain ⟨L,hL⟩:∃ L,L=Lin.gensL (n+1) (Lin.eqsOf l) (Lin.ineqsOf n l):=⟨_,rfl⟩
 obtain ⟨R,hR⟩:∃ R,R=Lin.gensR (n+1) (Lin.eqsOf l) (Lin.ineqsOf n l):=⟨_,rfl⟩
 have smR:∀ r∈R,∀ z∈r,dJ z:=fun r hr z hz=>by
  rw [hR] at hr;exact (gZ (c2 r hr).2 z hz).sm zO
 have ej:IntKind.i64.wrap ((n:Int)+1)=((n+1:Nat):Int):=by rw [wrap_i64] <;> omega
 refine de (fun T' H'=>∃ p q,ad T' 9=p/\ad T' 10=q/\Kp H H'/\dK H' p L/\dK H' q R) rfl ?_ ?_
 ·refine zW (bA hl2 u0 v5 v6 ej) ?_;refine AnsH.use (Bf C (d:=n+1) (m:=m) zF (r5.mono (zG H2)) (r6.mono (zG H2)) zO zO zO zO (by simpa using hcI) hE hI hm) ?_;rintro v H3 ⟨p,q,rfl,hp,hq,hk3⟩;obtain ⟨k23,_,_⟩:=zT H2 zK hk3;have k3:Kp H H3:=k2.trans k23;have le_k3:=k3.le;refine zW (aD hl2 @aW) ?_;rw [hL,hR];exact ⟨p,q,rfl,rfl,zK,hp,hq⟩
 rintro T3 H3 hs3 ⟨p,q,v9,v10,k3,hp,hq⟩;have w3:=k3.wf;have le3:=k3.le;have x4:ad T3 4=.nilSl:=(hs3.at_ 4 zU).trans u4;have hl3:T3.length=79:=hs3.len.trans hl2;rw [<- hL] at lL;rw [<- hR] at lR;have hany:R.any (fun r=>decide (0<Lin.hd1 r))=(Lin.gensR (n+1) (Lin.eqsOf l) (Lin.ineqsOf n l)).any (fun r=>decide (0<Lin.hd1 r)):=by rw [hR]
 refine de (fun T' H'=>Kp H3 H'/\ad T' 4=.nilSl/\R.any (fun r=>decide (0<Lin.hd1 r))=true) rfl ?_ ?_
 ·refine zW (aD hl3 v10) ?_;refine AnsH.eq (wJ C zF (first:=[]) (hq.mono (zG H3)) zO (fun r=>decide (0<Lin.hd1 r)) fun a ha H' w hk hr=>A8 C hk.wf hr (smR a ha)) fun H4 hk4=>?_;obtain ⟨k34,_,_⟩:=zT H3 zK hk4;have k4:Kp H H4:=k3.trans k34;have le_k4:=k4.le;cases hc:R.any (fun r=>decide (0<Lin.hd1 r)) with
  | true =>
   refine zW (aE hl3 @aW x4) ?_;exact zK
  | false =>
   refine zW (aE hl3 @vO hrs) ?_;refine ⟨?_,zK⟩;unfold Lin.gensP;rw [<- hany,hc];exact SlV.nil _ _ _
 rintro T4 H4 hs4 ⟨k34,y4,hyes⟩;have w4:=k34.wf;have le4:=k34.le;have k4:Kp H H4:=k3.trans k34;have le_k4:=k4.le;have y9:ad T4 9=p:=(hs4.at_ 9 zU).trans v9;have y10:ad T4 10=q:=(hs4.at_ 10 zU).trans v10;have hl4:T4.length=79:=hs4.len.trans hl3;refine de (fun T' H'=>∃ o,ad T' 4=o/\Kp H4 H'/\Bq genE ai H4 H' o (L.map fun r=>(1,r))) rfl ?_ ?_
 ·refine zW (aE hl4 y9 hp.lenV) ?_;refine aq H4 [4] (fun j vs H'=>∃ o,vs=[o]/\Bq genE ai H4 H' o ((L.take j).map fun r=>(1,r))) (a:=0) (N:=L.length) rfl (by refine zW hl4 ?_; rfl) (zV hl4) (Vj _) zO (by simp only [U4,hl4]; rfl) rfl (fun j vs H' m ⟨o,q1,q2⟩=>⟨o,q1,q2.mono (Sub.bump H' m)⟩) (Kp.up (Kp.refl w4) _) ⟨.nilSl,by exact zV (aD hl4 y4),Bq.nil⟩ ?_ ?_
  ·rintro j T5 H5 _ hj hl5 hi5 hs5 hk5 ⟨o,hv,ho⟩;have w5:=hk5.wf;have le_hk5:=hk5.le;have le5:=hk5.le;simp only [Ve,Vk,Vg,and_true] at hv;have t51:ad T5 51=p:=(hs5.at_ 51 zU).trans (zV (aD hl4 y9));obtain ⟨w,hr,hld⟩:=dl ((hp.mono k34.sub).mono hk5.sub) hj;have hix:=SlV.idx1 hp .i64 j hj;have ow:=hr.one;simp only [U4,hl4] at hl5;obtain ⟨n6,H6,e6,b6,k6,nx6,f6,-⟩:=Bq.push (ty2:=ai) (bytes:=32) (id:=H5.next+7) (id2:=H5.next+6) (H:=H5.up 9) (cs:=[.int .u8 1,w]) (a:=(1,L[j])) (ho.mono (Sub.bump H5 9)) zU (hk5.up 9) ⟨w,rfl,hr.mono (Sub.bump H5 9)⟩ zO (by rw [cT]; omega) (w5.fresh zO) zO (by rw [cT]; omega) (w5.fresh zO) zO (by simp; omega) (by simp; omega);have e6':dI ((H5.up 9).put (H5.next+6) (.cells [.int .u8 1,w] ai true)) (H5.next+7) 2 32 ai o (.own (H5.next+6) 0 1 1 2 true)=some (.own (H5.next+7) 0 n6 n6 2 false,H6):=e6;refine zW (fy hl5 t51 hi5 hix hld hv e6') ?_;refine ⟨k6,_,rfl,?_⟩;rw [Vi hj,VW];exact b6
  ·rintro T5 H5 hl5 hs5 hk5 ⟨o,hv,ho⟩;simp only [Ve,Vk,Vg,and_true] at hv;rw [VD] at ho;refine zW (aD hl5 @aW) ?_;exact ⟨o,hv,hk5,ho⟩
 rintro T5 H5 hs5 ⟨o5',z4,k45,bo5⟩;have w5:=k45.wf;have le5:=k45.le;have z10:ad T5 10=q:=(hs5.at_ 10 zU).trans y10;have hl5:T5.length=79:=hs5.len.trans hl4;refine de (fun T' H'=>∃ o,ad T' 4=o/\Kp H4 H'/\Bq genE ai H4 H' o ((L.map fun r=>(1,r))++R.map fun r=>(Lin.kindOf r,r))) rfl ?_ ?_
 ·refine zW (aE hl5 z10 hq.lenV) ?_;refine aq H4 [4] (fun j vs H'=>∃ o,vs=[o]/\Bq genE ai H4 H' o ((L.map fun r=>(1,r))++(R.take j).map fun r=>(Lin.kindOf r,r))) (a:=0) (N:=R.length) rfl (by refine zW hl5 ?_; rfl) (zV hl5) (Vj _) zO (by simp only [U4,hl5]; rfl) rfl (fun j vs H' m ⟨o,q1,q2⟩=>⟨o,q1,q2.mono (Sub.bump H' m)⟩) (k45.up _) ⟨o5',by exact zV (aD hl5 z4),by rw [Y8,Vk,Wy]; exact bo5.mono (Sub.bump H5 _)⟩ ?_ ?_
  ·rintro j T6 H6 _ hj hl6 hi6 hs6 hk6 ⟨o,hv,ho⟩;have w6:=hk6.wf;have le_hk6:=hk6.le;have le6:=hk6.le;simp only [Ve,Vk,Vg,and_true] at hv;have t63:ad T6 63=q:=(hs6.at_ 63 zU).trans (zV (aD hl5 z10));obtain ⟨w,hr,hld⟩:=dl ((hq.mono k34.sub).mono hk6.sub) hj;have hix:=SlV.idx1 hq .i64 j hj;have ow:=hr.one;simp only [U4,hl5] at hl6;have hm:=U9 hj;refine zW (bA hl6 t63 hi6 hix hld) ?_;refine AnsH.eq (mN C zF (hr.mono (zG H6)) (smR _ hm)) fun H7 hk7=>?_;obtain ⟨k67,_,_⟩:=zT H6 zK hk7;have k47:Kp H4 H7:=hk6.trans k67;have le_k47:=k47.le;have w7:=k67.wf;by_cases h0:0<Lin.hd1 R[j]
   ·have hk3:Lin.kindOf R[j]=3:=by unfold Lin.kindOf; rw [if_pos h0]
    have hs0:(0:Int)<ik (Lin.hd1 R[j]):=(zg _).2 h0;obtain ⟨n8,H8,e8,b8,k8,nx8,f8,-⟩:=Bq.push (ty2:=ai) (bytes:=32) (id:=H7.next+6) (id2:=H7.next+5) (H:=H7.up 8) (cs:=[.int .u8 3,w]) (a:=(3,R[j])) ((ho.mono k67.sub).mono (Sub.bump H7 8)) zU (k47.up 8) ⟨w,rfl,(hr.mono k67.sub).mono (Sub.bump H7 8)⟩ zO (by rw [cT]; omega) (w7.fresh zO) zO (by rw [cT]; omega) (w7.fresh zO) zO (by simp; omega) (by simp; omega);have e8':dI ((H7.up 8).put (H7.next+5) (.cells [.int .u8 3,w] ai true)) (H7.next+6) 2 32 ai o (.own (H7.next+5) 0 1 1 2 true)=some (.own (H7.next+6) 0 n8 n8 2 false,H8):=e8;refine zW (aQ hl6 hs0 hv e8') ?_;refine ⟨k8,_,rfl,?_⟩;rw [Vi hj,VW,<- WZ];simp only [Ve,Vk,hk3];exact b8
   ·have hk3:Lin.kindOf R[j]=2:=by unfold Lin.kindOf; rw [if_neg h0]
    have hs0:¬ (0:Int)<ik (Lin.hd1 R[j]):=fun h=>h0 ((zg _).1 h);obtain ⟨n8,H8,e8,b8,k8,nx8,f8,-⟩:=Bq.push (ty2:=ai) (bytes:=32) (id:=H7.next+5) (id2:=H7.next+4) (H:=H7.up 7) (cs:=[.int .u8 2,w]) (a:=(2,R[j])) ((ho.mono k67.sub).mono (Sub.bump H7 7)) zU (k47.up 7) ⟨w,rfl,(hr.mono k67.sub).mono (Sub.bump H7 7)⟩ zO (by rw [cT]; omega) (w7.fresh zO) zO (by rw [cT]; omega) (w7.fresh zO) zO (by simp; omega) (by simp; omega);have e8':dI ((H7.up 7).put (H7.next+4) (.cells [.int .u8 2,w] ai true)) (H7.next+5) 2 32 ai o (.own (H7.next+4) 0 1 1 2 true)=some (.own (H7.next+5) 0 n8 n8 2 false,H8):=e8;refine zW (aQ hl6 hs0 hv e8') ?_;refine ⟨k8,_,rfl,?_⟩;rw [Vi hj,VW,<- WZ];simp only [Ve,Vk,hk3];exact b8
  ·rintro T6 H6 hl6 hs6 hk6 ⟨o,hv,ho⟩;simp only [Ve,Vk,Vg,and_true] at hv;rw [VD] at ho;refine zW (aD hl6 @aW) ?_;exact ⟨o,hv,hk6,ho⟩
 rintro T6 H6 hs6 ⟨o6',a4,k46,bo6⟩;have hl6:T6.length=79:=hs6.len.trans hl5;refine WC.wb ?_;refine zW (aE hl6 @a4 hrs) ?_;have hG:Lin.gensP n l=(L.map fun r=>(1,r))++R.map fun r=>(Lin.kindOf r,r):=by
  unfold Lin.gensP;rw [<- hany,hyes,<- hL,<- hR];rfl
 rw [hG];exact ⟨bo6.sl,k4.trans k46⟩
def wQ (C:Code tab) (hw:Wf H) {a b:AV} {l m:List Nat} (ha:Lb H a l) (hb:Lb H b m) (hl':l.length<4611686018427387904) :
  Ans tab (.fn cX [a,b]) H fun v H'=>v=.bool (decide (l=m))/\Kp H H':=by
 refine bB C.q109 zU fun T hl g0 g1=>?_;by_cases he:l.length=m.length
 ·have lb:lenV b=some (.int .i64 (l.length:Int)):=by rw [hb.lenV,he]
  refine zW (bA hl g0 g1 ha.lenV lb) ?_;refine aq H [] (fun j _ _=>∀ q (h:q<l.length) (h':q<m.length),q<j->l[q]=m[q]) (a:=0) (N:=l.length) rfl (by refine zW (aE hl g0 g1) ?_; rfl) (zV (aE hl g0 g1)) (Vj _) zO (by simp only [U4,hl]; rfl) rfl (fun _ _ _ _ h=>h) zK (fun q _ _ h=>by omega) ?_ ?_
  ·intro i T1 H1 _ hi hl1 hi1 hs1 hk1 hP;have w1:=hk1.wf;have le_hk1:=hk1.le;have t0:ad T1 0=a:=(hs1.at_ 0 zU).trans (zV (aD hl g0));have t1:ad T1 1=b:=(hs1.at_ 1 zU).trans (zV (aQ hl g0 g1 g1));have hi':i<m.length:=zO;obtain ⟨w,hr,hld⟩:=SlV.at1 (ha.mono hk1.sub) (U7 hi);obtain ⟨w',hr',hld'⟩:=SlV.at1 (hb.mono hk1.sub) (U7 hi');have hr:w=.int .u64 ((l[i]:Nat):Int):=hr;have hr':w'=.int .u64 ((m[i]:Nat):Int):=hr';subst hr; subst hr';have hix:=SlV.idx1 ha .i64 i hi;have hix':=SlV.idx1 hb .i64 i hi';simp only [U4,hl] at hl1;refine zW (aQ hl1 t0 t1 hi1) ?_;refine aF ?_;by_cases hq:l[i]=m[i]
   ·have hq':((l[i]:Nat):Int)=((m[i]:Nat):Int):=zO;refine zD (iy hl1 t0 t1 hix hld hix' hld' hq') ?_;refine ⟨zK,fun q h h' hqi=>?_⟩;by_cases eq:q=i
    ·subst eq; exact hq
    ·exact hP q h h' zO
   ·have hq':¬ ((l[i]:Nat):Int)=((m[i]:Nat):Int):=zO;refine zD (jW hl1 t0 t1 hix hld hix' hld' hq' hq) ?_;refine ⟨?_,zK⟩;rw [decide_eq_false];intro e; subst e; exact hq rfl
  ·intro T1 H1 hl1 hs1 hk1 hP;simp only [U4,hl] at hl1;refine zW hl1 ?_;exact ⟨by rw [decide_eq_true (iL he fun q h h'=>hP q h h' h)],zK⟩
 ·have he':¬ (l.length:Int)=(m.length:Int):=zO;refine zW (fy hl g0 g1 ha.lenV hb.lenV he' he) ?_;refine ⟨?_,zK⟩;rw [decide_eq_false];intro e; subst e; exact he rfl
def zw (C:Code tab) (hw:Wf H) {a b:AV} {x y:Int} (ha:IntV H a x) (hb:IntV H b y) (hx:dJ x) :
  Ans tab (.fn iU [a,b]) H fun v H'=>v=.bool (decide (x=y))/\Kp H H':=by
 obtain ⟨p,rfl,hp⟩:=ha;obtain ⟨q,rfl,hq⟩:=hb;have op:=hp.one;have oq:=hq.one;unfold dJ Sm at hx;refine bB C.q82 zU fun T hl g0 g1=>?_;by_cases h:decide (x<0)=decide (y<0)
 ·have h':(decide (x<0) == decide (y<0))=true:=by rw [h]; simp
  refine zW (aQ hl g0 g1 h') ?_;refine AnsH.eq (wQ C zF (hp.mono (zG H)) (hq.mono (zG H)) zO) fun H2 hk2=>?_;obtain ⟨k2,_,_⟩:=zT H zK hk2;refine zW (aE hl g0 g1) ?_;refine ⟨?_,zK⟩;by_cases e:x=y
  ·rw [decide_eq_true e,decide_eq_true (by rw [e])]
  ·rw [decide_eq_false e,decide_eq_false];intro h2
   have:=CB h2
   have h3:(x<0) ↔ (y<0):=by simpa using h
   omega
 ·have h':(decide (x<0) == decide (y<0))=false:=by simpa using h
  refine zW (aQ hl g0 g1 h') ?_;refine ⟨?_,zK⟩;rw [decide_eq_false];intro e; subst e; exact h rfl
def zB (C:Code tab) (hw:Wf H) {a b:AV} {l m:List Int} (ha:RowV H a l) (hb:RowV H b m) (hbig:l.length<1099511627776) (hz:∀ z∈l,dJ z) :
  Ans tab (.fn ui [a,b]) H fun v H'=>v=.bool (decide (l=m))/\Kp H H':=by
 have key:∀ {H:Heap},Wf H->RowV H a l->RowV H b m->Ans tab (.fn bg [a,b,.fn (.func iU) [] []]) H fun v H'=>v=.bool (decide (l=m))/\Kp H H':=by
  intro H hw ha hb;refine kS C.q111 zU fun T hl g0 g1 g2=>?_;by_cases he:l.length=m.length
  ·have lb:lenV b=some (.int .i64 (l.length:Int)):=by rw [hb.lenV,he]
   refine zW (dL hl g0 g1 g2 ha.lenV lb) ?_;refine aq H [] (fun j _ _=>∀ q (h:q<l.length) (h':q<m.length),q<j->l[q]=m[q]) (a:=0) (N:=l.length) rfl (by refine zW (aQ hl g0 g1 g2) ?_; rfl) (zV (aQ hl g0 g1 g2)) (Vj _) zO (by simp only [U4,hl]; rfl) rfl (fun _ _ _ _ h=>h) zK (fun q _ _ h=>by omega) ?_ ?_
   ·intro j T1 H1 _ hj hl1 hi1 hs1 hk1 hP;have w1:=hk1.wf;have le_hk1:=hk1.le;have hj2:j<m.length:=zO;have t15:ad T1 15=a:=(hs1.at_ 15 zU).trans (zV (aD hl g0));have t1:ad T1 1=b:=(hs1.at_ 1 zU).trans (zV (bA hl g0 g1 g2 g1));have t2:ad T1 2=.fn (.func iU) [] []:=(hs1.at_ 2 zU).trans (zV (bA hl g0 g1 g2 g2));obtain ⟨w,hn,L0,hix⟩:=nl w1 (ha.mono hk1.sub) hj;obtain ⟨u,hu,L,hiy⟩:=nl w1 (hb.mono hk1.sub) hj2;have ow:=hn.one;have ou:=hu.one;have Lp0:=L0.put;have Ll0:=L0.ld;have Lp:=L.put;have Ll:=L.ld;simp only [U4,hl] at hl1;refine zW (iO hl1 t15 t1 t2 hi1 hix Lp0 Ll0 hiy Lp Ll) ?_;refine AnsH.eq (zw C (x:=l[j]) (y:=m[j]) zF ⟨w,rfl,hn.mono (zG H1)⟩ ⟨u,rfl,hu.mono (zG H1)⟩ (hz _ (U9 hj))) fun H2 hk2=>?_;obtain ⟨k2,_,_⟩:=zT H zK hk2;cases hq:decide (l[j]=m[j]) with
    | true =>
     have hq:=of_decide_eq_true hq;refine zW hl1 ?_;refine ⟨zK,fun q h h' hqi=>?_⟩;by_cases e:q=j
     ·subst e; exact hq
     ·exact hP q h h' zO
    | false =>
     have hq:=of_decide_eq_false hq;refine zW hl1 ?_;refine ⟨?_,zK⟩;rw [decide_eq_false];intro e; subst e; exact hq rfl
   ·intro T1 H1 hl1 hs1 hk1 hP;simp only [U4,hl] at hl1;refine zW hl1 ?_;exact ⟨by rw [decide_eq_true (iL he fun q h h'=>hP q h h' h)],zK⟩
  ·have he':¬ (l.length:Int)=(m.length:Int):=zO;refine zW (iy hl g0 g1 g2 ha.lenV hb.lenV he' he) ?_;refine ⟨?_,zK⟩;rw [decide_eq_false];intro e; subst e; exact he rfl
 refine bB C.q86 zU fun T hl g0 g1=>?_;refine zW (aE hl g0 g1) ?_;refine AnsH.eq (key zF (ha.mono (zG H)) (hb.mono (zG H))) fun H2 hk2=>?_;obtain ⟨k2,_,_⟩:=zT H zK hk2;refine zW (aE hl g0 g1) ?_;exact zK
end
section
open Lin
variable {n:Nat} {g:List (Nat × V)}
def In {j:Nat} (hj:j<g.length):linesOf (g.take (j+1))=if g[j].1=1 then linesOf (g.take j)++[g[j].2] else linesOf (g.take j):=by
 rw [Vi hj];unfold linesOf;rw [Wo,VW];by_cases h:g[j].1=1 <;> simp [h]
def K2 {j:Nat} (hj:j<g.length):raysOf (g.take (j+1))=if g[j].1=1 then raysOf (g.take j) else raysOf (g.take j)++[g[j].2]:=by
 rw [Vi hj];unfold raysOf;rw [Wo,VW];by_cases h:g[j].1=1 <;> simp [h]
def KM {j:Nat} (hj:j<g.length):(g.take (j+1)).any (fun x=>x.1 == 3)=((g.take j).any (fun x=>x.1 == 3) || g[j].1 == 3):=by
 rw [Vi hj,List.any_append]
 simp
def FL (g:List (Nat × V)):(linesOf g).length<=g.length:=by
 unfold linesOf;rw [Vc];exact Wn _ _
def rays_le (g:List (Nat × V)):(raysOf g).length<=g.length:=by
 unfold raysOf;rw [Vc];exact Wn _ _
def xx {x:V} (h:x∈raysOf g):∃ y∈g,y.2=x:=by
 obtain ⟨k,-,h⟩:=mem_rays.1 h;exact ⟨_,h,rfl⟩
end
section
variable {tab:Nat->Option aA} {H:Heap} {s:AV}
set_option maxHeartbeats 4000000 in
def CM (C:Code tab) (hw:Wf H) {n m:Nat} {g:List (Nat × List Int)} (hs:SlV genE ai H s g) (hn:n<=4) (hlen:g.length<=1023) (hcnt:g.length^n<1099000000000) (hrow:∀ x∈g,x.2.length=n+1/\Lin.Bd (2^m) x.2) (hm:m<=300000) :
  Ans tab (.fn rl [.int .i64 (n:Int),s]) H fun v H'=>SlV conE t_api_Con H' v (Lin.consP n g)/\Kp H H':=by
 refine BP C.q59 rfl rfl zU fun T hl g'=>?_;have hl:T.length=84:=hl;have hrs:c_dual_cons.results=[(4,none)]:=rfl;have g0:ad T 0=.int .i64 (n:Int):=g' 0 (by simp);have g1:ad T 1=s:=g' 1 (by simp);refine aS ?_;refine zW (aD hl @aC) ?_;refine aS ?_;refine zW (aD hl @aC) ?_;refine aS ?_;refine zW (aD hl @aC) ?_;refine de (fun T' H'=>∃ o5 o6,ad T' 5=o5/\ad T' 6=o6/\ad T' 7=.bool (g.any fun x=>x.1 == 3)/\Kp H H'/\dK H' o5 (Lin.linesOf g)/\dK H' o6 (Lin.raysOf g)) rfl ?_ ?_
 ·refine zW (aE hl g1 hs.lenV) ?_;refine aq H [5,6,7] (fun j vs H'=>∃ o5 o6,vs=[o5,o6,.bool ((g.take j).any fun x=>x.1 == 3)]/\Bq rowsE af H H' o5 (Lin.linesOf (g.take j))/\Bq rowsE af H H' o6 (Lin.raysOf (g.take j))/\Sep o5 o6) (a:=0) (N:=g.length) rfl (by refine zW hl ?_; rfl) (zV hl) (Vj _) zO (by simp only [U4,hl]; rfl) rfl (fun j vs H' m ⟨o5,o6,q1,q2,q3,q4⟩=>⟨o5,o6,q1,q2.mono (Sub.bump H' m),q3.mono (Sub.bump H' m),q4⟩) zK ⟨.nilSl,.nilSl,by refine zW hl ?_; rfl,Bq.nil,Bq.nil,fun b h=>by cases h⟩ ?_ ?_
  ·rintro j T2 H2 _ hj hl2 hi2 hs2 hk2 ⟨o5,o6,hv,bq5,bq6,hsep⟩;have w2:=hk2.wf;have le_hk2:=hk2.le;have le2:=hk2.le;simp only [Ve,Vk,Vg,and_true] at hv;obtain ⟨v5,v6,v7⟩:=hv;have t17:ad T2 17=s:=(hs2.at_ 17 zU).trans (zV (aD hl g1));obtain ⟨cs,⟨w,rfl,hr⟩,hlen',-,hld⟩:=(hs.mono hk2.sub).at (U7 hj);have hix:cI 2 s (.int .i64 (j:Int))=some (au s (j*2)):=SlV.idx hs .i64 j hj;have hld:aX H2 (some 2) (au s (j*2))=some (.agg [.int .u8 (g[j].1:Int),w]):=hld;have ow:=hr.one;simp only [U4,hl] at hl2;have he:=In (g:=g) hj;have hi:=K2 (g:=g) hj;have hso:=KM (g:=g) hj;have l5:=FL (g.take j);have l6:=rays_le (g.take j);rw [VC] at l5 l6;have main:∀ K:Nat,6<=K->∃ Hx,Hx=((H2.up K).put (H2.next+2) (.cells [.int .u8 0,.nilSl] ai true)).put (H2.next+2) (.cells [.int .u8 (g[j].1:Int),w] ai true)/\Kp H2 Hx/\Hx.next=H2.next+K/\(∀ c,H2.next<=c->c≠H2.next+2->Hx.get c=none):=fun K hK=>by
    refine ⟨_,rfl,zK,rfl,fun c h1 h2=>?_⟩;rw [az h2,az h2]; exact w2.fresh h1
   by_cases c1:g[j].1=1
   ·have c1':(g[j].1:Int)=1:=zO;rw [c1'] at hld;obtain ⟨Hx,hHx,kx,nx,fx⟩:=main 14 zO;rw [c1'] at hHx;obtain ⟨n6,H6,e6,b6,k6,nx6,f6,-⟩:=Bq.push (ty2:=af) (bytes:=24) (id:=H2.next+12) (id2:=H2.next+11) (cs:=[w]) (a:=g[j].2) (bq5.mono kx.sub) zU (hk2.trans kx) ⟨w,rfl,hr.mono kx.sub⟩ zO zO (fx _ zO zO) zO zO (fx _ zO zO) zO zO zO;have e6':dI ((((H2.up 14).put (H2.next+2) (.cells [.int .u8 0,.nilSl] ai true)).put (H2.next+2) (.cells [.int .u8 1,w] ai true)).put (H2.next+11) (.cells [w] af true)) (H2.next+12) 1 24 af o5 (.own (H2.next+11) 0 1 1 1 true)=some (.own (H2.next+12) 0 n6 n6 1 false,H6):=by rw [hHx] at e6; exact e6
    refine zW (jW hl2 t17 hi2 hix hld v5 v6 v7 e6') ?_;have c13:(g[j].1 == 3)=false:=by rw [c1]; rfl
    rw [hso,c13,Zy];refine ⟨k6,.own (H2.next+12) 0 n6 n6 1 false,o6,rfl,?_,?_,?_⟩
    ·rw [he,if_pos c1]; exact b6
    ·rw [hi,if_pos c1]; exact f6.bq (bq5.mono kx.sub) (bq6.mono kx.sub) hsep zU
    ·intro b h1 h2
     have:=bq6.lt w2 h2
     cases h1;omega
   have c1':¬ (g[j].1:Int)=1:=zO;have c1b:(g[j].1 == 1)=false:=by simpa using c1
   by_cases c3:g[j].1=3
   ·have c3':(g[j].1:Int)=3:=zO;rw [c3'] at hld;obtain ⟨Hx,hHx,kx,nx,fx⟩:=main 17 zO;rw [c3'] at hHx;obtain ⟨n6,H6,e6,b6,k6,nx6,f6,-⟩:=Bq.push (ty2:=af) (bytes:=24) (id:=H2.next+15) (id2:=H2.next+14) (cs:=[w]) (a:=g[j].2) (bq6.mono kx.sub) zU (hk2.trans kx) ⟨w,rfl,hr.mono kx.sub⟩ zO zO (fx _ zO zO) zO zO (fx _ zO zO) zO zO zO;have e6':dI ((((H2.up 17).put (H2.next+2) (.cells [.int .u8 0,.nilSl] ai true)).put (H2.next+2) (.cells [.int .u8 3,w] ai true)).put (H2.next+14) (.cells [w] af true)) (H2.next+15) 1 24 af o6 (.own (H2.next+14) 0 1 1 1 true)=some (.own (H2.next+15) 0 n6 n6 1 false,H6):=by rw [hHx] at e6; exact e6
    refine zW (jW hl2 t17 hi2 hix hld v5 v6 v7 e6') ?_;have c13:(g[j].1 == 3)=true:=by rw [c3]; rfl
    rw [hso,c13,ZG];refine ⟨k6,o5,.own (H2.next+15) 0 n6 n6 1 false,rfl,?_,?_,?_⟩
    ·rw [he,if_neg c1]; exact f6.bq (bq6.mono kx.sub) (bq5.mono kx.sub) hsep.symm zU
    ·rw [hi,if_neg c1]; exact b6
    ·intro b h1 h2
     have:=bq5.lt w2 h1
     cases h2;omega
   ·have c3':¬ (g[j].1:Int)=3:=zO;have c3b:(g[j].1 == 3)=false:=by simpa using c3
    obtain ⟨Hx,hHx,kx,nx,fx⟩:=main 16 zO;obtain ⟨n6,H6,e6,b6,k6,nx6,f6,-⟩:=Bq.push (ty2:=af) (bytes:=24) (id:=H2.next+14) (id2:=H2.next+13) (cs:=[w]) (a:=g[j].2) (bq6.mono kx.sub) zU (hk2.trans kx) ⟨w,rfl,hr.mono kx.sub⟩ zO zO (fx _ zO zO) zO zO (fx _ zO zO) zO zO zO;have e6':dI ((((H2.up 16).put (H2.next+2) (.cells [.int .u8 0,.nilSl] ai true)).put (H2.next+2) (.cells [.int .u8 (g[j].1:Int),w] ai true)).put (H2.next+13) (.cells [w] af true)) (H2.next+14) 1 24 af o6 (.own (H2.next+13) 0 1 1 1 true)=some (.own (H2.next+14) 0 n6 n6 1 false,H6):=by rw [hHx] at e6; exact e6
    refine zW (iO hl2 t17 hi2 hix hld v5 v6 v7 e6' c1' c3') ?_;rw [hso,c3b,Zy];refine ⟨k6,o5,.own (H2.next+14) 0 n6 n6 1 false,rfl,?_,?_,?_⟩
    ·rw [he,if_neg c1]; exact f6.bq (bq6.mono kx.sub) (bq5.mono kx.sub) hsep.symm zU
    ·rw [hi,if_neg c1]; exact b6
    ·intro b h1 h2
     have:=bq5.lt w2 h1
     cases h2;omega
  ·rintro T2 H2 hl2 hs2 hk2 ⟨o5,o6,hv,bq5,bq6,hsep⟩;simp only [Ve,Vk,Vg,and_true] at hv;rw [VD] at bq5 bq6 hv;refine zW (aD hl2 @aW) ?_;exact ⟨o5,o6,hv.1,hv.2.1,hv.2.2,hk2,bq5.sl,bq6.sl⟩
 rintro T2 H2 hs2 ⟨o5,o6,v5,v6,v7,k2,r5,r6⟩;have w2:=k2.wf;have le2:=k2.le;have u0:ad T2 0=.int .i64 (n:Int):=(hs2.at_ 0 zU).trans (zV (aD hl g0));have u4:ad T2 4=.nilSl:=(hs2.at_ 4 zU).trans (zV hl);have hl2:T2.length=84:=hs2.len.trans (by simp only [U4]; exact hl);refine de (fun T' H'=>Kp H2 H'/\ad T' 4=.nilSl/\(g.any fun x=>x.1 == 3)=true) rfl ?_ ?_
 ·cases hc:g.any fun x=>x.1 == 3 with
  | true =>
   rw [hc] at v7;refine zW (aQ hl2 v7 u4 @aW) ?_;exact zK
  | false =>
   rw [hc] at v7;refine zW (aE hl2 v7 u0) ?_;refine AnsH.use (xE C (n:=n) (k:=-1) zF zO zO zO) ?_;rintro v H3 ⟨hr,hk3⟩;obtain ⟨k23,_,_⟩:=zT H2 zK hk3;have k3:Kp H H3:=k2.trans k23;have le_k3:=k3.le;have w3:=k3.wf;have ov:=hr.one;have n3:H2.next+7<=H3.next:=hk3.le
   have f3:H3.get (H2.next+5)=none:=hk3.free (show H2.next+5<H2.next+7 by omega) (w2.fresh (b:=H2.next+5) zO);refine zW (aQ hl2 (zm ov) @vO hrs) ?_;refine ⟨?_,zK⟩;have e:Lin.consP n g=[(Lin.unitC n (-1),false)]:=by unfold Lin.consP; rw [if_neg (by rw [hc]; decide)]
   rw [e];obtain ⟨Hx,hHx⟩:∃ Hx,Hx=H3.put (H2.next+5) (.cells [v,.bool false] t_api_Con true):=⟨_,rfl⟩
   have sx:Sub H3 Hx:=by rw [hHx]; exact aJ f3
   have:Own conE t_api_Con H Hx (H2.next+5) true (.own (H2.next+5) 0 1 1 2 true) [(Lin.unitC n (-1),false)]:=⟨[v,.bool false],rfl,by rw [hHx]; exact ap _ _ _,Cells.one (E:=conE) ⟨v,rfl,hr.mono sx⟩,zO⟩
   rw [<- hHx];exact this.sl
 rintro T3 H3 hs3 ⟨k23,x4,hyes⟩;have k3:Kp H H3:=k2.trans k23;have le_k3:=k3.le;have w3:=k3.wf;have le3:=k3.le;have x0:ad T3 0=.int .i64 (n:Int):=(hs3.at_ 0 zU).trans u0;have x5:ad T3 5=o5:=(hs3.at_ 5 zU).trans v5;have x6:ad T3 6=o6:=(hs3.at_ 6 zU).trans v6;have hl3:T3.length=84:=hs3.len.trans hl2;have hE:∀ a∈Lin.linesOf g,a.length=n+1/\Lin.Bd (2^m) a:=fun a ha=>hrow _ (Lin.mem_lines.1 ha);have hI:∀ a∈Lin.raysOf g,a.length=n+1/\Lin.Bd (2^m) a:=fun a ha=>by
  obtain ⟨y,hy,rfl⟩:=xx ha;exact hrow _ hy
 have lE:=FL g;have lI:=rays_le g;obtain ⟨c1,c2⟩:=uK (d:=n+1) (m:=m) zO zO hE hI;have hT:=Lin.gens_told (d:=n+1) (fun a ha=>(hE a ha).1) (fun a ha=>(hI a ha).1);have lL:=ech_len hT.form;have hcI:(Lin.raysOf g).length^n<1099000000000:=Wd (WX lI n) hcnt;have lR:(Lin.gensR (n+1) (Lin.linesOf g) (Lin.raysOf g)).length<=1099000000000:=by
  have:=hT.dd.count3 (fun a ha=>(hI a ha).1)
  simp only [Xe] at this;omega
 obtain ⟨L,hL⟩:∃ L,L=Lin.gensL (n+1) (Lin.linesOf g) (Lin.raysOf g):=⟨_,rfl⟩
 obtain ⟨R,hR⟩:∃ R,R=Lin.gensR (n+1) (Lin.linesOf g) (Lin.raysOf g):=⟨_,rfl⟩
 have lnR:∀ r∈R,r.length=n+1:=fun r hr=>by rw [hR] at hr; exact (c2 r hr).1
 have smR:∀ r∈R,∀ z∈r,dJ z:=fun r hr z hz=>by
  rw [hR] at hr;exact (gZ (c2 r hr).2 z hz).sm zO
 have ej:IntKind.i64.wrap ((n:Int)+1)=((n+1:Nat):Int):=by rw [wrap_i64] <;> omega
 refine de (fun T' H'=>∃ p q,ad T' 10=p/\ad T' 11=q/\Kp H H'/\dK H' p L/\dK H' q R) rfl ?_ ?_
 ·refine zW (bA hl3 x0 x5 x6 ej) ?_;refine AnsH.use (Bf C (d:=n+1) (m:=m) zF ((r5.mono k23.sub).mono (zG H3)) ((r6.mono k23.sub).mono (zG H3)) zO zO zO zO (by simpa using hcI) hE hI hm) ?_;rintro v H4 ⟨p,q,rfl,hp,hq,hk4⟩;obtain ⟨k34,_,_⟩:=zT H3 zK hk4;have k4:Kp H H4:=k3.trans k34;have le_k4:=k4.le;refine zW (aD hl3 @aW) ?_;rw [hL,hR];exact ⟨p,q,rfl,rfl,zK,hp,hq⟩
 rintro T4 H4 hs4 ⟨p,q,y10,y11,k4,hp,hq⟩;have w4:=k4.wf;have le4:=k4.le;have y0:ad T4 0=.int .i64 (n:Int):=(hs4.at_ 0 zU).trans x0;have y4:ad T4 4=.nilSl:=(hs4.at_ 4 zU).trans x4;have hl4:T4.length=84:=hs4.len.trans hl3;rw [<- hL] at lL;rw [<- hR] at lR;refine de (fun T' H'=>∃ o,ad T' 4=o/\Kp H4 H'/\Bq conE t_api_Con H4 H' o (L.map fun r=>(r,true))) rfl ?_ ?_
 ·refine zW (aE hl4 y10 hp.lenV) ?_;refine aq H4 [4] (fun j vs H'=>∃ o,vs=[o]/\Bq conE t_api_Con H4 H' o ((L.take j).map fun r=>(r,true))) (a:=0) (N:=L.length) rfl (by refine zW hl4 ?_; rfl) (zV hl4) (Vj _) zO (by simp only [U4,hl4]; rfl) rfl (fun j vs H' m ⟨o,q1,q2⟩=>⟨o,q1,q2.mono (Sub.bump H' m)⟩) (Kp.up (Kp.refl w4) _) ⟨.nilSl,by exact zV (aD hl4 y4),Bq.nil⟩ ?_ ?_
  ·rintro j T5 H5 _ hj hl5 hi5 hs5 hk5 ⟨o,hv,ho⟩;have w5:=hk5.wf;have le_hk5:=hk5.le;have le5:=hk5.le;simp only [Ve,Vk,Vg,and_true] at hv;have t55:ad T5 55=p:=(hs5.at_ 55 zU).trans (zV (aD hl4 y10));obtain ⟨w,hr,hld⟩:=dl (hp.mono hk5.sub) hj;have hix:=SlV.idx1 hp .i64 j hj;have ow:=hr.one;simp only [U4,hl4] at hl5;obtain ⟨n6,H6,e6,b6,k6,nx6,f6,-⟩:=Bq.push (ty2:=t_api_Con) (bytes:=32) (id:=H5.next+7) (id2:=H5.next+6) (H:=H5.up 9) (cs:=[w,.bool true]) (a:=(L[j],true)) (ho.mono (Sub.bump H5 9)) zU (hk5.up 9) ⟨w,rfl,hr.mono (Sub.bump H5 9)⟩ zO (by rw [cT]; omega) (w5.fresh zO) zO (by rw [cT]; omega) (w5.fresh zO) zO (by simp; omega) (by simp; omega);have e6':dI ((H5.up 9).put (H5.next+6) (.cells [w,.bool true] t_api_Con true)) (H5.next+7) 2 32 t_api_Con o (.own (H5.next+6) 0 1 1 2 true)=some (.own (H5.next+7) 0 n6 n6 2 false,H6):=e6;refine zW (fy hl5 t55 hi5 hix hld hv e6') ?_;refine ⟨k6,_,rfl,?_⟩;rw [Vi hj,VW];exact b6
  ·rintro T5 H5 hl5 hs5 hk5 ⟨o,hv,ho⟩;simp only [Ve,Vk,Vg,and_true] at hv;rw [VD] at ho;refine zW (aD hl5 @aW) ?_;exact ⟨o,hv,hk5,ho⟩
 rintro T5 H5 hs5 ⟨o5',z4,k45,bo5⟩;have w5:=k45.wf;have le5:=k45.le;have z0:ad T5 0=.int .i64 (n:Int):=(hs5.at_ 0 zU).trans y0;have z11:ad T5 11=q:=(hs5.at_ 11 zU).trans y11;have hl5:T5.length=84:=hs5.len.trans hl4;refine de (fun T' H'=>∃ o,ad T' 4=o/\Kp H4 H'/\Bq conE t_api_Con H4 H' o ((L.map fun r=>(r,true))++(R.filter fun r=>!decide (r=Lin.unitC n 1)).map fun r=>(r,false))) rfl ?_ ?_
 ·refine zW (aE hl5 z11 hq.lenV) ?_;refine aq H4 [4] (fun j vs H'=>∃ o,vs=[o]/\Bq conE t_api_Con H4 H' o ((L.map fun r=>(r,true))++((R.take j).filter fun r=>!decide (r=Lin.unitC n 1)).map fun r=>(r,false))) (a:=0) (N:=R.length) rfl (by refine zW hl5 ?_; rfl) (zV hl5) (Vj _) zO (by simp only [U4,hl5]; rfl) rfl (fun j vs H' m ⟨o,q1,q2⟩=>⟨o,q1,q2.mono (Sub.bump H' m)⟩) (k45.up _) ⟨o5',by exact zV (aD hl5 z4),by rw [Y8,Yc,Vk,Wy]; exact bo5.mono (Sub.bump H5 _)⟩ ?_ ?_
  ·rintro j T6 H6 _ hj hl6 hi6 hs6 hk6 ⟨o,hv,ho⟩;have w6:=hk6.wf;have le_hk6:=hk6.le;have le6:=hk6.le;simp only [Ve,Vk,Vg,and_true] at hv;have t0:ad T6 0=.int .i64 (n:Int):=(hs6.at_ 0 zU).trans (zV (aD hl5 z0));have t67:ad T6 67=q:=(hs6.at_ 67 zU).trans (zV (aD hl5 z11));obtain ⟨w,hr,hld⟩:=dl (hq.mono hk6.sub) hj;have hix:=SlV.idx1 hq .i64 j hj;have ow:=hr.one;simp only [U4,hl5] at hl6;have hm:=U9 hj;refine zW (dL hl6 t0 t67 hi6 hix hld) ?_;refine AnsH.use (xE C (n:=n) (k:=1) zF zO zO zO) ?_;rintro v H7 ⟨hu,hk7⟩;obtain ⟨k67,_,_⟩:=zT H6 zK hk7;have k47:Kp H4 H7:=hk6.trans k67;have le_k47:=k47.le;have w7:=k67.wf;refine zW hl6 ?_;refine AnsH.eq (zB C zF ((hr.mono k67.sub).mono (zG H7)) (hu.mono (zG H7)) (by rw [lnR _ hm]; omega) (smR _ hm)) fun H8 hk8=>?_;obtain ⟨k78,_,_⟩:=zT H7 zK hk8;have k48:Kp H4 H8:=k47.trans k78;have le_k48:=k48.le;have k68:Kp H6 H8:=k67.trans k78;have le_k68:=k68.le;have w8:=k48.wf;by_cases hq1:R[j]=Lin.unitC n 1
   ·refine zW (aE hl6 hv hq1) ?_;refine ⟨k48,_,rfl,?_⟩;rw [Vi hj,Wo];simp only [hq1,Xg,Yc,decide_true,Yq,V3,if_false,Wy];exact ho.mono k68.sub
   ·have lf:((R.take j).filter fun r=>!decide (r=Lin.unitC n 1)).length<=R.length:=Vn (Wn _ _) (by rw [VC]; omega);obtain ⟨n8,H9,e8,b8,k8,nx8,f8,-⟩:=Bq.push (ty2:=t_api_Con) (bytes:=32) (id:=H8.next+4) (id2:=H8.next+3) (H:=H8.up 6) (cs:=[w,.bool false]) (a:=(R[j],false)) ((ho.mono k68.sub).mono (Sub.bump H8 6)) zU (k48.up 6) ⟨w,rfl,(hr.mono k68.sub).mono (Sub.bump H8 6)⟩ zO (by rw [cT]; omega) (w8.fresh zO) zO (by rw [cT]; omega) (w8.fresh zO) zO (by rw [Vr,Vc,Vc]; omega) (by rw [Vr,Vc,Vc]; omega);have e8':dI ((H8.up 6).put (H8.next+3) (.cells [w,.bool false] t_api_Con true)) (H8.next+4) 2 32 t_api_Con o (.own (H8.next+3) 0 1 1 2 true)=some (.own (H8.next+4) 0 n8 n8 2 false,H9):=e8;refine zW (bA hl6 hv hq1 e8' (zm ow)) ?_;refine ⟨k8,_,rfl,?_⟩;rw [Vi hj,Wo];simp only [Xg,Yc,hq1,decide_false,Y9,if_true,VW,Ve,Vk,<- WZ];exact b8
  ·rintro T6 H6 hl6 hs6 hk6 ⟨o,hv,ho⟩;simp only [Ve,Vk,Vg,and_true] at hv;rw [VD] at ho;refine zW (aD hl6 @aW) ?_;exact ⟨o,hv,hk6,ho⟩
 rintro T6 H6 hs6 ⟨o6',a4,k46,bo6⟩;have hl6:T6.length=84:=hs6.len.trans hl5;refine WC.wb ?_;refine zW (aE hl6 @a4 hrs) ?_;have hG:Lin.consP n g=(L.map fun r=>(r,true))++(R.filter fun r=>!decide (r=Lin.unitC n 1)).map fun r=>(r,false):=by
  unfold Lin.consP;rw [if_pos hyes,<- hL,<- hR]
 rw [hG];exact ⟨bo6.sl,k4.trans k46⟩
end
def mY {x y z a b c:AV} {ty:Nat} (ha:One a) (hb:One b) (hc:One c):BY (some (.cells [x,y,z] ty true)) 3 0 (.agg [a,b,c])=some (.cells [a,b,c] ty true):=by
 simpa using gh (cs:=[x,y,z]) (vs:=[a,b,c]) (ty:=ty) (n:=3) (o:=0) (v:=.agg [a,b,c]) ⟨rfl,rfl,by simp [ha.2,hb.2,hc.2]⟩ (by simp)
def SO {x y z a b c:AV} (ha:One a) (hb:One b) (hc:One c):fu [x,y,z] [((0,1),a),((1,1),b),((2,1),c)]=some (.agg [a,b,c]):=by
 simp [fu,cG,ha.1,ha.2,hb.1,hb.2,hc.1,hc.2]
section
variable {H:Heap} {s:AV}
def Gh {ty:Nat} {l:List (List Int × Bool)} (h:SlV conE ty H s l):SlV conQE ty H s (l.map fun c=>(c.1.map cC,c.2)):=by
 obtain ⟨cells,hr,ht,hc,ha⟩:=h;refine ⟨cells,hr,ht,by rw [hc,Vc]; rfl,fun i a hi=>?_⟩;rw [V5,Vf] at hi;obtain ⟨z,hz,rfl⟩:=hi;obtain ⟨w,h1,h2⟩:=ha i z hz;exact ⟨w,h1,h2.raw⟩
def FY {ty:Nat} {l:List (Nat × List Int)} (h:SlV genE ty H s l):SlV genQE ty H s (l.map fun c=>(c.1,c.2.map cC)):=by
 obtain ⟨cells,hr,ht,hc,ha⟩:=h;refine ⟨cells,hr,ht,by rw [hc,Vc]; rfl,fun i a hi=>?_⟩;rw [V5,Vf] at hi;obtain ⟨z,hz,rfl⟩:=hi;obtain ⟨w,h1,h2⟩:=ha i z hz;exact ⟨w,h1,h2.raw⟩
end
def uw (z:Int):ct (cC z)=z:=by
 unfold ct cC;simp only [bH];by_cases h:z<0
 ·simp [h]; omega
 ·simp [h]; omega
def Oq (l:List Int):(l.map cC).map ct=l:=by
 rw [Xl]
 conv=>rhs; rw [<- YU l]
 exact WV fun z _=>uw z
section
open Lin
variable {n m:Nat}
def vI {l:List (V × Bool)} (hn:n<=5) (h:∀ c∈l,c.1.length=n+1/\Bd (2^m) c.1):∀ x∈gensP n l,x.2.length=n+1/\Bd (2^(64*(m+4))) x.2:=fun x hx=>by
 have hE:∀ a∈eqsOf l,a.length=n+1/\Bd (2^m) a:=fun a ha=>h _ (mem_eqs.1 ha);have hI:∀ a∈ineqsOf n l,a.length=n+1/\Bd (2^m) a:=fun a ha=>by
  rcases mem_ineqs.1 ha with rfl | ha
  ·exact ⟨unitC_len n 1,Dx n m⟩
  ·exact h _ ha
 obtain ⟨c1,c2⟩:=uK (d:=n+1) (m:=m) zO zO hE hI;unfold gensP at hx;split at hx
 ·rcases Vu.1 hx with hx | hx
  ·obtain ⟨r,hr,rfl⟩:=Va.1 hx;exact c1 r hr
  ·obtain ⟨r,hr,rfl⟩:=Va.1 hx;exact c2 r hr
 ·cases hx
def M9 (n m:Nat):Bd (2^m) (unitC n (-1)):=fun i=>by
 have h1:1<=2^m:=VK zU;unfold unitC at_;cases i with
 | zero=>simpa using h1
 | succ i =>
  rw [WI,U5,V9];split <;> simp
def Gi {g:List (Nat × V)} (hn:n<=5) (h:∀ x∈g,x.2.length=n+1/\Bd (2^m) x.2):∀ c∈consP n g,c.1.length=n+1/\Bd (2^(64*(m+4))) c.1:=fun x hx=>by
 have hE:∀ a∈linesOf g,a.length=n+1/\Bd (2^m) a:=fun a ha=>h _ (mem_lines.1 ha);have hI:∀ a∈raysOf g,a.length=n+1/\Bd (2^m) a:=fun a ha=>by
  obtain ⟨y,hy,rfl⟩:=xx ha;exact h _ hy
 obtain ⟨c1,c2⟩:=uK (d:=n+1) (m:=m) zO zO hE hI;unfold consP at hx;split at hx
 ·rcases Vu.1 hx with hx | hx
  ·obtain ⟨r,hr,rfl⟩:=Va.1 hx;exact c1 r hr
  ·obtain ⟨r,hr,rfl⟩:=Va.1 hx;exact c2 r (Vp.1 hr).1
 ·rw [V7] at hx;subst hx;exact ⟨unitC_len n (-1),M9 n _⟩
def K7 {k n:Nat} (hk:k<=1023) (hn:n<=4):k^n<1099000000000:=by
 have h1:k^n<=1023^n:=WX hk n;have h2:1023^n<=1023^4:=Vx zU hn;have h3:(1023:Nat)^4=1095222947841:=by decide
 omega
end
abbrev Ay:AV:=.agg [.int .i64 0,.nilSl,.nilSl]
def PolyV (H:Heap) (v:AV) (n:Nat) (c:List (List Int × Bool)) (g:List (Nat × List Int)):Prop:=∃ vc vg,v=.agg [.int .i64 (n:Int),vc,vg]/\SlV conE t_api_Con H vc c/\SlV genE ai H vg g
def PolyV.mono {H H':Heap} (hs:Sub H H') {v:AV} {n:Nat} {c:List (List Int × Bool)} {g:List (Nat × List Int)} (h:PolyV H v n c g):PolyV H' v n c g:=by
 obtain ⟨vc,vg,e,h1,h2⟩:=h;exact ⟨vc,vg,e,h1.mono hs,h2.mono hs⟩
def qx (H:Heap) (v:AV) (n:Nat) (g:List (Nat × List Int)):Prop :=
 (v=.tup [Ay,.int .i64 4]/\(1024<=g.length\/1024<=(Lin.consP n g).length))\/∃ p,v=.tup [p,.int .i64 0]/\PolyV H p n (Lin.consP n g) g/\g.length<1024/\(Lin.consP n g).length<1024
section
variable {tab:Nat->Option aA} {H:Heap} {s:AV}
def CK (C:Code tab) (hw:Wf H) {n m:Nat} {g:List (Nat × List Int)} (hs:SlV genE ai H s g) (hbig:g.length<1099511627776) (hn:n<=4) (hrow:∀ x∈g,x.2.length=n+1/\Lin.Bd (2^m) x.2) (hm:m<=300000) :
  Ans tab (.fn rk [.int .i64 (n:Int),s]) H fun v H'=>qx H' v n g/\Kp H H':=by
 have os:=hs.one;refine bB C.q38 zU fun T hl g0 g1=>?_;by_cases q1:(1024:Int)<=(g.length:Int)
 ·refine zW (dL hl g0 g1 hs.lenV q1 @mY) ?_;exact ⟨.inl ⟨rfl,.inl zO⟩,zK⟩
 refine zW (bA hl g0 g1 hs.lenV q1) ?_;refine AnsH.use (CM C zF (hs.mono (zG H)) hn zO (K7 zO hn) hrow hm) ?_;rintro v H2 ⟨hc,hk2⟩;obtain ⟨k2,_,w2⟩:=zT H zK hk2;have ov:=hc.one;have d0:=hk2.get (b:=H.next) (e:=.cells [.int .i64 0,.nilSl,.nilSl] ak true) (cH);have lt0:=w2 _ _ d0;by_cases q2:(1024:Int)<=((Lin.consP n g).length:Int)
 ·refine zW (fy hl g0 g1 hc.lenV q2 d0 @mY) ?_;exact ⟨.inl ⟨rfl,.inr zO⟩,zK⟩
 have st:NoTy [t_api_Con,aa,ae,ai] H2 H.next:=NoTy.ty d0 zU
 refine zW (iy hl hc.lenV q2 d0 g0 g1 @SO @mY) ?_;refine ⟨.inr ⟨_,rfl,⟨v,s,rfl,?_,?_⟩,zO,zO⟩,zK⟩
 ·have m3:NoTy (t_api_Con :: conE.tys) H2 H.next:=NoTy.ty d0 zU
  exact SlV.monoT (E:=conE) zS hc
 ·have m3:NoTy (ai :: genE.tys) H2 H.next:=NoTy.ty d0 zU
  exact SlV.monoT (E:=genE) zS (hs.mono k2.sub)
end
section
open Lin
variable {n:Nat}
def Gu {l:List (V × Bool)} (hn:n<=8) (hl:l.length<=60) (h:∀ c∈l,c.1.length=n+1):dE n (l.map fun c=>(c.1.map cC,c.2))=0:=by
 unfold dE;rw [if_neg zO,if_neg (by rw [Vc]; omega),if_neg,if_neg]
 ·rw [VO];rintro ⟨c,hc,h1⟩;obtain ⟨x,hx,rfl⟩:=Va.1 hc;have h1:=of_decide_eq_true h1
  have:=h x hx
  simp only [Vc] at h1;omega
 ·rw [VO];rintro ⟨c,hc,h1⟩;obtain ⟨x,hx,rfl⟩:=Va.1 hc
  have:=h x hx
  rw [V8,DP zO] at h1;cases h1
def QZ {l:List (V × Bool)} (hn:n<=60) (h:∀ c∈l,c.1.length=n+1/\∀ z∈c.1,dJ z):∀ c∈l.map fun c=>(c.1.map cC,c.2),rV c.1:=fun c hc=>by
 obtain ⟨x,hx,rfl⟩:=Va.1 hc;exact uU (by rw [(h x hx).1]; omega) (h x hx).2
def Gt {g:List (Nat × V)} (hn:n<=8) (hl:g.length<=60) (h:ValidG n g) (hk:∀ x∈g,x.1=1\/x.1=2\/x.1=3):ji n (g.map fun c=>(c.1,c.2.map cC))=0:=by
 unfold ji;rw [if_neg zO,if_neg (by rw [Vc]; omega),if_neg,if_neg]
 ·rw [VO];rintro ⟨c,hc,h1⟩;obtain ⟨x,hx,rfl⟩:=Va.1 hc;have h1:=of_decide_eq_true h1
  have:=(h x hx).1
  simp only [Vc] at h1;omega
 ·rw [VO];rintro ⟨c,hc,h1⟩;obtain ⟨x,hx,rfl⟩:=Va.1 hc;obtain ⟨h2,h3,h4⟩:=h x hx;simp only [HY,Oq,WT,V8,DP (r:=x.2) zO,HZ] at h1;rcases h1 with h1 | h1
  ·cases h1
  ·rcases hk x hx with e | e | e
   ·rw [if_pos (.inl e)] at h1;exact absurd (h4 zO) (of_decide_eq_true h1)
   ·rw [if_pos (.inr e)] at h1;exact absurd (h4 zO) (of_decide_eq_true h1)
   ·rw [if_neg zO,if_pos e] at h1
    have:=h3 e
    have:=of_decide_eq_true h1
    omega
def QY {g:List (Nat × V)} (hn:n<=60) (h:∀ c∈g,c.2.length=n+1/\∀ z∈c.2,dJ z):∀ c∈g.map fun c=>(c.1,c.2.map cC),rV c.2:=fun c hc=>by
 obtain ⟨x,hx,rfl⟩:=Va.1 hc;exact uU (by rw [(h x hx).1]; omega) (h x hx).2
end
section
variable {tab:Nat->Option aA} {H:Heap} {s:AV}
def Ga (C:Code tab) (hw:Wf H) {n:Int} {l:List wI} (hs:SlV conQE t_api_Con H s l) (hbig:∀ c∈l,rV c.1) (hlen:l.length<4611686018427387904) (hc:dE n l≠0) :
  Ans tab (.fn oR [.int .i64 n,s]) H fun v H'=>v=.tup [Ay,.int .i64 (dE n l)]/\Kp H H':=by
 refine bB C.q13 zU fun T hl g0 g1=>?_;refine zW (aE hl g0 g1) ?_;refine AnsH.eq (oX C zF (hs.mono (zG H)) hbig hlen) fun H2 hk2=>?_;obtain ⟨k2,_,w2⟩:=zT H zK hk2;have d0:=hk2.get (b:=H.next) (e:=.cells [.int .i64 0,.nilSl,.nilSl] ak true) (cH);have lt0:=w2 _ _ d0;have hc:¬ dE n l=0:=hc;refine zW (dL hl g0 g1 hc d0 @mY) ?_;exact zK
def pU (C:Code tab) (hw:Wf H) {n m m2:Nat} {l:List (List Int × Bool)} (hs:SlV conE t_api_Con H s l) (hn:n<=4) (hlen:l.length<=60) (hrow:∀ c∈l,c.1.length=n+1/\Lin.Bd (2^m) c.1) (hm:m<=300000) (hG:∀ x∈Lin.gensP n l,Lin.Bd (2^m2) x.2) (hm2:m2<=300000) :
  Ans tab (.fn oR [.int .i64 (n:Int),s]) H fun v H'=>qx H' v n (Lin.gensP n l)/\Kp H H':=by
 refine bB C.q13 zU fun T hl g0 g1=>?_;refine zW (aE hl g0 g1) ?_;refine AnsH.eq (oX C zF ((Gh hs).mono (zG H)) (QZ (n:=n) zO fun c hc=>⟨(hrow c hc).1,fun z hz=>(gZ (hrow c hc).2 z hz).sm zO⟩) (by rw [Vc]; omega)) fun H2 hk2=>?_;rw [Gu zO hlen fun c hc=>(hrow c hc).1];obtain ⟨k2,_,w2⟩:=zT H zK hk2;refine zW (aE hl g0 g1) ?_;refine AnsH.use (yq C zF ((hs.mono k2.sub).mono (zG H2)) hn zO (K7 zO hn) hrow hm) ?_;rintro v H3 ⟨hg,hk3⟩;obtain ⟨k23,_,_⟩:=zT H2 zK hk3;have k3:Kp H H3:=k2.trans k23;have le_k3:=k3.le;have w3:=k3.wf;refine zW (aE hl g0 g1) ?_;refine AnsH.use (CK C zF (hg.mono (zG H3)) ?_ hn (fun x hx=>⟨(vI zO hrow x hx).1,hG x hx⟩) hm2) ?_
 ·have hT:=Lin.gens_told (d:=n+1) (Lin.eqs_len (l:=l) fun c hc=>(hrow c hc).1) (Lin.ineqs_len (l:=l) fun c hc=>(hrow c hc).1);have h1:=hT.dd.count3 (Lin.ineqs_len (l:=l) fun c hc=>(hrow c hc).1);have h2:=ech_len hT.form;have h3:(Lin.ineqsOf n l).length^n<1099000000000:=K7 (Vn (rx l) zO) hn;simp only [Xe] at h1;unfold Lin.gensP;split
  ·rw [Vr,Vc,Vc]; omega
  ·simp
 rintro v2 H4 ⟨hm4,hk4⟩;have k4:Kp H H4:=k3.trans (Kp.trans zK hk4);have le_k4:=k4.le;have w4:=k4.wf;have d0:=hk4.get (hk3.get (hk2.get (b:=H.next) (e:=.cells [.int .i64 0,.nilSl,.nilSl] ak true) (cH)));have lt0:=w4 _ _ d0;rcases hm4 with ⟨rfl,hm4⟩ | ⟨p,rfl,⟨vc,vg,rfl,hc,hg4⟩,h1,h2⟩
 ·refine zW (bA hl g0 g1 d0 @mY) ?_;exact ⟨.inl ⟨rfl,hm4⟩,zK⟩
 ·have oc:=hc.one;have og:=hg4.one;have e1:F4 0 (.tup [.agg [.int .i64 (n:Int),vc,vg],.int .i64 0])=some (.agg [.int .i64 (n:Int),vc,vg]):=rfl;refine zW (bA hl g0 g1 d0 @mY) ?_;refine ⟨.inr ⟨_,rfl,⟨vc,vg,rfl,?_,?_⟩,h1,h2⟩,zK⟩
  ·have m3:NoTy (t_api_Con :: conE.tys) H4 H.next:=NoTy.ty d0 zU
   exact SlV.monoT (E:=conE) zS hc
  ·have m3:NoTy (ai :: genE.tys) H4 H.next:=NoTy.ty d0 zU
   exact SlV.monoT (E:=genE) zS hg4
def ru {n k m:Nat} (h:n<2^m) (hm:m<=64*k):(ag n).length<=k:=bi (by
 have e:B^k=2^(64*k):=by
  have:B=2^64:=by decide
  rw [this,<- Ym]
 rw [e];exact Vq h (Vx zU hm))
def Df (H:Heap) (v:AV) (n:Nat) (g:List (Nat × List Int)):Prop :=
 (v=.tup [Ay,.int .i64 4]/\1024<=(Lin.consP n g).length)\/qx H v n (Lin.gensP n (Lin.consP n g))
def vN (C:Code tab) (hw:Wf H) {n m m2 m3:Nat} {g:List (Nat × List Int)} (hs:SlV genE ai H s g) (hn:n<=4) (hlen:g.length<=60) (hv:Lin.ValidG n g) (hk:∀ x∈g,x.1=1\/x.1=2\/x.1=3) (hrow:∀ c∈g,Lin.Bd (2^m) c.2) (hm:m<=300000) (hC:∀ c∈Lin.consP n g,Lin.Bd (2^m2) c.1) (hm2:m2<=300000) (hG:∀ x∈Lin.gensP n (Lin.consP n g),Lin.Bd (2^m3) x.2) (hm3:m3<=300000)
  (hlc:(Lin.consP n g).length<=1022\/1024<=(Lin.consP n g).length) :
  Ans tab (.fn rm [.int .i64 (n:Int),s]) H fun v H'=>Df H' v n g/\Kp H H':=by
 have hrow':∀ c∈g,c.2.length=n+1/\Lin.Bd (2^m) c.2:=fun c hc=>⟨(hv c hc).1,hrow c hc⟩
 have hgood:∀ c∈g.map fun c=>(c.1,c.2.map cC),∀ z∈c.2,Lim z.2/\z.2.length<=1048576:=fun c hc z hz=>by
  obtain ⟨x,hx,rfl⟩:=Va.1 hc;obtain ⟨y,hy,rfl⟩:=Va.1 hz;have hb:=gZ (hrow x hx) y hy;exact ⟨bo _,ru (n:=y.natAbs) (k:=1048576) (m:=m+1) hb zO⟩
 refine bB C.q29 zU fun T hl g0 g1=>?_;refine zW (aE hl g0 g1) ?_;refine AnsH.eq (xF C zF ((FY hs).mono (zG H)) (QY (n:=n) zO fun c hc=>⟨(hrow' c hc).1,fun z hz=>(gZ (hrow c hc) z hz).sm zO⟩) hgood (by rw [Vc]; omega)) fun H2 hk2=>?_;rw [Gt zO hlen hv hk];obtain ⟨k2,_,w2⟩:=zT H zK hk2;refine zW (aE hl g0 g1) ?_;refine AnsH.use (CM C zF ((hs.mono k2.sub).mono (zG H2)) hn zO (K7 zO hn) hrow' zO) ?_;rintro v H3 ⟨hc3,hk3⟩;obtain ⟨k23,_,_⟩:=zT H2 zK hk3;have k3:Kp H H3:=k2.trans k23;have le_k3:=k3.le;have w3:=k3.wf;have d3:=hk3.get (hk2.get (b:=H.next) (e:=.cells [.int .i64 0,.nilSl,.nilSl] ak true) (cH));have lt3:=w3 _ _ d3;by_cases q1:(1024:Int)<=((Lin.consP n g).length:Int)
 ·refine zW (fy hl g0 g1 hc3.lenV q1 d3 @mY) ?_;exact ⟨.inl ⟨rfl,zO⟩,zK⟩
 have hrc:∀ c∈Lin.consP n g,c.1.length=n+1/\Lin.Bd (2^m2) c.1:=fun c hc=>⟨(Gi zO hrow' c hc).1,hC c hc⟩
 refine zW (aQ hl hc3.lenV q1 g0) ?_;refine AnsH.use (yq C zF (hc3.mono (zG H3)) hn zO (K7 zO hn) hrc hm2) ?_;rintro v4 H4 ⟨hg4,hk4⟩;obtain ⟨k34,_,_⟩:=zT H3 zK hk4;have k4:Kp H H4:=k3.trans k34;have le_k4:=k4.le;have w4:=k4.wf;refine zW (aD hl g0) ?_;refine AnsH.use (CK C zF (hg4.mono (zG H4)) ?_ hn (fun x hx=>⟨(vI zO hrc x hx).1,hG x hx⟩) hm3) ?_
 ·have hT:=Lin.gens_told (d:=n+1) (Lin.eqs_len (l:=Lin.consP n g) fun c hc=>(hrc c hc).1) (Lin.ineqs_len (l:=Lin.consP n g) fun c hc=>(hrc c hc).1);have h1:=hT.dd.count3 (Lin.ineqs_len (l:=Lin.consP n g) fun c hc=>(hrc c hc).1);have h2:=ech_len hT.form;have h3:(Lin.ineqsOf n (Lin.consP n g)).length^n<1099000000000:=K7 (Vn (rx _) zO) hn;simp only [Xe] at h1;unfold Lin.gensP;split
  ·rw [Vr,Vc,Vc]; omega
  ·simp
 rintro v5 H5 ⟨hm5,hk5⟩;have k5:Kp H H5:=k4.trans (Kp.trans zK hk5);have le_k5:=k5.le;have w5:=k5.wf;have d0:=hk5.get (hk4.get d3);have lt0:=w5 _ _ d0;rcases hm5 with ⟨rfl,hm5⟩ | ⟨p,rfl,⟨vc,vg,rfl,hc,hg5⟩,h1,h2⟩
 ·refine zW (bA hl g0 g1 d0 @mY) ?_;exact ⟨.inr (.inl ⟨rfl,hm5⟩),zK⟩
 ·have oc:=hc.one;have og:=hg5.one;refine zW (bA hl g0 g1 d0 @mY) ?_;refine ⟨.inr (.inr ⟨_,rfl,⟨vc,vg,rfl,?_,?_⟩,h1,h2⟩),zK⟩
  ·have m3:NoTy (t_api_Con :: conE.tys) H5 H.next:=NoTy.ty d0 zU
   exact SlV.monoT (E:=conE) zS hc
  ·have m3:NoTy (ai :: genE.tys) H5 H.next:=NoTy.ty d0 zU
   exact SlV.monoT (E:=genE) zS hg5
end
section
variable {tab:Nat->Option aA} {base i k:Nat} {T0:Tm} {dst:Option Nat} {op:AOp} {us:List (Nat × Option Nat)} {adds:List Nat} {r:List (Nat × List Nat)} {ds:List jx} {Vs:List AV} {Cs:List Heap} {Es:List (Option Ent)} {Q:DS->Prop} {t:Nat} {w:Bool}
end
section
variable {tab:Nat->Option aA} {H:Heap} {s:AV}
def An (C:Code tab) (hw:Wf H) {a b:AV} {l m:List (List Int × Bool)} (ha:SlV conE t_api_Con H a l) (hb:SlV conE t_api_Con H b m) (hl':l.length<1099511627776) (hz:∀ r∈l,r.1.length<1099511627776/\∀ z∈r.1,dJ z) :
  Ans tab (.fn dQ [a,b]) H fun v H'=>v=.bool (decide (l=m))/\Kp H H':=by
 refine bB C.q88 zU fun T hl g0 g1=>?_;by_cases he:l.length=m.length
 ·have lb:lenV b=some (.int .i64 (l.length:Int)):=by rw [hb.lenV,he]
  refine zW (bA hl g0 g1 ha.lenV lb) ?_;refine cm H [5] (fun k vs H'=>∃ i:Nat,vs=[.int .i64 (i:Int)]/\i+k=l.length/\∀ q (h:q<l.length) (h':q<m.length),q<i->l[q]=m[q]) l.length (by simp only [U4]; exact hl) rfl zK ⟨0,by refine zW (aE hl g0 g1) ?_; rfl,zO,fun q _ _ h=>by omega⟩ ?_;rintro k T1 H1 hl1 hs1 hk1 ⟨i,hv,hik,hP⟩;have w1:=hk1.wf;have le_hk1:=hk1.le;simp only [Ve,Vk,Vg,and_true] at hv;have t0:ad T1 0=a:=(hs1.at_ 0 zU).trans (zV (aD hl g0));have t1:ad T1 1=b:=(hs1.at_ 1 zU).trans (zV (aQ hl g0 g1 g1));by_cases hi:i<l.length
  ·have hii:(i:Int)<(l.length:Int):=zO;have hi':i<m.length:=zO;obtain ⟨cs,⟨w,rfl,hr⟩,-,h2,-⟩:=(ha.mono hk1.sub).at (U7 hi);obtain ⟨cs',⟨w',rfl,hr'⟩,-,h2',-⟩:=(hb.mono hk1.sub).at (U7 hi');have l0:aX H1 none (au a (i*2))=some w:=h2 0 _ rfl;have l1:aX H1 none (au a (i*2+1))=some (.bool l[i].2):=h2 1 _ rfl;have l0':aX H1 none (au b (i*2))=some w':=h2' 0 _ rfl;have l1':aX H1 none (au b (i*2+1))=some (.bool m[i].2):=h2' 1 _ rfl;have hix:cI 2 a (.int .i64 (i:Int))=some (au a (i*2)):=SlV.idx ha .i64 i hi;have hix':cI 2 b (.int .i64 (i:Int))=some (au b (i*2)):=SlV.idx hb .i64 i hi';have f0:A5 0 (au a (i*2))=some (au a (i*2)):=ha.fa zO 0 (i*2);have f1:A5 1 (au a (i*2))=some (au a (i*2+1)):=ha.fa zO 1 (i*2);have f0':A5 0 (au b (i*2))=some (au b (i*2)):=hb.fa zO 0 (i*2);have f1':A5 1 (au b (i*2))=some (au b (i*2+1)):=hb.fa zO 1 (i*2);have e:IntKind.i64.wrap ((i:Int)+1)=((i+1:Nat):Int):=by rw [wrap_i64] <;> omega
   refine zW (fy hl1 hv t0 t1 ha.lenV hii hi) ?_;by_cases hx:l[i].2=m[i].2
   ·skip
    refine aF ?_;refine zX (Ub hl1 hv t0 t1 hix hix' l0 l1 l0' l1' f0 f1 f0' f1' hx (beq_self_eq_true (α:=Bool))) ?_;refine AnsH.eq (Ao C zF (hr.mono (zG H1)) (hr'.mono (zG H1)) (hz _ (U9 hi)).1 (hz _ (U9 hi)).2) fun H2 hk2=>?_;obtain ⟨k12,_,_⟩:=zT H1 zK hk2;have k2:Kp H H2:=Kp.trans hk1 k12;have le_k2:=k2.le;have l0b:=bE k12.sub l0;have l1b:=bE k12.sub l1;have l0b':=bE k12.sub l0';have l1b':=bE k12.sub l1';cases hq:decide (l[i].1=m[i].1) with
    | true =>
     have hq:=of_decide_eq_true hq;refine zX (S6 hl1 hv t0 t1 hix hix' l0 l1 l0' l1' l0b l1b l0b' l1b' f0 f1 f0' f1' hx e (beq_self_eq_true (α:=Bool))) ?_;refine ⟨zK,k-1,zO,i+1,rfl,zO,fun q h h' hqi=>?_⟩;by_cases eq:q=i
     ·subst eq; exact Prod.ext hq hx
     ·exact hP q h h' zO
    | false =>
     have hq:=of_decide_eq_false hq;refine zX (S6 hl1 hv t0 t1 hix hix' l0 l1 l0' l1' l0b l1b l0b' l1b' f0 f1 f0' f1' hx e (beq_self_eq_true (α:=Bool))) ?_;refine ⟨?_,zK⟩;rw [decide_eq_false];intro e; subst e; exact hq rfl
   ·have hxb:(l[i].2 == m[i].2)=false:=by simpa using hx
    refine aF ?_;refine zX (Ps hl1 hv t0 t1 hix hix' l0 l1 l0' l1' f0 f1 f0' f1' hx hxb (beq_self_eq_true (α:=Bool))) ?_;refine ⟨?_,zK⟩;rw [decide_eq_false];intro e; subst e; exact hx rfl
  ·have hii:¬ (i:Int)<(l.length:Int):=zO;refine zW (fy hl1 hv t0 t1 ha.lenV hii hi) ?_;refine ⟨?_,zK⟩;rw [decide_eq_true (iL he fun q h h'=>hP q h h' zO)]
 ·have he':¬ (l.length:Int)=(m.length:Int):=zO;refine zW (fy hl g0 g1 ha.lenV hb.lenV he' he) ?_;refine ⟨?_,zK⟩;rw [decide_eq_false];intro e; subst e; exact he rfl
def Am (C:Code tab) (hw:Wf H) {a b:AV} {l m:List (Nat × List Int)} (ha:SlV genE ai H a l) (hb:SlV genE ai H b m) (hl':l.length<1099511627776) (hz:∀ r∈l,r.2.length<1099511627776/\∀ z∈r.2,dJ z) :
  Ans tab (.fn dO [a,b]) H fun v H'=>v=.bool (decide (l=m))/\Kp H H':=by
 refine bB C.q89 zU fun T hl g0 g1=>?_;by_cases he:l.length=m.length
 ·have lb:lenV b=some (.int .i64 (l.length:Int)):=by rw [hb.lenV,he]
  refine zW (bA hl g0 g1 ha.lenV lb) ?_;refine cm H [5] (fun k vs H'=>∃ i:Nat,vs=[.int .i64 (i:Int)]/\i+k=l.length/\∀ q (h:q<l.length) (h':q<m.length),q<i->l[q]=m[q]) l.length (by simp only [U4]; exact hl) rfl zK ⟨0,by refine zW (aE hl g0 g1) ?_; rfl,zO,fun q _ _ h=>by omega⟩ ?_;rintro k T1 H1 hl1 hs1 hk1 ⟨i,hv,hik,hP⟩;have w1:=hk1.wf;have le_hk1:=hk1.le;simp only [Ve,Vk,Vg,and_true] at hv;have t0:ad T1 0=a:=(hs1.at_ 0 zU).trans (zV (aD hl g0));have t1:ad T1 1=b:=(hs1.at_ 1 zU).trans (zV (aQ hl g0 g1 g1));by_cases hi:i<l.length
  ·have hii:(i:Int)<(l.length:Int):=zO;have hi':i<m.length:=zO;obtain ⟨cs,⟨w,rfl,hr⟩,-,h2,-⟩:=(ha.mono hk1.sub).at (U7 hi);obtain ⟨cs',⟨w',rfl,hr'⟩,-,h2',-⟩:=(hb.mono hk1.sub).at (U7 hi');have l0:aX H1 none (au a (i*2))=some (.int .u8 (l[i].1:Int)):=h2 0 _ rfl;have l1:aX H1 none (au a (i*2+1))=some w:=h2 1 _ rfl;have l0':aX H1 none (au b (i*2))=some (.int .u8 (m[i].1:Int)):=h2' 0 _ rfl;have l1':aX H1 none (au b (i*2+1))=some w':=h2' 1 _ rfl;have hix:cI 2 a (.int .i64 (i:Int))=some (au a (i*2)):=SlV.idx ha .i64 i hi;have hix':cI 2 b (.int .i64 (i:Int))=some (au b (i*2)):=SlV.idx hb .i64 i hi';have f0:A5 0 (au a (i*2))=some (au a (i*2)):=ha.fa zO 0 (i*2);have f1:A5 1 (au a (i*2))=some (au a (i*2+1)):=ha.fa zO 1 (i*2);have f0':A5 0 (au b (i*2))=some (au b (i*2)):=hb.fa zO 0 (i*2);have f1':A5 1 (au b (i*2))=some (au b (i*2+1)):=hb.fa zO 1 (i*2);have e:IntKind.i64.wrap ((i:Int)+1)=((i+1:Nat):Int):=by rw [wrap_i64] <;> omega
   refine zW (fy hl1 hv t0 t1 ha.lenV hii hi) ?_;by_cases hx:l[i].1=m[i].1
   ·have hx2:(l[i].1:Int)=(m[i].1:Int):=zO;refine aF ?_;refine zX (Ps hl1 hv t0 t1 hix hix' l0 l1 l0' l1' f0 f1 f0' f1' hx hx2 (beq_self_eq_true (α:=Bool))) ?_;refine AnsH.eq (Ao C zF (hr.mono (zG H1)) (hr'.mono (zG H1)) (hz _ (U9 hi)).1 (hz _ (U9 hi)).2) fun H2 hk2=>?_;obtain ⟨k12,_,_⟩:=zT H1 zK hk2;have k2:Kp H H2:=Kp.trans hk1 k12;have le_k2:=k2.le;have l0b:=bE k12.sub l0;have l1b:=bE k12.sub l1;have l0b':=bE k12.sub l0';have l1b':=bE k12.sub l1';cases hq:decide (l[i].2=m[i].2) with
    | true =>
     have hq:=of_decide_eq_true hq;refine zX (S2 hl1 hv t0 t1 hix hix' l0 l1 l0' l1' l0b l1b l0b' l1b' f0 f1 f0' f1' hx hx2 e (beq_self_eq_true (α:=Bool))) ?_;refine ⟨zK,k-1,zO,i+1,rfl,zO,fun q h h' hqi=>?_⟩;by_cases eq:q=i
     ·subst eq; exact Prod.ext hx hq
     ·exact hP q h h' zO
    | false =>
     have hq:=of_decide_eq_false hq;refine zX (S2 hl1 hv t0 t1 hix hix' l0 l1 l0' l1' l0b l1b l0b' l1b' f0 f1 f0' f1' hx hx2 e (beq_self_eq_true (α:=Bool))) ?_;refine ⟨?_,zK⟩;rw [decide_eq_false];intro e; subst e; exact hq rfl
   ·have hx2:¬ (l[i].1:Int)=(m[i].1:Int):=zO;have hxb:=hx2;refine aF ?_;refine zX (Pr hl1 hv t0 t1 hix hix' l0 l1 l0' l1' f0 f1 f0' f1' hx hx2 hxb (beq_self_eq_true (α:=Bool))) ?_;refine ⟨?_,zK⟩;rw [decide_eq_false];intro e; subst e; exact hx rfl
  ·have hii:¬ (i:Int)<(l.length:Int):=zO;refine zW (fy hl1 hv t0 t1 ha.lenV hii hi) ?_;refine ⟨?_,zK⟩;rw [decide_eq_true (iL he fun q h h'=>hP q h h' zO)]
 ·have he':¬ (l.length:Int)=(m.length:Int):=zO;refine zW (fy hl g0 g1 ha.lenV hb.lenV he' he) ?_;refine ⟨?_,zK⟩;rw [decide_eq_false];intro e; subst e; exact he rfl
def fF (n:Nat) (l:List wI):Bool:=decide (n<l.length) || l.any fun c=>fW 5 1 c.1
def qj (C:Code tab) (hw:Wf H) {a:AV} {ls:List wI} {n:Nat} (ha:SlV conQE t_api_Con H a ls) (hn:n<4611686018427387904) :
  Ans tab (.fn dy [a,.int .i64 (n:Int)]) H fun v H'=>v=.bool (fF n ls)/\Kp H H':=by
 refine bB C.q12 zU fun T hl g0 g1=>?_;by_cases he:n<ls.length
 ·have he':(n:Int)<(ls.length:Int):=zO;refine zW (dL hl g0 g1 ha.lenV he' he) ?_;exact ⟨by unfold fF; rw [decide_eq_true he]; rfl,zK⟩
 ·have he':¬ (n:Int)<(ls.length:Int):=zO;refine zW (dL hl g0 g1 ha.lenV he' he) ?_;refine cm H [5] (fun k vs H'=>∃ i:Nat,vs=[.int .i64 (i:Int)]/\i+k=ls.length/\∀ q (h:q<ls.length),q<i->fW 5 1 (ls[q]).1=false) ls.length (by simp only [U4]; exact hl) rfl zK ⟨0,by refine zW (aE hl g0 g1) ?_; rfl,zO,fun q _ h=>by omega⟩ ?_;rintro k T1 H1 hl1 hs1 hk1 ⟨i,hv,hik,hP⟩;have w1:=hk1.wf;have le_hk1:=hk1.le;simp only [Ve,Vk,Vg,and_true] at hv;have t0:ad T1 0=a:=(hs1.at_ 0 zU).trans (zV (aD hl g0));by_cases hi:i<ls.length
  ·have hii:(i:Int)<(ls.length:Int):=zO;obtain ⟨cs,⟨w,rfl,hr⟩,-,h2,-⟩:=(ha.mono hk1.sub).at (U7 hi);have hld:aX H1 none (au a (i*2))=some w:=h2 0 _ rfl;have hix:cI 2 a (.int .i64 (i:Int))=some (au a (i*2)):=SlV.idx ha .i64 i hi;have hfa:A5 0 (au a (i*2))=some (au a (i*2)):=ha.fa zO 0 (i*2);have e:IntKind.i64.wrap ((i:Int)+1)=((i+1:Nat):Int):=by rw [wrap_i64] <;> omega
   refine zW (jW hl1 hv t0 ha.lenV hii hi hix hfa hld) ?_;refine AnsH.eq (qO C (many:=5) (lim:=1) zF (hr.mono (zG H1)) zO) fun H2 hk2=>?_;obtain ⟨k12,_,_⟩:=zT H1 zK hk2;have k2:Kp H H2:=Kp.trans hk1 k12;have le_k2:=k2.le;cases hq:fW 5 1 (ls[i]).1 with
   | true =>
    refine zW hl1 ?_;refine ⟨?_,zK⟩;unfold fF;rw [VO.2 ⟨_,U9 hi,hq⟩,ZG]
   | false =>
    refine zW (aE hl1 hv e) ?_;refine ⟨zK,k-1,zO,i+1,rfl,zO,fun q h hqi=>?_⟩;by_cases eq:q=i
    ·subst eq; exact hq
    ·exact hP q h zO
  ·have hii:¬ (i:Int)<(ls.length:Int):=zO;refine zW (dL hl1 hv t0 ha.lenV hii hi) ?_;refine ⟨?_,zK⟩;have e:(ls.any fun c=>fW 5 1 c.1)=false:=by
    rw [Wt];intro z hz;obtain ⟨q,hq,rfl⟩:=Wg hz;rw [hP q hq zO]; simp
   unfold fF;rw [decide_eq_false he,YQ,e]
def mJ (n:Nat) (l:List GT):Bool:=decide (n<l.length) || l.any fun c=>fW 5 1 c.2
def y5 (C:Code tab) (hw:Wf H) {a:AV} {ls:List GT} {n:Nat} (ha:SlV genQE ai H a ls) (hn:n<4611686018427387904) :
  Ans tab (.fn dx [a,.int .i64 (n:Int)]) H fun v H'=>v=.bool (mJ n ls)/\Kp H H':=by
 refine bB C.q47 zU fun T hl g0 g1=>?_;by_cases he:n<ls.length
 ·have he':(n:Int)<(ls.length:Int):=zO;refine zW (dL hl g0 g1 ha.lenV he' he) ?_;exact ⟨by unfold mJ; rw [decide_eq_true he]; rfl,zK⟩
 ·have he':¬ (n:Int)<(ls.length:Int):=zO;refine zW (dL hl g0 g1 ha.lenV he' he) ?_;refine cm H [5] (fun k vs H'=>∃ i:Nat,vs=[.int .i64 (i:Int)]/\i+k=ls.length/\∀ q (h:q<ls.length),q<i->fW 5 1 (ls[q]).2=false) ls.length (by simp only [U4]; exact hl) rfl zK ⟨0,by refine zW (aE hl g0 g1) ?_; rfl,zO,fun q _ h=>by omega⟩ ?_;rintro k T1 H1 hl1 hs1 hk1 ⟨i,hv,hik,hP⟩;have w1:=hk1.wf;have le_hk1:=hk1.le;simp only [Ve,Vk,Vg,and_true] at hv;have t0:ad T1 0=a:=(hs1.at_ 0 zU).trans (zV (aD hl g0));by_cases hi:i<ls.length
  ·have hii:(i:Int)<(ls.length:Int):=zO;obtain ⟨cs,⟨w,rfl,hr⟩,-,h2,-⟩:=(ha.mono hk1.sub).at (U7 hi);have hld:aX H1 none (au a (i*2+1))=some w:=h2 1 _ rfl;have hix:cI 2 a (.int .i64 (i:Int))=some (au a (i*2)):=SlV.idx ha .i64 i hi;have hfa:A5 1 (au a (i*2))=some (au a (i*2+1)):=ha.fa zO 1 (i*2);have e:IntKind.i64.wrap ((i:Int)+1)=((i+1:Nat):Int):=by rw [wrap_i64] <;> omega
   refine zW (jW hl1 hv t0 ha.lenV hii hi hix hfa hld) ?_;refine AnsH.eq (qO C (many:=5) (lim:=1) zF (hr.mono (zG H1)) zO) fun H2 hk2=>?_;obtain ⟨k12,_,_⟩:=zT H1 zK hk2;have k2:Kp H H2:=Kp.trans hk1 k12;have le_k2:=k2.le;cases hq:fW 5 1 (ls[i]).2 with
   | true =>
    refine zW hl1 ?_;refine ⟨?_,zK⟩;unfold mJ;rw [VO.2 ⟨_,U9 hi,hq⟩,ZG]
   | false =>
    refine zW (aE hl1 hv e) ?_;refine ⟨zK,k-1,zO,i+1,rfl,zO,fun q h hqi=>?_⟩;by_cases eq:q=i
    ·subst eq; exact hq
    ·exact hP q h zO
  ·have hii:¬ (i:Int)<(ls.length:Int):=zO;refine zW (dL hl1 hv t0 ha.lenV hii hi) ?_;refine ⟨?_,zK⟩;have e:(ls.any fun c=>fW 5 1 c.2)=false:=by
    rw [Wt];intro z hz;obtain ⟨q,hq,rfl⟩:=Wg hz;rw [hP q hq zO]; simp
   unfold mJ;rw [decide_eq_false he,YQ,e]
end
def vz {H:Heap} {b:Nat} {x y:Int} {r:Bool} (h:H.get b=some (.cells [.int .i64 x,.int .i64 y] fz r)):BR (LB .i64) fz H (.own b 0 2 2 1 true) [x,y] :=
 ⟨[_,_],Rd.own h rfl (Vb _),fun _ _ _ _ _ _ e=>by cases e; exact ⟨_,_,h⟩,rfl,fun i a hi=>by
  match i with
  | 0=>simp at hi; subst hi; exact ⟨_,rfl,rfl⟩
  | 1=>simp at hi; subst hi; exact ⟨_,rfl,rfl⟩
  | i+2=>simp at hi⟩
def Emp (H:Heap) (a e:Nat):Prop:=e<=H.next/\∀ c,a<=c->c<e->H.get c=none
def Emp.start {H:Heap} (hw:Wf H) {k:Nat}:Emp (H.up k) H.next (H.next+k):=⟨Vb _,fun c h _=>hw.fresh h⟩
def Emp.next {G H2:Heap} {a e p a':Nat} {x:Ent} (hf:Emp G a e) (hk:Kp (G.put p x) H2) (hp:p<a') (ha:a<=a'):Emp H2 a' e :=
 ⟨Vn hf.1 hk.le,fun c h1 h2=>hk.free (by rw [next_put]; exact Vq h2 hf.1) (by rw [az zO]; exact hf.2 c zO h2)⟩
def Emp.keep {G H2:Heap} {a e:Nat} (hf:Emp G a e) (hk:Kp G H2):Emp H2 a e :=
 ⟨Vn hf.1 hk.le,fun c h1 h2=>hk.free (Vq h2 hf.1) (hf.2 c h1 h2)⟩
def Emp.sub {G:Heap} {a e p:Nat} {x:Ent} (hf:Emp G a e) (h1:a<=p) (h2:p<e):Sub G (G.put p x):=aJ (hf.2 p h1 h2)
section
variable {tab:Nat->Option aA} {H:Heap} {s:AV}
end
end Go.Proofs.YteaefaohjlmjdaaGreat.Ev
namespace Go.Proofs.YteaefaohjlmjdaaGreat.Lin
def IF:gensL 2 [] [[1,1]]=[[-1,1]]/\gensR 2 [] [[1,1]]=[[1,0]]:=by
 have r:(gensU 2 [] [[1,1]]).rays.map (restF (gensL 2 [] [[1,1]]))=[[1,0]]:=by decide +kernel
 refine ⟨by decide +kernel,?_⟩;unfold gensR; rw [r]; simp
end Go.Proofs.YteaefaohjlmjdaaGreat.Lin
namespace Go.Proofs.YteaefaohjlmjdaaGreat.Ev
open Go Nn
def Emp.put {G:Heap} {a e p a':Nat} {x:Ent} (hf:Emp G a e) (hp:p<a') (ha:a<=a'):Emp (G.put p x) a' e :=
 ⟨hf.1,fun c h1 h2=>by rw [az zO]; exact hf.2 c zO h2⟩
section
variable {tab:Nat->Option aA} {H:Heap} {s:AV}
end
end Go.Proofs.YteaefaohjlmjdaaGreat.Ev
namespace Go.Proofs.YteaefaohjlmjdaaGreat.Lin
end Go.Proofs.YteaefaohjlmjdaaGreat.Lin
namespace Go.Proofs.YteaefaohjlmjdaaGreat.Ev
open Go Nn
def Rl {a b c:AV} (ha:One a) (hb:One b) (hc:One c):fJ (.agg [a,b,c])=some [a,b,c]:=by
 simp [fJ,AV.cells,ha.2,hb.2,hc.2]
def kU {b c:AV} (hb:One b) (hc:One c) (k:IntKind) (n:Int):fJ (.agg [.int k n,b,c])=some [.int k n,b,c]:=Rl (bp _ _) hb hc
section
variable {tab:Nat->Option aA} {H:Heap} {s:AV}
def jT (c:List (List Int × Bool)) (g:List (Nat × List Int)):Bool:=fF 9 (c.map fun c=>(c.1.map cC,c.2)) || mJ 9 (g.map fun c=>(c.1,c.2.map cC))
def Ft (C:Code tab) (hw:Wf H) {v:AV} {n:Nat} {c:List (List Int × Bool)} {g:List (Nat × List Int)} (hp:PolyV H v n c g) :
  Ans tab (.fn fe [v]) H fun x H'=>x=.bool (jT c g)/\Kp H H':=by
 obtain ⟨vc,vg,rfl,hc,hg⟩:=hp;have oc:=hc.one;have og:=hg.one;refine cR C.q22 zU fun T hl g0=>?_;refine zW (aE hl g0 (kU oc og)) ?_;refine AnsH.eq (qj C (n:=9) zF ((Gh hc).mono (zG H)) zO) fun H2 hk2=>?_;obtain ⟨k2,_,w2⟩:=zT H zK hk2;have d0:=hk2.get (b:=H.next) (e:=.cells [.int .i64 (n:Int),vc,vg] ak true) (cH);cases hq:fF 9 (c.map fun c=>(c.1.map cC,c.2)) with
 | true =>
  refine zW (aD hl g0) ?_;exact ⟨by unfold jT; rw [hq,Bool.true_or],zK⟩
 | false =>
  refine zW (aE hl g0 d0) ?_;refine AnsH.eq (y5 C (n:=9) zF ((FY (hg.mono k2.sub)).mono (zG H2)) zO) fun H3 hk3=>?_;have k3:Kp H H3:=k2.trans (Kp.trans zK hk3);have le_k3:=k3.le;refine zW (aD hl g0) ?_;exact ⟨by unfold jT; rw [hq,YQ],zK⟩
def HI (C:Code tab) (hw:Wf H) {v v':AV} {n n':Nat} {c c':List (List Int × Bool)} {g g':List (Nat × List Int)} (hp:PolyV H v n c g) (hp':PolyV H v' n' c' g') (hc1:c.length<1099511627776) (hc2:∀ r∈c,r.1.length<1099511627776/\∀ z∈r.1,dJ z) (hg1:g.length<1099511627776) (hg2:∀ r∈g,r.2.length<1099511627776/\∀ z∈r.2,dJ z) :
  Ans tab (.fn fP [v,v']) H fun x H'=>x=.bool (decide (n=n'/\c=c'/\g=g'))/\Kp H H':=by
 obtain ⟨vc,vg,rfl,hc,hg⟩:=hp;obtain ⟨vc',vg',rfl,hc',hg'⟩:=hp';have oc:=hc.one;have og:=hg.one;have oc':=hc'.one;have og':=hg'.one;refine bB C.q61 zU fun T hl g0 g1=>?_;by_cases hn:n=n'
 ·subst hn;refine zW (bA hl g0 g1 (kU oc og) (kU oc' og')) ?_;refine AnsH.eq (An C zF (hc.mono (zG H)) (hc'.mono (zG H)) hc1 hc2) fun H2 hk2=>?_;obtain ⟨k2,_,w2⟩:=zT H zK hk2;have d0:=hk2.get (b:=H.next) (e:=.cells [.int .i64 (n:Int),vc,vg] ak true) (cH);have d1:=hk2.get (b:=H.next+1) (e:=.cells [.int .i64 (n:Int),vc',vg'] ak true) (cH);by_cases hcc:c=c'
  ·rw [decide_eq_true hcc];refine zW (bA hl g0 g1 d0 d1) ?_;refine AnsH.eq (Am C zF ((hg.mono k2.sub).mono (zG H2)) ((hg'.mono k2.sub).mono (zG H2)) hg1 hg2) fun H3 hk3=>?_;have k3:Kp H H3:=k2.trans (Kp.trans zK hk3);have le_k3:=k3.le;refine zW (aE hl g0 g1) ?_;exact ⟨by simp [hcc],zK⟩
  ·rw [decide_eq_false hcc];refine zW (aE hl g0 g1) ?_;exact ⟨by simp [hcc],zK⟩
 ·have hn':¬ (n:Int)=(n':Int):=zO;refine zW (dL hl g0 g1 (kU oc og) (kU oc' og') hn') ?_;exact ⟨by simp [hn],zK⟩
def Tx {H:Heap} {b:Nat} {v w:AV} {x y:List Int} {p q r:Bool} (h:H.get b=some (.cells [v,.bool p,w,.bool q] t_api_Con r)) (hv:RowV H v x) (hw:RowV H w y):SlV conE t_api_Con H (.own b 0 2 2 2 true) [(x,p),(y,q)] :=
 ⟨[_,_,_,_],Rd.own h rfl (Vb _),fun _ _ _ _ _ _ e=>by cases e; exact ⟨_,_,h⟩,(Cells.one (E:=conE) ⟨v,rfl,hv⟩).append (Cells.one (E:=conE) ⟨w,rfl,hw⟩)⟩
def lB {many lim:Nat} {r:List (Bool × List Nat)} (h:fW many lim r=false):r.length<=many/\∀ z∈r,z.2.length<=lim:=by
 unfold fW at h;rw [WR,decide_eq_false_iff_not,Wt] at h;refine ⟨zO,fun z hz=>?_⟩
 have:=h.2 z hz
 simp only [decide_eq_true_eq] at this;omega
def jf {n:Nat} {l:List wI} (h:fF n l=false):l.length<=n/\∀ c∈l,c.1.length<=5/\∀ z∈c.1,z.2.length<=1:=by
 unfold fF at h;rw [WR,decide_eq_false_iff_not,Wt] at h;exact ⟨zO,fun c hc=>lB (by simpa using h.2 c hc)⟩
def A0 {n:Nat} {l:List GT} (h:mJ n l=false):l.length<=n/\∀ c∈l,c.2.length<=5/\∀ z∈c.2,z.2.length<=1:=by
 unfold mJ at h;rw [WR,decide_eq_false_iff_not,Wt] at h;exact ⟨zO,fun c hc=>lB (by simpa using h.2 c hc)⟩
def Ix {n:Nat} {l:List wI} (h:fF n l=false):∀ c∈l,rV c.1:=fun c hc=>by
 obtain ⟨h1,h2⟩:=(jf h).2 c hc;exact ⟨zO,fun z hz=>by have:=h2 z hz; omega⟩
abbrev Rj (c:wI):List Int × Bool:=(c.1.map ct,c.2)
def ND {r:List (Bool × List Nat)} (hl:∀ z∈r,Lim z.2/\z.2.length<=1):Lin.Bd (2^64) (r.map ct):=fun i=>by
 unfold Lin.at_;rw [U5];cases hi:(r.map ct)[i]? with
 | none=>simp
 | some z =>
  obtain ⟨x,hx,rfl⟩:=Va.1 (Vo hi)
  have:=Dw (n:=1) (hl x hx).1 (hl x hx).2
  unfold Bt at this;simp only [WE] at this;simp only [WJ];omega
def Jo {r:List (Bool × List Nat)} (h:wW r=true):∀ z∈r,mP z=false:=by
 simp only [wW,VG,V8,Wt,YO] at h;exact h.2
def L5 {d:Int} {n:Nat} {l:List wI} (hs:SlV conQE t_api_Con H s l) (gl:∀ r∈l,iw r.1) (hg:fF n l=false) (h4:¬ 4<d) (hn:n<=60) :
  dE d l≠0\/∃ k:Nat,d=(k:Int)/\k<=4/\SlV conE t_api_Con H s (l.map Rj)/\l.length<=n/\∀ c∈l.map Rj,c.1.length=k+1/\Lin.Bd (2^64) c.1:=by
 by_cases hc:dE d l=0
 ·refine .inr ?_;obtain ⟨h1,h2⟩:=jf hg;unfold dE at hc;split at hc
  ·omega
  split at hc
  ·omega
  split at hc
  ·omega
  split at hc
  ·omega
  rename_i q1 q2 q3 q4;have q3:∀ c∈l,wW c.1=true:=fun c hc=>by
   cases hok:wW c.1 with
   | true=>rfl
   | false=>exact absurd (VO.2 ⟨c,hc,by rw [hok]; rfl⟩) q3
  have q4:∀ c∈l,(c.1.length:Int)=d+1:=fun c hc=>by
   apply VP
   intro hn;exact q4 (VO.2 ⟨c,hc,by simpa using hn⟩)
  refine ⟨d.toNat,zO,zO,OO hs fun r hr z hz=>⟨Jo (q3 r hr) z hz,((gl r hr).1 z hz).1⟩,h1,fun c hc=>?_⟩;obtain ⟨x,hx,rfl⟩:=Va.1 hc;refine ⟨?_,ND fun z hz=>⟨((gl x hx).1 z hz).1,(h2 x hx).2 z hz⟩⟩
  have:=q4 x hx
  show (x.1.map ct).length=_;rw [Vc];omega
 ·exact .inl hc
end
end Go.Proofs.YteaefaohjlmjdaaGreat.Ev
namespace Go.Proofs.YteaefaohjlmjdaaGreat.Lin
def JP {α:Type} {P:α->V->Prop}:∀ (l:List α) (I:List V),l.Nodup->(∀ b∈l,∃ i∈I,P b i)->(∀ b∈l,∀ b'∈l,∀ i,P b i->P b' i->b=b')->l.length<=I.length
 | [],I,_,_,_=>by simp
 | b :: l,I,hn,h,hj=>by
  obtain ⟨i,hi,hp⟩:=h b (Vh ..);obtain ⟨n1,n2⟩:=XC.1 hn;have h1:=JP l (I.erase i) n2 (fun b' hb'=>by
   obtain ⟨i',hi',hp'⟩:=h b' (Vd _ hb');refine ⟨i',(List.mem_erase_of_ne fun e=>?_).2 hi',hp'⟩;rw [e] at hp'
   have:=hj b (Vh ..) b' (Vd _ hb') i hp hp'
   rw [this] at n1;exact n1 hb') fun x hx y hy=>hj x (Vd _ hx) y (Vd _ hy)
  rw [List.length_erase_of_mem hi] at h1
  have:=List.length_pos_of_mem hi
  rw [VT];omega
def QJ {d:Nat} {E I L R A B:List V} (hE:∀ a∈E,a.length=d) (hI:∀ a∈I,a.length=d) (h:DD d (· ∈ E) (· ∈ I) (· ∈ L) R) (h':DD d (· ∈ L) (· ∈ R) (· ∈ A) B) {b:V} (hb:b∈B) :
  ∃ i∈I,∀ s∈R,dot s i=0 ↔ dot s b=0:=by
 have kb:=h'.keep b hb;have ki:∀ i∈I,Keep d (· ∈ L) (· ∈ R) i:=fun i hi=>⟨hI i hi,fun l hl=>by rw [dot_comm]; exact h.lineI l hl i hi,fun r hr=>by rw [dot_comm]; exact (h.keep r hr).ge i hi⟩
 obtain ⟨z,hz,hzn⟩:=h'.off b hb;have hzb:=kb.ge z hz;have hsome:∃ i∈I,(∀ s∈R,dot s b=0->dot s i=0)/\∃ s∈R,dot s i≠0:=by
  apply VP
  intro hno;obtain ⟨act,hact⟩:∃ act,act=R.filter fun a=>decide (dot a b=0):=⟨_,rfl⟩
  have ha:∀ a∈act,a∈R/\dot a b=0:=fun a h=>by rw [hact,Vp] at h; exact ⟨h.1,of_decide_eq_true h.2⟩
  have hal:∀ a∈act,a.length=d:=fun a h1=>h.lenR a (ha a h1).1;obtain ⟨N,hN0,hN⟩:=zZ (fun s=>dot z s) I;have hyl:=uL hal;have hlen:(zQ d act).length=z.length:=hyl.trans (h.lenR z hz).symm;have hy:Keep d (· ∈ E) (· ∈ I) (mix N (zQ d act) (-1) z):=by
   refine ⟨mix_length hyl (h.lenR z hz),fun e he=>?_,fun i hi=>?_⟩
   ·rw [aT _ _ _ hlen,sn hal fun a h1=>(h.keep a (ha a h1).1).eq e he,(h.keep z hz).eq e he]
    simp
   ·rw [aT _ _ _ hlen];by_cases hs:∃ s∈R,dot s i≠0
    ·have hp:∃ s∈R,dot s b=0/\dot s i≠0:=by
      apply VP
      intro hn;exact hno ⟨i,hi,fun s hs h0=>VP fun h1=>hn ⟨s,hs,h0,h1⟩,hs⟩
     obtain ⟨s,hs,h0,h1⟩:=hp;have hpos:=(ye (x:=i) hal fun a h1=>(h.keep a (ha a h1).1).ge i hi).2 ⟨s,by rw [hact,Vp]; exact ⟨hs,by simpa using h0⟩,by rw [dot_comm]; exact h1⟩;have hb':=hN i hi;rw [dot_comm i z]
     have:=YW hpos hN0
     omega
    ·have h0:∀ s∈R,dot s i=0:=fun s hs'=>VP fun h1=>hs ⟨s,hs',h1⟩;rw [sn hal fun a h1=>by rw [dot_comm]; exact h0 a (ha a h1).1,dot_comm i z,h0 z hz]
     simp
  have h1:=(h.all _ hy).dot_nonneg (a:=b) h.lenL h.lenR (fun l hl=>by rw [dot_comm]; exact kb.eq l hl) (fun r hr=>by rw [dot_comm]; exact kb.ge r hr);rw [aT _ _ _ hlen,sn hal fun a h1=>by rw [dot_comm]; exact (ha a h1).2,dot_comm b z] at h1;omega
 obtain ⟨i,hi,hs,s0,hs0,hn0⟩:=hsome;refine ⟨i,hi,fun s hs'=>⟨fun h0=>?_,hs s hs'⟩⟩;obtain ⟨k,c,hk,hc,hsp⟩:=h'.ext b hb i (ki i hi) hs;have key:∀ s∈R,k*dot s i=c*dot s b:=fun s hs=>by
  have:=Con.dot_zero (a:=s) h'.lenL (fun r h=>h.elim) (fun x hx=>h'.lineI x hx s hs) (fun r h=>h.elim) hsp
  rw [aT _ _ _ ((hI i hi).trans kb.len.symm),YT] at this;omega
 have hc0:c≠0:=fun e=>by
  have:=key s0 hs0
  rw [e] at this;rcases VB.1 (show k*dot s0 i=0 by omega) with h1 | h1
  ·omega
  ·exact hn0 h1
 have:=key s hs'
 rw [h0] at this;rcases VB.1 (show c*dot s b=0 by omega) with h1 | h1
 ·exact absurd h1 hc0
 ·exact h1
def CH {d:Nat} {E I L R A B:List V} (hE:∀ a∈E,a.length=d) (hI:∀ a∈I,a.length=d) (h:DD d (· ∈ E) (· ∈ I) (· ∈ L) R) (h':y8 d (· ∈ L) (· ∈ R) A B):B.length<=I.length:=by
 refine JP (P:=fun b i=>∀ s∈R,dot s i=0 ↔ dot s b=0) B I (told_nodup h') (fun b hb=>QJ hE hI h h'.dd hb) fun b hb b' hb' i h1 h2=>?_
 apply VP
 intro hne;obtain ⟨s,hs,h3,h4⟩:=Hn h' hb' hb hne;exact h4 ((h1 s hs).1 ((h2 s hs).2 h3))
section
variable {n:Nat} {l:List (V × Bool)}
def own_len (h:∀ c∈l,c.1.length=n+1):(consP n (gensP n l)).length<=l.length+n+2:=by
 by_cases hs:(gensR (n+1) (eqsOf l) (ineqsOf n l)).any (fun r=>decide (0<hd1 r))=true
 ·obtain ⟨p1,p2,p3⟩:=mL hs;have t1:=gens_told (eqs_len h) (ineqs_len h);have t2:=gens_told t1.dd.lenL t1.dd.lenR;have h1:=CH (eqs_len h) (ineqs_len h) t1.dd t2;have h2:=Ev.ech_len t2.form;have h3:(ineqsOf n l).length<=l.length+1:=by
   unfold ineqsOf;rw [VT,Vc]
   have:=Wn (fun c:V × Bool=>!c.2) l
   omega
  unfold consP;rw [if_pos p3,p1,p2,Vr,Vc,Vc]
  have:=Wn (fun r:V=>!decide (r=unitC n 1)) (gensR (n+1) (gensL (n+1) (eqsOf l) (ineqsOf n l)) (gensR (n+1) (eqsOf l) (ineqsOf n l)))
  omega
 ·have e:gensP n l=[]:=by unfold gensP; rw [if_neg hs]
  rw [e];show 1<=_;omega
def span_len {g:List (Nat × V)} (hg:ValidG n g):(gensP n (consP n g)).length<=g.length+n+1:=by
 by_cases h3:g.any (fun x=>x.1 == 3)=true
 ·have e1:∀ a∈linesOf g,a.length=n+1:=fun a ha=>(hg _ (mem_lines.1 ha)).1;have e2:∀ a∈raysOf g,a.length=n+1:=fun a ha=>by obtain ⟨k,-,h⟩:=mem_rays.1 ha; exact (hg _ h).1
  have t:=gens_told e1 e2;have hl:=jh (n:=n) (g:=g) fun x hx=>(hg x hx).1;have t2:=gens_told (eqs_len hl) (ineqs_len hl);have t3:=gens_told t.dd.lenL t.dd.lenR;have hk:∀ x,gc n (consP n g) x ↔ Keep (n+1) (· ∈ gensL (n+1) (linesOf g) (raysOf g)) (· ∈ gensR (n+1) (linesOf g) (raysOf g)) x:=fun x=>by
   rw [l7 h3];refine ⟨fun h=>h.2,fun h=>⟨?_,h⟩⟩;have hc:=(CL e1 e2 t.dd t3.dd)
   have hu:Keep (n+1) (· ∈ linesOf g) (· ∈ raysOf g) (unitC n 1):=by
    refine ⟨unitC_len n 1,fun a ha=>?_,fun b hb=>?_⟩
    ·rw [dot_comm,fN];obtain ⟨-,-,q⟩:=hg _ (mem_lines.1 ha)
     have:hd1 a=0:=q (show ¬ (1:Nat)=3 by omega)
     omega
    ·rw [dot_comm,fN];obtain ⟨k,-,hm⟩:=mem_rays.1 hb;obtain ⟨-,q1,q2⟩:=hg _ hm;by_cases hk3:k=3
     ·have:0<hd1 b:=q1 hk3
      omega
     ·have:hd1 b=0:=q2 hk3
      omega
   have:=(t.dd.all _ hu).dot_nonneg (a:=x) t.dd.lenL t.dd.lenR (fun l hl=>by rw [dot_comm]; exact h.eq l hl) (fun r hr=>by rw [dot_comm]; exact h.ge r hr)
   rw [dot_comm,fN] at this;omega
  obtain ⟨q1,q2⟩:=qF t2 t3 hk;have h1:=CH e1 e2 t.dd t3;have h2:=Ev.ech_len t3.form;have h4:(raysOf g).length<=g.length:=by
   unfold raysOf;rw [Vc];exact Wn _ _
  unfold gensP;split
  ·rw [q1,q2,Vr,Vc,Vc];omega
  ·show 0<=_;omega
 ·have e:consP n g=[(unitC n (-1),false)]:=by unfold consP; rw [if_neg h3]
  rw [e,px];show 0<=_;omega
end
section
variable {n:Nat} {l m:List (V × Bool)}
def pa (hne:gensP n l≠[]):(gensR (n+1) (eqsOf l) (ineqsOf n l)).any (fun r=>decide (0<hd1 r))=true:=by
 cases hs:(gensR (n+1) (eqsOf l) (ineqsOf n l)).any (fun r=>decide (0<hd1 r)) with
 | true=>rfl
 | false=>exact absurd (by unfold gensP; rw [if_neg (by rw [hs]; decide)]) hne
def sJ (h:∀ c∈l,c.1.length=n+1):gensP n l≠[] ↔ ∃ x,gc n l x/\0<hd1 x:=by
 constructor
 ·intro hne
  have:=pa hne
  rw [VO] at this;obtain ⟨r,hr,h0⟩:=this;exact ⟨r,NK h hr,of_decide_eq_true h0⟩
 ·rintro ⟨x,hx,h0⟩ he;have hs:¬ (gensR (n+1) (eqsOf l) (ineqsOf n l)).any (fun r=>decide (0<hd1 r))=true:=fun hs=>by
   have:=(mL hs).2.2
   rw [he] at this;cases this
  have t:=gens_told (eqs_len h) (ineqs_len h);have h1:∀ r∈gensR (n+1) (eqsOf l) (ineqsOf n l),dot (unitC n 1) r=0:=fun r hr=>by
   rw [fN];have h2:=(keepP_iff.1 (NK h hr)).2.1;have h3:¬ 0<hd1 r:=fun h3=>hs (VO.2 ⟨r,hr,by simpa using h3⟩);omega
  have h2:∀ r∈gensL (n+1) (eqsOf l) (ineqsOf n l),dot (unitC n 1) r=0:=fun r hr=>t.dd.lineI r hr _ (mem_ineqs.2 (.inl rfl))
  have:=(t.dd.all x hx).dot_zero t.dd.lenL t.dd.lenR h2 h1
  rw [fN] at this;omega
def nk {c:V × Bool} {g:Nat × V}:keepsP c g=true ↔ (if c.2=true\/g.1=1 then dot c.1 g.2=0 else 0<=dot c.1 g.2):=by
 unfold keepsP;by_cases h:c.2=true\/g.1=1
 ·rw [if_pos h,if_pos (by simpa using h)]; simp
 ·rw [if_neg h,if_neg (by simpa using h)]; simp
def pk (h:∀ c∈l,c.1.length=n+1) (hne:gensP n l≠[]) {c:V × Bool}:(∀ g∈gensP n l,keepsP c g=true) ↔ De n l c:=by
 constructor
 ·intro hk x hx;have t:=gens_told (eqs_len h) (ineqs_len h);have hs:=pa hne;have e:gensP n l=(gensL (n+1) (eqsOf l) (ineqsOf n l)).map (fun r=>(1,r))++(gensR (n+1) (eqsOf l) (ineqsOf n l)).map (fun r=>(kindOf r,r)):=by
   unfold gensP; rw [if_pos hs]
  have hL:∀ r∈gensL (n+1) (eqsOf l) (ineqsOf n l),dot c.1 r=0:=fun r hr=>by
   have:=hk (1,r) (by rw [e]; exact WF _ (Va.2 ⟨r,hr,rfl⟩))
   rw [nk,if_pos (.inr rfl)] at this;exact this
  have hR:∀ r∈gensR (n+1) (eqsOf l) (ineqsOf n l),(c.2=true->dot c.1 r=0)/\0<=dot c.1 r:=fun r hr=>by
   have:=hk (kindOf r,r) (by rw [e]; exact WO _ (Va.2 ⟨r,hr,rfl⟩))
   rw [nk] at this;split at this
   ·exact ⟨fun _=>this,by simp only at this; omega⟩
   ·rename_i hc;exact ⟨fun e=>absurd (.inl e) hc,this⟩
  exact ⟨fun hb=>(t.dd.all x hx).dot_zero t.dd.lenL t.dd.lenR hL fun r hr=>(hR r hr).1 hb,(t.dd.all x hx).dot_nonneg t.dd.lenL t.dd.lenR hL fun r hr=>(hR r hr).2⟩
 ·intro hv g hg;obtain ⟨k1,k2⟩:=mM h hg;exact jd hv k1 k2
def inP (G:List (Nat × V)) (K:List (V × Bool)):Bool:=G.all fun g=>K.all fun c=>keepsP c g
def inP_iff {G:List (Nat × V)} {K:List (V × Bool)}:inP G K=true ↔ ∀ g∈G,∀ c∈K,keepsP c g=true:=by
 unfold inP;rw [Vy];exact ⟨fun h g hg=>Vy.1 (h g hg),fun h g hg=>Vy.2 (h g hg)⟩
def vC {x:V} (hx:gc n l x) (hv:∀ c∈m,De n l c):gc n m x:=by
 have:=keepP_iff.1 hx
 exact keepP_iff.2 ⟨this.1,this.2.1,fun c hc=>⟨(hv c hc x hx).1,fun _=>(hv c hc x hx).2⟩⟩
def in_iff (hl:∀ c∈l,c.1.length=n+1) (hm:∀ c∈m,c.1.length=n+1):inP (gensP n l) (consP n (gensP n m))=true ↔ (gensP n l=[]\/∀ x,gc n l x->gc n m x):=by
 rw [inP_iff];by_cases he:gensP n l=[]
 ·rw [he]; simp
 constructor
 ·intro h
  right
  have hv:∀ c∈consP n (gensP n m),De n l c:=fun c hc=>(pk hl he).1 fun g hg=>h g hg c hc;obtain ⟨x0,hx0,p0⟩:=(sJ hl).1 he;have hm0:gensP n m≠[]:=fun e=>by
   rw [e] at hv
   have:=(hv (unitC n (-1),false) (V7.2 rfl) x0 hx0).2
   rw [fN] at this;omega
  intro x hx;exact (uW hm (pa hm0) x).1 (vC hx hv)
 ·rintro (h | h)
  ·exact absurd h he
  obtain ⟨x0,hx0,p0⟩:=(sJ hl).1 he;have hm0:gensP n m≠[]:=(sJ hm).2 ⟨x0,h x0 hx0,p0⟩;intro g hg c hc;exact (pk hl he).2 (fun x hx=>se hc x ((uW hm (pa hm0) x).2 (h x hx))) g hg
structure Own (n:Nat) (K:List (V × Bool)) (G:List (Nat × V)):Prop where
 rows:∀ c∈K,c.1.length=n+1
 gens:gensP n K=G
 cons:consP n G=K
def own_of (h:∀ c∈l,c.1.length=n+1):Own n (consP n (gensP n l)) (gensP n l):=⟨jh (sK h),K9 h,rfl⟩
def Own.valid {K:List (V × Bool)} {G:List (Nat × V)} (h:Own n K G):ValidG n G:=by rw [<- h.gens]; exact yo h.rows
def Own.point {K:List (V × Bool)} {G:List (Nat × V)} (h:Own n K G) (hne:G≠[]):G.any (fun x=>x.1 == 3)=true:=by
 have:=h.gens; rw [<- this] at hne ⊢; exact Au hne
section
variable {K K' Kr:List (V × Bool)} {G G' Gr:List (Nat × V)}
end
section
variable {g g':List (Nat × V)}
def Cn (hg:ValidG n g) (h3:g.any (fun x=>x.1 == 3)=true):gensP n (consP n g)≠[]:=by
 have h4:=h3;rw [VO] at h4;obtain ⟨x,hx,e⟩:=h4;refine (sJ (jh fun x hx=>(hg x hx).1)).2 ⟨x.2,(lO hg h3 hx).1,(hg x hx).2.1 (by simpa using e)⟩
def NY (h3:¬ g.any (fun x=>x.1 == 3)=true):consP n g=[(unitC n (-1),false)]:=by
 unfold consP; rw [if_neg h3]
def KL (hg:ValidG n g):consP n (gensP n (consP n g))=consP n g:=by
 by_cases h3:g.any (fun x=>x.1 == 3)=true
 ·have e1:∀ a∈linesOf g,a.length=n+1:=fun a ha=>(hg _ (mem_lines.1 ha)).1;have e2:∀ a∈raysOf g,a.length=n+1:=fun a ha=>by obtain ⟨k,-,h⟩:=mem_rays.1 ha; exact (hg _ h).1
  have t:=gens_told e1 e2;have hl:=jh (n:=n) (g:=g) fun x hx=>(hg x hx).1;have t2:=gens_told (eqs_len hl) (ineqs_len hl);have hne:=Cn hg h3;obtain ⟨p1,p2,p3⟩:=mL (pa hne);have t3:=gens_told t2.dd.lenL t2.dd.lenR;have hk:∀ y,Keep (n+1) (· ∈ gensL (n+1) (eqsOf (consP n g)) (ineqsOf n (consP n g))) (· ∈ gensR (n+1) (eqsOf (consP n g)) (ineqsOf n (consP n g))) y ↔ Keep (n+1) (· ∈ linesOf g) (· ∈ raysOf g) y:=fun y=>by
   constructor
   ·intro hy;have key:∀ x,gc n (consP n g) x->0<=dot y x:=fun x hx=>(t2.dd.all x hx).dot_nonneg t2.dd.lenL t2.dd.lenR (fun l hl=>by rw [dot_comm]; exact hy.eq l hl) (fun r hr=>by rw [dot_comm]; exact hy.ge r hr);refine ⟨hy.len,fun a ha=>?_,fun b hb=>?_⟩
    ·obtain ⟨q1,q2⟩:=lO hg h3 (mem_lines.1 ha);have r1:=key _ q1;have r2:=key _ (q2 rfl);rw [dot_scl] at r2;rw [dot_comm];simp only at r1 r2;omega
    ·obtain ⟨k,-,hm⟩:=mem_rays.1 hb
     have:=key _ (lO hg h3 hm).1
     rw [dot_comm]; exact this
   ·intro hy;have hc:=t.dd.all y hy;have key:∀ x,gc n (consP n g) x->0<=dot x y:=fun x hx=>by
     have:=((l7 h3 x).1 hx).2
     exact hc.dot_nonneg t.dd.lenL t.dd.lenR (fun l hl=>by rw [dot_comm]; exact this.eq l hl) (fun r hr=>by rw [dot_comm]; exact this.ge r hr)
    refine ⟨hy.len,fun a ha=>?_,fun b hb=>?_⟩
    ·obtain ⟨q1,q2⟩:=Og hl ha;have r1:=key _ q1;have r2:=key _ q2;rw [ee] at r2;omega
    ·exact key _ (NK hl hb)
  obtain ⟨u1,u2⟩:=qF t3 t hk;show (if (gensP n (consP n g)).any (fun x=>x.1 == 3)=true then _ else _)=(if g.any (fun x=>x.1 == 3)=true then _ else _);rw [if_pos p3,if_pos h3,p1,p2,u1,u2]
 ·rw [NY h3,px]; rfl
def own_span (hg:ValidG n g):Own n (consP n g) (gensP n (consP n g)):=⟨jh fun x hx=>(hg x hx).1,rfl,KL hg⟩
def P7 (hg:ValidG n g) (h3:g=[]\/g.any (fun x=>x.1 == 3)=true) {K:List (V × Bool)} (hK:∀ c∈K,c.1.length=n+1):inP (gensP n (consP n g)) K=inP g K:=by
 rcases h3 with rfl | h3
 ·rw [show consP n []=[(unitC n (-1),false)] from rfl,px]
 have e1:∀ a∈linesOf g,a.length=n+1:=fun a ha=>(hg _ (mem_lines.1 ha)).1;have e2:∀ a∈raysOf g,a.length=n+1:=fun a ha=>by obtain ⟨k,-,h⟩:=mem_rays.1 ha; exact (hg _ h).1
 have t:=gens_told e1 e2;have hl:=jh (n:=n) (g:=g) fun x hx=>(hg x hx).1;rw [Wz,inP_iff,inP_iff];constructor
 ·intro h x hx c hc;have hv:=(pk hl (Cn hg h3)).1 fun g hg=>h g hg c hc;obtain ⟨q1,q2⟩:=lO hg h3 hx;exact jd hv q1 q2
 ·intro h x hx c hc;have hv:De n (consP n g) c:=fun y hy=>by
   have hk:=((l7 h3 y).1 hy).2;have kL:∀ r∈linesOf g,dot c.1 r=0:=fun r hr=>by
    have:=h _ (mem_lines.1 hr) c hc
    rw [nk,if_pos (.inr rfl)] at this;exact this
   have kR:∀ r∈raysOf g,(c.2=true->dot c.1 r=0)/\0<=dot c.1 r:=fun r hr=>by
    obtain ⟨k,hk,hm⟩:=mem_rays.1 hr
    have:=h _ hm c hc
    rw [nk] at this;split at this
    ·exact ⟨fun _=>this,by simp only at this; omega⟩
    ·rename_i q;exact ⟨fun e=>absurd (.inl e) q,this⟩
   have k1:Keep (n+1) (· ∈ linesOf g) (· ∈ raysOf g) c.1:=⟨hK c hc,fun a ha=>by rw [dot_comm]; exact kL a ha,fun b hb=>by rw [dot_comm]; exact (kR b hb).2⟩
   have p1:0<=dot c.1 y:=by
    have:=(t.dd.all _ k1).dot_nonneg (a:=y) t.dd.lenL t.dd.lenR (fun l hl=>by rw [dot_comm]; exact hk.eq l hl) (fun r hr=>by rw [dot_comm]; exact hk.ge r hr)
    rw [dot_comm]; exact this
   refine ⟨fun hb=>?_,p1⟩;have k2:Keep (n+1) (· ∈ linesOf g) (· ∈ raysOf g) (scl (-1) c.1):=⟨ah (hK c hc),fun a ha=>by rw [dot_scl,dot_comm,kL a ha]; rfl,fun b hb'=>by rw [dot_scl,dot_comm,(kR b hb').1 hb]; exact Xi _⟩
   have:=(t.dd.all _ k2).dot_nonneg (a:=y) t.dd.lenL t.dd.lenR (fun l hl=>by rw [dot_comm]; exact hk.eq l hl) (fun r hr=>by rw [dot_comm]; exact hk.ge r hr)
   rw [dot_scl,dot_comm] at this;omega
  obtain ⟨q1,q2⟩:=mM hl hx;exact jd hv q1 q2
end
section
variable {K K' Kr:List (V × Bool)} {G G' Gr:List (Nat × V)}
end
end
end Go.Proofs.YteaefaohjlmjdaaGreat.Lin
