/- A part. -/
import Derived.Test.YteaefaohjlmjdaaGreatA0
import Derived.Test.YteaefaohjlmjdaaGreatPoly2
import Derived.Test.YteaefaohjlmjdaaGreatN38
import Derived.Test.YteaefaohjlmjdaaGreatN48
import Derived.WideShapes
import Derived.Test.YteaefaohjlmjdaaGreatEvDraw5
import Derived.KernelRfl
import Derived.WalkKit
import Derived.ProofKit
import Derived.Test.YteaefaohjlmjdaaGreatProg
import Derived.Lib.Walk
import Derived.Lib.SliceRun
import Derived.Lib.JoinLaws
import Derived.Lib.AppendZeros
import Derived.Lib.AppendZerosOnto
import Derived.Lib.Overlaps
import Derived.Laws.Externs
import Derived.Laws.IdiomCopy
import Derived.Laws.NewBlocks
import Derived.Shelf.RegionOpenPlain
import Derived.Shelf.SlSortCmp.NoneTotal
import Derived.Ground.SlsfProg
set_option linter.all false
namespace Go.Proofs.YteaefaohjlmjdaaGreat.Ev
open Go Nn
section
variable {tab:Nat->Option aA} {H:Heap}
def P7 (H:Heap) (v:AV) (d:Int):Prop :=
 (∃ a,v=.tup [a,.bool false]/\U4 a) \/
 ∃ (n:Nat) (p:AV) (K:List (List Int × Bool)) (G:List (Nat × List Int)),d=(n:Int)/\n<=3/\v=.tup [p,.bool true]/\PolyV H p n K G/\PolyOK n 64 64 K G/\K.length<=9/\G.length<=9
set_option maxHeartbeats 4000000 in
def Jj (C:Code tab) (hw:Wf H) {s1:AV} {d:Int} {l:List xA} (hs:SlV conQE t_api_Con H s1 l) (gl:∀ r∈l,dZ r.1) :
  Ans tab (.fn gy [.int .i64 d,s1]) H fun v H'=>P7 H' v d/\Kp H H':=by
 refine bA C.q2 zU fun T hl a e=>?_;refine zW (aD hl a e) ?_;refine AnsH.eq (qJ C (n:=6) zF (hs.mono (zG H)) zO) fun H2 F=>?_;obtain ⟨k2,_,M⟩:=zT H zK F;have d0:H2.get H.next=some (.cells [.int .i64 0,.nilSl,.nilSl] am true):=F.get (cC)
 have ae:=M _ _ d0;cases q1:fT 6 l with
 | true =>
  refine zW (bB hl a e d0 @jj) ?_;exact ⟨.inl ⟨_,rfl,EW⟩,zK⟩
 | false =>
 by_cases q3:3<d
 ·refine zW (dj hl a e d0 q3 @jj) ?_;exact ⟨.inl ⟨_,rfl,EW⟩,zK⟩
 refine zW (aO hl a e q3) ?_;refine AnsH.use (Pc C zF ((hs.mono k2.sub).mono (zG H2)) gl q1 q3) ?_;rintro v f ⟨q,p,z,rfl,⟨x,u,w,rfl,Y,Z⟩,S⟩;obtain ⟨I,_,_⟩:=zT H2 zK q;have J:Kp H f:=k2.trans I;have ab:=J.le;have w4:=J.wf;have n4:H2.next+9<=f.next:=q.le
 have A:f.get (H2.next+6)=none:=q.free (show H2.next+6<H2.next+9 by omega) (M.fresh (b:=H2.next+6) zO);refine zW (aO hl a e @jj) ?_;obtain ⟨G4,h⟩:∃ G4,G4=(f.put (H2.next+6) (.cells [.int .i64 0,.nilSl,.nilSl] am true)).put (H2.next+6) (.cells [.int .i64 x,u,w] am true):=⟨_,rfl⟩
 have L:Sub f G4:=by rw [h]; exact (aG A).put A _
 have s:Kp H2 G4:=by rw [h]; exact (I.put zO zO).put zO (by rw [next_put]; omega)
 have dp:G4.get (H2.next+6)=some (.cells [.int .i64 x,u,w] am true):=by rw [h]; exact al _ _ _
 rw [<- h];clear h;have aa:=s.wf;have U:Kp H G4:=k2.trans s;have o:=s.get d0;refine TX (fun T'=>T'.length=29/\ad T' 4=.ptr H.next 0/\ad T' 6=.ptr (H2.next+6) 0/\ad T' 7=.int .i64 z) (zV (aD hl a e)) ?_;clear hl;rintro T' ⟨hl,t4,j,k⟩;refine aF ?_;by_cases y:z=0
 ·subst y;obtain ⟨K,G,n,rfl,V,⟨vc,vg,R,hc,hg⟩,Q,lK,lG⟩:=S rfl;cases R;have B:=hc.mono L;have D:=hg.mono L;refine zX (fX hl a e t4 j k dp @ap) ?_;refine AnsH.eq (yU C (n:=n) zF ⟨u,w,rfl,B.mono (zG G4),D.mono (zG G4)⟩) fun m P=>?_;obtain ⟨i,_,w6⟩:=zT G4 zK P;have g:=i.get o;have t:=i.get dp;have W:=hc.one;have X:=hg.one;have kB:Kp H m:=U.trans i;have ah:=w6 _ _ g;cases hL:(mZ K G || decide (4<n)) with
  | true =>
   refine zX (ia hl a e t4 j k dp t g @ap @jj) ?_;exact ⟨.inl ⟨_,rfl,⟨_,_,_,rfl,W,X⟩⟩,zK⟩
  | false =>
   rw [Yq] at hL;obtain ⟨⟨N,O⟩,a3,a4⟩:=Ft hL.1;have p1:PolyOK n 64 64 K G:=⟨Q,zO,.inl zO,zO,fun c hc=>(O c hc).2,fun x hx=>(a4 x hx).2,zO,zO⟩
   refine zX (ia hl a e t4 j k dp t g @ap @jj) ?_;refine ⟨.inr ⟨n,_,K,G,rfl,V,rfl,⟨u,w,rfl,?_,?_⟩,p1,N,a3⟩,zK⟩
   ·have m3:NoTy (t_api_Con :: conE.tys) m H.next:=NoTy.ty g zU
    exact SlV.monoT (E:=conE) zS (B.mono i.sub)
   ·have m3:NoTy (ag :: genE.tys) m H.next:=NoTy.ty g zU
    exact SlV.monoT (E:=genE) zS (D.mono i.sub)
 ·refine zX (ia hl a e t4 j k dp o y @ap @jj) ?_;have af:=aa _ _ o;exact ⟨.inl ⟨_,rfl,⟨_,_,_,rfl,Y,Z⟩⟩,zK⟩
end
end Go.Proofs.YteaefaohjlmjdaaGreat.Ev
namespace Go.Proofs.YteaefaohjlmjdaaGreat.Lin
def g37:gensP 1 [([-3,1],false),([7,-1],false)]=[(3,[1,3]),(3,[1,7])]:=by
 have r:(gensU 2 [] [[1,0],[-3,1],[7,-1]]).rays.map (restF (gensL 2 [] [[1,0],[-3,1],[7,-1]]))=[[1,3],[1,7]]:=by decide +kernel
 have e:gensL 2 [] [[1,0],[-3,1],[7,-1]]=[]:=by decide +kernel
 have g:gensR 2 [] [[1,0],[-3,1],[7,-1]]=[[1,3],[1,7]]:=by
  unfold gensR;rw [r]; simp [List.mergeSort,List.MergeSort.Internal.splitInTwo,cmpV]
 have h1:eqsOf ([([-3,1],false),([7,-1],false)]:List (V × Bool))=[]:=rfl;have h2:ineqsOf 1 ([([-3,1],false),([7,-1],false)]:List (V × Bool))=[[1,0],[-3,1],[7,-1]]:=rfl;unfold gensP;rw [h1,h2,e,g];rfl
def g38:gensP 1 [([-3,1],false),([8,-1],false)]=[(3,[1,3]),(3,[1,8])]:=by
 have r:(gensU 2 [] [[1,0],[-3,1],[8,-1]]).rays.map (restF (gensL 2 [] [[1,0],[-3,1],[8,-1]]))=[[1,3],[1,8]]:=by decide +kernel
 have e:gensL 2 [] [[1,0],[-3,1],[8,-1]]=[]:=by decide +kernel
 have g:gensR 2 [] [[1,0],[-3,1],[8,-1]]=[[1,3],[1,8]]:=by
  unfold gensR;rw [r]; simp [List.mergeSort,List.MergeSort.Internal.splitInTwo,cmpV]
 have h1:eqsOf ([([-3,1],false),([8,-1],false)]:List (V × Bool))=[]:=rfl;have h2:ineqsOf 1 ([([-3,1],false),([8,-1],false)]:List (V × Bool))=[[1,0],[-3,1],[8,-1]]:=rfl;unfold gensP;rw [h1,h2,e,g];rfl
def k37:consP 1 [(3,[1,3]),(3,[1,7])]=[([-3,1],false),([7,-1],false)]:=by
 have r:(gensU 2 [] [[1,3],[1,7]]).rays.map (restF (gensL 2 [] [[1,3],[1,7]]))=[[7,-1],[-3,1]]:=by decide +kernel
 have e:gensL 2 [] [[1,3],[1,7]]=[]:=by decide +kernel
 have g:gensR 2 [] [[1,3],[1,7]]=[[-3,1],[7,-1]]:=by
  unfold gensR;rw [r]; simp [List.mergeSort,List.MergeSort.Internal.splitInTwo,cmpV]
 have h1:linesOf ([(3,[1,3]),(3,[1,7])]:List (Nat × V))=[]:=rfl;have h2:raysOf ([(3,[1,3]),(3,[1,7])]:List (Nat × V))=[[1,3],[1,7]]:=rfl;unfold consP;rw [h1,h2,e,g];decide
def k38:consP 1 [(3,[1,3]),(3,[1,8])]=[([-3,1],false),([8,-1],false)]:=by
 have r:(gensU 2 [] [[1,3],[1,8]]).rays.map (restF (gensL 2 [] [[1,3],[1,8]]))=[[8,-1],[-3,1]]:=by decide +kernel
 have e:gensL 2 [] [[1,3],[1,8]]=[]:=by decide +kernel
 have g:gensR 2 [] [[1,3],[1,8]]=[[-3,1],[8,-1]]:=by
  unfold gensR;rw [r]; simp [List.mergeSort,List.MergeSort.Internal.splitInTwo,cmpV]
 have h1:linesOf ([(3,[1,3]),(3,[1,8])]:List (Nat × V))=[]:=rfl;have h2:raysOf ([(3,[1,3]),(3,[1,8])]:List (Nat × V))=[[1,3],[1,8]]:=rfl;unfold consP;rw [h1,h2,e,g];decide
def k3478:consP 1 [(3,[1,3]),(3,[1,4]),(3,[1,7]),(3,[1,8])]=[([-3,1],false),([8,-1],false)]:=by
 have r:(gensU 2 [] [[1,3],[1,4],[1,7],[1,8]]).rays.map (restF (gensL 2 [] [[1,3],[1,4],[1,7],[1,8]]))=[[-3,1],[8,-1]]:=by decide +kernel
 have e:gensL 2 [] [[1,3],[1,4],[1,7],[1,8]]=[]:=by decide +kernel
 have g:gensR 2 [] [[1,3],[1,4],[1,7],[1,8]]=[[-3,1],[8,-1]]:=by
  unfold gensR;rw [r]; simp [List.mergeSort,List.MergeSort.Internal.splitInTwo,cmpV]
 have h1:linesOf ([(3,[1,3]),(3,[1,4]),(3,[1,7]),(3,[1,8])]:List (Nat × V))=[]:=rfl;have h2:raysOf ([(3,[1,3]),(3,[1,4]),(3,[1,7]),(3,[1,8])]:List (Nat × V))=[[1,3],[1,4],[1,7],[1,8]]:=rfl;unfold consP;rw [h1,h2,e,g];decide
end Go.Proofs.YteaefaohjlmjdaaGreat.Lin
namespace Go.Proofs.YteaefaohjlmjdaaGreat.Ev
open Go Nn
def ok37:PolyOK 1 4 4 [([-3,1],false),([7,-1],false)] [(3,[1,3]),(3,[1,7])]:=ok1 Lin.g37 Lin.k37 (by decide)
def ok38:PolyOK 1 4 4 [([-3,1],false),([8,-1],false)] [(3,[1,3]),(3,[1,8])]:=ok1 Lin.g38 Lin.k38 (by decide)
def Uw:putL 1 0 [1,2] false 0 false 0 [(3,[1,1]),(3,[1,3])]=[(3,[1,3]),(3,[1,7])]:=by decide
def Uv:putL 1 0 [1,2] false 0 false 1 [(3,[1,1]),(3,[1,3])]=[(3,[1,3]),(3,[1,4]),(3,[1,7]),(3,[1,8])]:=by decide
section
variable {tab:Nat->Option aA} {H:Heap}
def Vq:Lin.Bd (2^2) ([1,2]:List Int):=fun i=>match i with
 | 0=>by decide
 | 1=>by decide
 | i+2=>xq _
def Rj {x y:Int} (h:x<=y):eM false (bF x) false (bF y)=true:=by
 have hb:∀ (w:Int),uW false (bF w)=true:=fun w=>by unfold uW; rw [xx]; rfl
 unfold eM;rw [hb x,hb y,vp,vp,decide_eq_true h]; rfl
def Dr (C:Code tab) (l:Wf H) {v w i:AV} {b:Int} {K':List (List Int × Bool)} {P G':List (Nat × List Int)} (hp:PolyV H v 1 [([-1,1],false),([3,-1],false)] [(3,[1,1]),(3,[1,3])]) (ha:RowV H w [1,2]) (j:ItvV H i false 0 false b) (hb:b=0\/b=1) (a:putL 1 0 [1,2] false 0 false b [(3,[1,1]),(3,[1,3])]=P) (c:Lin.consP 1 P=K') (ok:PolyOK 1 4 4 K' G') :
  Ans tab (.fn kU [v,.int .i64 0,w,i]) H fun r H'=>(∃ d g,r=.tup [.agg [.int .i64 1,d,g],.int .i64 0]/\SlV conE t_api_Con H' d K'/\SlV genE ag H' g G')/\Kp H H':=by
 have bb:Bt 2 b:=by show b.natAbs<2^2; omega
 have hm:eM false (bF 0) false (bF b)=true:=Rj zO;have l1:=ok.lenK;have h:=wH C (x:=0) (n:=1) (e:=4) (f:=4) (ea:=2) (ez:=2) l hp Va ha rfl Vq j hm (Bt.zero 2) bb zO zO (by decide) zO (by decide) (by rw [a,c]; exact .inl l1);rw [a] at h;refine h.mono ?_;rintro r H' ⟨hs,k⟩;have hm:py H' r 1 G':=by
  unfold xz at hs;rw [c,ok.own.gens] at hs;rcases hs with ⟨-,h⟩ | h
  ·omega
  ·exact h
 exact ⟨Uz hm ok,k⟩
set_option maxHeartbeats 4000000 in
def GO (C:Code tab) (hw:Wf H):Ans tab (.fn fI []) H fun v H'=>v=.bool true/\Kp H H':=by
 refine Vi C.q1 fun T hl=>?_;refine zW hl ?_;refine AnsH.use (oH C (a:=1) (b:=3) zF (by decide) (by decide) Lin.g13 Lin.k13 (by decide) (by decide)) ?_;rintro _ H2 ⟨⟨J,K,rfl,hc,hg⟩,S⟩;obtain ⟨k2,_,w2⟩:=zT H zK S;have oc:=hc.one;have og:=hg.one;have n2:H.next+4<=H2.next:=S.le
 have f2:H2.get (H.next+2)=none:=S.free (show H.next+2<H.next+4 by omega) (hw.fresh (b:=H.next+2) zO);obtain ⟨G2,I⟩:∃ G2,G2=(H2.put (H.next+2) (.cells [.int .i64 0,.nilSl,.nilSl] am true)).put (H.next+2) (.cells [.int .i64 ((1:Nat):Int),J,K] am true):=⟨_,rfl⟩
 have s2:Sub H2 G2:=by rw [I]; exact (aG f2).put f2 _
 have aL:Kp H G2:=by rw [I]; exact zK
 have aM:=aL.wf;have f:G2.get (H.next+2)=some (.cells [.int .i64 ((1:Nat):Int),J,K] am true):=by rw [I]; exact al _ _ _
 have ae:=hc.mono s2;have aq:=hg.mono s2;obtain ⟨P,hP⟩:∃ P,P=H.next+2:=⟨_,rfl⟩
 have a1:=aM _ _ f;refine zW (aD hl @jj @aw) ?_;rw [<- I,<- hP];rw [<- hP] at f a1;refine aF ?_;refine zD (aD hl f @ap) ?_;have e0:Emp (G2.up 11) G2.next (G2.next+11):=Emp.start aM
 refine AnsH.use (AN C (l:=[1,2]) zF (wt (by refine vH ?_; rfl)) (by simp) (by simp)) ?_;rintro v3 H3 ⟨r3,U⟩;obtain ⟨k3,_,w3⟩:=zT G2 zK U;have e3:Emp H3 (G2.next+2) (G2.next+11):=(e0.put (p:=G2.next+1) zO zO).keep U;have o3:=r3.one;have N:=k3.get f;refine zD (aO hl f N @ap) ?_;refine AnsH.use (GM C (a:=0) (b:=0) zF (by decide) (by decide) (by decide)) ?_;rintro vi q ⟨ay,aC⟩;obtain ⟨W,_,_⟩:=zT H3 zK aC;have k:Kp G2 q:=k3.trans W;have bb:=k.le;have w4:=k.wf;have e4:Emp q (G2.next+2) (G2.next+11):=e3.keep W;have ab:=k.get f;obtain ⟨bi,bg,a9,a7,a5⟩:=id ay;refine zD (bB hl f N ab @ap) ?_;refine AnsH.use (Dr C (b:=0) zF ⟨J,K,rfl,(ae.mono k.sub).mono (Kp.sub (H:=q) zK),(aq.mono k.sub).mono (Kp.sub (H:=q) zK)⟩ (r3.mono W.sub) ay (.inl rfl) Uw Lin.k37 ok37) ?_;rintro _ z ⟨⟨va,Z,rfl,aj,ax⟩,aE⟩;obtain ⟨aJ,_,_⟩:=zT q zK aE;have k5:Kp G2 z:=k.trans aJ;have bc:=k5.le;have w5:=k5.wf;have e5:Emp z (G2.next+2) (G2.next+11):=e4.keep aJ;have n5:=e5.1;have oa:=aj.one;have ob:=ax.one;have f5:=e5.2 (G2.next+8) zO zO;obtain ⟨c,t⟩:∃ c,c=(z.put (G2.next+8) (.cells [.int .i64 0,.nilSl,.nilSl] am true)).put (G2.next+8) (.cells [.int .i64 1,va,Z] am true):=⟨_,rfl⟩
 have s5:Sub z c:=by rw [t]; exact (aG f5).put f5 _
 have y:Kp G2 c:=by rw [t]; exact zK
 have aN:=y.wf;have L:c.get (G2.next+8)=some (.cells [.int .i64 1,va,Z] am true):=by rw [t]; exact al _ _ _
 obtain ⟨A,hA⟩:∃ A,A=G2.next+8:=⟨_,rfl⟩
 have aZ:=aN _ _ L;have h:=y.get f;refine zD (fo hl f N ab @jj @aw @ap) ?_;rw [<- t,<- hA];rw [<- hA] at L aZ;clear t e5 e4 e3 f5 r3 U aC aE;have af:=ae.mono y.sub;have ar:=aq.mono y.sub;have aP:=aj.mono s5;have aR:=ax.mono s5;refine aF ?_;refine zD (aD hl h @ap) ?_;have e6:Emp (c.up 11) c.next (c.next+11):=Emp.start aN
 refine AnsH.use (AN C (l:=[1,2]) zF (wt (by refine vH ?_; rfl)) (by simp) (by simp)) ?_;rintro v6 H6 ⟨r6,V⟩;obtain ⟨k6,_,w6⟩:=zT c zK V;have e6:Emp H6 (c.next+2) (c.next+11):=(e6.put (p:=c.next+1) zO zO).keep V;have o6:=r6.one;have O:=k6.get h;refine zD (aO hl h O @ap) ?_;refine AnsH.use (GM C (a:=0) (b:=1) zF (by decide) (by decide) (by decide)) ?_;rintro vj r ⟨aB,aH⟩;obtain ⟨X,_,_⟩:=zT H6 zK aH;have m:Kp c r:=k6.trans X;have bd:=m.le;have w7:=m.wf;have e7:Emp r (c.next+2) (c.next+11):=e6.keep X;have ad:=m.get h;obtain ⟨bj,bh,ba,a8,a6⟩:=id aB;refine zD (bB hl h O ad @ap) ?_;refine AnsH.use (Dr C (b:=1) zF ⟨J,K,rfl,(af.mono m.sub).mono (Kp.sub (H:=r) zK),(ar.mono m.sub).mono (Kp.sub (H:=r) zK)⟩ (r6.mono X.sub) aB (.inr rfl) Uv Lin.k3478 ok38) ?_;rintro _ B ⟨⟨vd,ve,rfl,ao,hge⟩,aI⟩;obtain ⟨aK,_,_⟩:=zT r zK aI;have k8:Kp c B:=m.trans aK;have bf:=k8.le;have w8:=k8.wf;have Q:Emp B (c.next+2) (c.next+11):=e7.keep aK;have n8:=Q.1;have od:=ao.one;have oe:=hge.one;have R:=Q.2 (c.next+8) zO zO;obtain ⟨d,u⟩:∃ d,d=(B.put (c.next+8) (.cells [.int .i64 0,.nilSl,.nilSl] am true)).put (c.next+8) (.cells [.int .i64 1,vd,ve] am true):=⟨_,rfl⟩
 have s8:Sub B d:=by rw [u]; exact (aG R).put R _
 have g:Kp c d:=by rw [u]; exact zK
 have a2:=g.wf;have e:d.get (c.next+8)=some (.cells [.int .i64 1,vd,ve] am true):=by rw [u]; exact al _ _ _
 obtain ⟨a3,hB⟩:∃ A,A=c.next+8:=⟨_,rfl⟩
 have a0:=a2 _ _ e;have j:=g.get h;have i:=g.get L;refine zD (fo hl h O ad @jj @aw @ap) ?_;rw [<- u,<- hB];rw [<- hB] at e a0;clear u Q e7 e6 R r6 V aH aI;have a4:=af.mono g.sub;have w:=ar.mono g.sub;have aQ:=aP.mono g.sub;have aS:=aR.mono g.sub;have aT:=ao.mono s8;have aU:=hge.mono s8;have kT:Kp H d:=aL.trans (y.trans g);have z2:((2:Nat):Int)=2:=rfl;refine aF ?_;refine zX (fo hl j i e w.lenV z2 @ap) ?_;refine AnsH.use (oH C (a:=3) (b:=7) zF (by decide) (by decide) Lin.g37 Lin.k37 (by decide) (by decide)) ?_;rintro _ D ⟨⟨v1,v2,rfl,ag,au⟩,aV⟩;obtain ⟨o,_,w9⟩:=zT d zK aV;have o1:=ag.one;have o2:=au.one;have G:=o.get j;have E:=o.get i;have F:=o.get e;refine zX (oK hl j i e G E F w.lenV z2 @ap) ?_;refine AnsH.eq (GN C (n:=1) (n':=1) zF ⟨va,Z,rfl,(aQ.mono o.sub).mono (Kp.sub (H:=D) zK),(aS.mono o.sub).mono (Kp.sub (H:=D) zK)⟩ ⟨v1,v2,rfl,ag.mono (Kp.sub (H:=D) zK),au.mono (Kp.sub (H:=D) zK)⟩ (by decide) ok37.smK (by decide) ok37.smG) fun HA aW=>?_;rw [decide_eq_true ⟨rfl,rfl,rfl⟩];have Y:Kp d HA:=o.trans (Kp.trans zK aW);have wA:=Y.wf;have M:=Y.get e;refine zX (ia hl j i e G E F M w.lenV z2 @ap) ?_;refine AnsH.use (oH C (a:=3) (b:=8) zF (by decide) (by decide) Lin.g38 Lin.k38 (by decide) (by decide)) ?_;rintro _ s ⟨⟨v4,v5,rfl,ah,av⟩,aX⟩;have x:Kp d s:=Y.trans (Kp.trans zK aX);have wB:=x.wf;have o4:=ah.one;have o5:=av.one;have aa:=x.get e;refine zX (qQ hl j i e G E F M aa w.lenV z2 @ap) ?_;refine AnsH.eq (GN C (n:=1) (n':=1) zF ⟨vd,ve,rfl,(aT.mono x.sub).mono (Kp.sub (H:=s) zK),(aU.mono x.sub).mono (Kp.sub (H:=s) zK)⟩ ⟨v4,v5,rfl,ah.mono (Kp.sub (H:=s) zK),av.mono (Kp.sub (H:=s) zK)⟩ (by decide) ok38.smK (by decide) ok38.smG) fun HE aY=>?_;rw [decide_eq_true ⟨rfl,rfl,rfl⟩];have kE:Kp d HE:=x.trans (Kp.trans zK aY);have wE:=kE.wf;refine zX (qQ hl j i e G E F M aa w.lenV z2 @ap) ?_;exact kT.trans kE
end
section
variable {tab:Nat->Option aA} {H:Heap} {n x:Nat} {a:List Int} {K:List (List Int × Bool)} {G:List (Nat × List Int)}
def W4 (n x:Nat) (a:List Int) (G:List (Nat × List Int)):putL n x a false 0 false 0 G=G.map (Lin.mvG x a 0):=by
 have h1:∀ g:Nat × List Int,putOne x a false 0 false 0 g=[Lin.mvG x a 0 g]:=fun g=>by
  unfold putOne
  have:endsL false 0 false 0=[0]:=by decide
  rw [this]; split <;> rfl
 have h2:putTail n x false false=[]:=rfl;unfold putL;rw [h2];have h3:∀ G:List (Nat × List Int),G.flatMap (putOne x a false 0 false 0)=G.map (Lin.mvG x a 0):=fun G=>by
  induction G with
  | nil=>rfl
  | cons g G b=>rw [List.flatMap_cons,h1,b]; rfl
 rw [h3];split <;> simp
end
end Go.Proofs.YteaefaohjlmjdaaGreat.Ev
namespace Go.Proofs.YteaefaohjlmjdaaGreat.Lin
section
variable {n x:Nat} {a r:V} {K:List (V × Bool)} {G:List (Nat × V)}
def tf {c:V × Bool} {y:Nat × V} (h:keepsP c y=true):(c.2=true->dot c.1 y.2=0)/\0<=dot c.1 y.2:=by
 rw [gU] at h;split at h
 ·exact ⟨fun _=>h,zO⟩
 ·rename_i q;exact ⟨fun e=>absurd (.inl e) q,h⟩
def sL {c:V × Bool} {k:Nat} (a:k≠1) (h:(c.2=true->dot c.1 r=0)/\0<=dot c.1 r):keepsP c (k,r)=true:=by
 rw [gU];split
 ·rename_i q;rcases q with q | q
  ·exact h.1 q
  ·exact absurd q a
 ·exact h.2
def Own.pt (o:Own n K G) {d:V × Bool} (a:G≠[]) (b:∀ g∈G,keepsP d g=true) (hr:qq n K r):(d.2=true->dot d.1 r=0)/\0<=dot d.1 r :=
 (Ir o.rows (by rw [o.gens]; exact a)).1 (fun g hg=>by rw [o.gens] at hg; exact b g hg) r hr
def Own.ne (o:Own n K G) (hr:qq n K r) (h0:0<hd1 r):G≠[]:=by
 have:=(yn o.rows).2 ⟨r,hr,h0⟩
 rw [o.gens] at this; exact this
def U2 (n x:Nat) (a:V) (z:Int) (c:V × Bool):V × Bool:=(mix 1 (Xv x a c).1 (c.1.getD (x+1) 0*z) (unitC n 1),c.2)
def IA {c:V × Bool} {z:Int} (hc:c.1.length=n+1) (hr:r.length=n+1) (ha:a.length=n+1) (hx:x<n):dot (U2 n x a z c).1 r=dot c.1 (mvR x a z r):=by
 obtain ⟨c,b⟩:=c;have h1:=PT (b:=b) hc hr ha hx;have h2:dot c (mvR x a 0 r)=dot (c.set (x+1) 0) r+c.getD (x+1) 0*(dot a r+hd1 r*0):=mc c r _ _ (by show c.length=_; rw [hr]; exact hc) (by have:c.length=n+1:=hc; omega);have h3:dot c (mvR x a z r)=dot (c.set (x+1) 0) r+c.getD (x+1) 0*(dot a r+hd1 r*z):=mc c r _ _ (by show c.length=_; rw [hr]; exact hc) (by have:c.length=n+1:=hc; omega);unfold U2;simp only;rw [dot_comm,aU _ _ _ (by rw [Xp hc ha,unitC_len]),dot_comm r,dot_comm r,h1,fl,h2,h3]
 grind
def Kq {c:V} {z w:Int} (hc:c.length=n+1) (hr:r.length=n+1) (hx:x<n):dot c (mvR x a z r)=dot c (mvR x a w r)+c.getD (x+1) 0*hd1 r*(z-w):=by
 have h2:dot c (mvR x a w r)=dot (c.set (x+1) 0) r+c.getD (x+1) 0*(dot a r+hd1 r*w):=mc c r _ _ (by rw [hr]; exact hc) zO;have h3:dot c (mvR x a z r)=dot (c.set (x+1) 0) r+c.getD (x+1) 0*(dot a r+hd1 r*z):=mc c r _ _ (by rw [hr]; exact hc) zO;rw [h2,h3]
 grind
def sM {c:V} {k:Int} (hc:c.length=n+1) (hx:x<n):dot c (Ev.unitX n x k)=c.getD (x+1) 0*k:=by
 unfold Ev.unitX;rw [mc c _ _ _ (by rw [Ye]; exact hc) zO,dot_comm,yu];omega
def Wl {rn rn':Bool} {lo hi z:Int} (o:Own n K G) (ha:a.length=n+1) (hx:x<n) (u:G≠[]) (h1:rn=false->lo<=z) (h2:rn'=false->z<=hi) {c:V × Bool} (hc:c∈consP n (Ev.putL n x a rn lo rn' hi G)):c.1.length=n+1/\(∀ y∈Ev.putL n x a rn lo rn' hi G,keepsP c y=true)/\∀ g∈G,keepsP (U2 n x a z c) g=true:=by
 have v:=Ev.putL_valid (n:=n) (x:=x) (a:=a) (rn:=rn) (rn':=rn') (lo:=lo) (hi:=hi) o.valid;have A:∀ g∈G,g.1=3->∀ w∈Ev.endsL rn lo rn' hi,mvG x a w g∈Ev.putL n x a rn lo rn' hi G:=fun g hg e w i=>by
  unfold Ev.putL;refine XF _ (Zi.2 ⟨g,hg,?_⟩);unfold Ev.putOne;rw [if_pos e];exact nC.2 ⟨w,i,rfl⟩
 have I:∀ g∈G,g.1≠3->mvG x a 0 g∈Ev.putL n x a rn lo rn' hi G:=fun g hg e=>by
  unfold Ev.putL;refine XF _ (Zi.2 ⟨g,hg,?_⟩);unfold Ev.putOne;rw [if_neg e];exact Ld.2 rfl
 have J:∀ y∈Ev.putTail n x rn rn',y∈Ev.putL n x a rn lo rn' hi G:=fun y hy=>by
  unfold Ev.putL;rw [if_neg u];exact XV _ hy
 have h3:(Ev.putL n x a rn lo rn' hi G).any (fun y=>y.1 == 3)=true:=by
  have:=o.point u
  rw [OL] at this ⊢;obtain ⟨g,hg,e⟩:=this;have e:g.1=3:=by simpa using e
  obtain ⟨w,i⟩:∃ w,w∈Ev.endsL rn lo rn' hi:=by
   have:=(Ev.endsL_len rn lo rn' hi).1
   exact ⟨(Ev.endsL rn lo rn' hi)[0],mQ _⟩
  exact ⟨_,A g hg e w i,by simp [mvG,e]⟩
 have hcl:=jG (n:=n) (fun y hy=>(v y hy).1) c hc;have p:∀ y∈Ev.putL n x a rn lo rn' hi G,keepsP c y=true:=fun y hy=>xM v h3 hy hc;refine ⟨hcl,p,?_⟩;intro g hg;have m:=(o.valid g hg).1;by_cases e3:g.1=3
 ·have l:=(o.valid g hg).2.1 e3;obtain ⟨k,g⟩:=g;have e3:k=3:=e3;subst e3;refine sL (by decide) ?_;rw [IA hcl m ha hx];have f:∀ w∈Ev.endsL rn lo rn' hi,(c.2=true->dot c.1 (mvR x a w g)=0)/\0<=dot c.1 (mvR x a w g):=fun w i=>tf (p _ (A _ hg rfl w i));show (c.2=true->_)/\_
  generalize j:c.1.getD (x+1) 0=b at *
  have df:∀ w,dot c.1 (mvR x a z g)=dot c.1 (mvR x a w g)+b*hd1 g*(z-w):=fun w=>by rw [<- j]; exact Kq hcl m hx
  have l:0<hd1 g:=l;have s:∀ y∈Ev.putTail n x rn rn',keepsP c y=true:=fun y hy=>p y (J y hy);cases rn <;> cases rn'
  ·have B:=h1 rfl;have C:=h2 rfl;by_cases r:lo=hi
   ·have:z=lo:=zO
    rw [this];exact f lo (by unfold Ev.endsL; simp [r])
   ·obtain ⟨d,q⟩:=f lo (by unfold Ev.endsL; simp [r]);obtain ⟨D,L⟩:=f hi (by unfold Ev.endsL; simp [r]);have d1:=df lo;have d2:=df hi;have p1:0<=z-lo:=zO;have p2:0<=hi-z:=zO;constructor
    ·intro hb;have E:=d hb;have M:=D hb;have F:b*hd1 g*(hi-lo)=0:=by grind
     have e5:b*hd1 g=0:=by
      rcases Jv.1 F with h | h
      ·exact h
      ·omega
     rw [d1,E,e5]; omega
    ·by_cases hs:0<=b*hd1 g
     ·rw [d1]
      have:=N5 hs p1
      omega
     ·rw [d2]
      have:=N5 (show 0 <= -(b*hd1 g) by omega) p2
      have e6:b*hd1 g*(z-hi) = -(b*hd1 g)*(hi-z):=by grind
      omega
  ·have B:=h1 rfl;obtain ⟨d,q⟩:=f lo (by unfold Ev.endsL; simp);have t:=tf (s (2,Ev.unitX n x 1) (by unfold Ev.putTail; simp));rw [sM hcl hx,j] at t;have d1:=df lo;have p1:0<=z-lo:=zO;constructor
   ·intro hb
    have:=t.1 hb
    have e5:b=0:=zO;rw [d1,d hb,e5]; omega
   ·rw [d1]
    have:=N5 (N5 (show 0<=b by omega) (show 0<=hd1 g by omega)) p1
    omega
  ·have C:=h2 rfl;obtain ⟨d,q⟩:=f hi (by unfold Ev.endsL; simp);have t:=tf (s (2,Ev.unitX n x (-1)) (by unfold Ev.putTail; simp));rw [sM hcl hx,j] at t;have d1:=df hi;have p1:0<=hi-z:=zO;constructor
   ·intro hb
    have:=t.1 hb
    have e5:b=0:=zO;rw [d1,d hb,e5]; omega
   ·rw [d1]
    have:=N5 (N5 (show 0 <= -b by omega) (show 0<=hd1 g by omega)) p1
    have e6:b*hd1 g*(z-hi) = -b*hd1 g*(hi-z):=by grind
    omega
  ·obtain ⟨d,q⟩:=f 0 (by unfold Ev.endsL; simp);have t:=s (1,Ev.unitX n x 1) (by unfold Ev.putTail; simp);rw [gU,if_pos (.inr rfl)] at t;rw [sM hcl hx,j] at t;have e5:b=0:=zO;have d1:=df 0;rw [e5] at d1;constructor
   ·intro hb;rw [d1,d hb]; omega
   ·rw [d1]; omega
 ·have l:=(o.valid g hg).2.2 e3;have hs:=p _ (I g hg e3);have H:dot (U2 n x a z c).1 g.2=dot c.1 (mvG x a 0 g).2:=by
   rw [IA hcl m ha hx,Kq (w:=0) hcl m hx,l];show _=dot c.1 (mvR x a 0 g.2);omega
  rw [gU] at hs ⊢;rw [H];exact hs
end
end Go.Proofs.YteaefaohjlmjdaaGreat.Lin
namespace Go.Proofs.YteaefaohjlmjdaaGreat.Ev
open Go Nn
def Kb {l:List (Bool × List Nat)} (a:dZ l) (hg:fN 5 1 l=false) (b:tW l=true):Lin.Bd (2^64) (l.map aR)/\∀ z∈l,gG z=false/\Lim z.2 :=
 ⟨II fun z hz=>⟨(a.1 z hz).1,(lZ hg).2 z hz⟩,fun z hz=>⟨EZ b z hz,(a.1 z hz).1⟩⟩
def WP {l:List (Bool × List Nat)} {b:Bool} (h:fT 1 [(l,b)]=false):fN 5 1 l=false:=by
 unfold fT at h;rw [Yq,XW] at h
 simpa using h.2 _ (Ld.2 rfl)
def Xm {H:Heap} {b:Nat} {v:AV} {l:List (Bool × List Nat)} {e r:Bool} (h:H.get b=some (.cells [v,.bool e] t_api_Con r)) (c:SlV rawE aa H v l):SlV conQE t_api_Con H (.own b 0 1 1 2 true) [(l,e)] :=
 ⟨_,Rd.own h rfl (o0 _),fun _ _ _ _ _ _ e=>by cases e; exact ⟨_,_,h⟩,rfl,fun i a hi=>by
  match i with
  | 0=>simp at hi; subst hi; exact ⟨v,rfl,c⟩
  | i+1=>simp at hi⟩
def GF {n:Bool} {z:Bool × List Nat} (h:uW n z=true):gG z=false:=by
 unfold uW at h;cases n with
 | true =>
  obtain ⟨b,l⟩:=z;simp only [if_true,Ky,XE,decide_eq_true_eq] at h;obtain ⟨rfl,hl⟩:=h
  have:l=[]:=OK hl
  subst this; rfl
 | false=>simpa using h
def Je {n n':Bool} {z z':Bool × List Nat} (h:eM n z n' z'=true):gG z=false/\gG z'=false:=by
 unfold eM at h;rw [Ky,Ky] at h;exact ⟨GF h.1.1,GF h.1.2⟩
section
variable {tab:Nat->Option aA} {H:Heap}
def EQ (C:Code tab) (g:Wf H) {pl ph:AV} {n n':Bool} {zl zh:Bool × List Nat} {m:Nat} (a:Lb H pl zl.2) (d:Lb H ph zh.2) :
  Ans tab (.fn fF [.agg [.bool n,.bool zl.1,pl,.bool n',.bool zh.1,ph],.int .i64 (m:Int)]) H fun x H'=>x=.bool (decide (m<zl.2.length) || decide (m<zh.2.length))/\Kp H H':=by
 have f:=a.one;have e:=d.one;have bx:=CM (ai n) (ai zl.1) f (ai n') (ai zh.1) e;refine bA C.q4 zU fun T hl b c=>?_;have Vu:bf [AV.bool n,.bool zl.1,pl,.bool n',.bool zh.1,ph] 2 none=some pl:=rfl;have Vt:bf [AV.bool n,.bool zl.1,pl,.bool n',.bool zh.1,ph] 5 none=some ph:=rfl;by_cases h1:m<zl.2.length
 ·refine zW (dj hl b c bx a.lenV h1) ?_;exact ⟨rfl,zK⟩
 ·refine zW (fX hl b c bx @Vt a.lenV d.lenV h1) ?_;exact ⟨by simp,zK⟩
set_option maxHeartbeats 1000000 in
def Fk (C:Code tab) (F:Wf H) {v w pl ph:AV} {n:Nat} {c:List (List Int × Bool)} {g:List (Nat × List Int)} {l:List (Bool × List Nat)} {rn rn':Bool} {zl zh:Bool × List Nat} (hp:PolyV H v n c g) (hs:SlV rawE aa H w l) (o:Lb H pl zl.2) (k:Lb H ph zh.2) :
  Ans tab (.fn fH [v,w,.agg [.bool rn,.bool zl.1,pl,.bool rn',.bool zh.1,ph]]) H fun x H'=>x=.bool (mZ c g || decide (4<n) || decide (6<c.length) || decide (4<g.length) || fN 5 1 l || (decide (1<zl.2.length) || decide (1<zh.2.length)))/\Kp H H':=by
 obtain ⟨p,q,rfl,hc,hg⟩:=hp;have y:=hc.one;have z:=hg.one;have J:=hs.one;have B:=o.one;have A:=k.one;have bx:=CM (ai rn) (ai zl.1) B (ai rn') (ai zh.1) A;refine lC C.q3 zU fun T hl b a d=>?_;refine zW (dj hl b a d (jS y z) bx) ?_;refine AnsH.eq (yU C (n:=n) (c:=c) (g:=g) zF ⟨p,q,rfl,hc.mono (zG H),hg.mono (zG H)⟩) fun H2 j=>?_;obtain ⟨k2,_,K⟩:=zT H zK j;have d0:H2.get H.next=some (.cells [.int .i64 (n:Int),p,q] am true):=j.get (cC)
 have d1:H2.get (H.next+1)=some (.cells [.bool rn,.bool zl.1,pl,.bool rn',.bool zh.1,ph] aV true):=j.get (cC)
 generalize E:(mZ c g || decide (4<n))=q1
 cases q1 with
 | true =>
  refine zW (aO hl b a d) ?_;exact ⟨by simp,zK⟩
 | false =>
 by_cases h2:6<c.length
 ·have h:(6:Int)<(c.length:Int):=zO;refine zW (fo hl b a d d0 hc.lenV h) ?_;exact ⟨by simp [h2],zK⟩
 have h:¬ (6:Int)<(c.length:Int):=zO;by_cases h3:4<g.length
 ·have i:(4:Int)<(g.length:Int):=zO;refine zW (jU hl b a d d0 hc.lenV h hg.lenV i) ?_;exact ⟨by simp [h3],zK⟩
 have i:¬ (4:Int)<(g.length:Int):=zO;refine zW (oK hl b a d d0 hc.lenV h hg.lenV i a) ?_;refine AnsH.eq (rm C (many:=5) (lim:=1) zF ((hs.mono k2.sub).mono (zG H2)) zO) fun f s=>?_;obtain ⟨k23,_,_⟩:=zT H2 zK s;have e:Kp H f:=k2.trans k23;have I:=e.le;have w3:=e.wf;have r:=k23.get d1;cases q4:fN 5 1 l with
 | true =>
  refine zW (aO hl b a d) ?_;exact ⟨by simp,zK⟩
 | false =>
 refine zW (dj hl b a d r @jq) ?_;refine AnsH.eq (EQ C (m:=1) zF ((o.mono e.sub).mono (zG f)) ((k.mono e.sub).mono (zG f))) fun D t=>?_;obtain ⟨u,_,L⟩:=zT f zK t;have G:=e.trans u;refine zW (aO hl b a d) ?_;exact ⟨by simp [h2,h3],zK⟩
def Ru {pl ph:AV} {n n':Bool} {zl zh:Bool × List Nat} (f:Lb H pl zl.2) (e:Lb H ph zh.2) (ll:Lim zl.2) (g:Lim zh.2) (h:eM n zl n' zh=true):ItvV H (.agg [.bool n,.bool zl.1,pl,.bool n',.bool zh.1,ph]) n (aR zl) n' (aR zh)/\eM n (bF (aR zl)) n' (bF (aR zh))=true:=by
 obtain ⟨c,d⟩:=Je h;have a:=sS c ll;have b:=sS d g;have d1:decide (aR zl<0)=zl.1:=congrArg Prod.fst a;have d2:decide (aR zh<0)=zh.1:=congrArg Prod.fst b;have l1:ah (aR zl).natAbs=zl.2:=congrArg Prod.snd a;have l2:ah (aR zh).natAbs=zh.2:=congrArg Prod.snd b;refine ⟨⟨pl,ph,by rw [d1,d2],?_,?_⟩,by rw [a,b]; exact h⟩
 ·show Lb H pl (ah _);rw [l1]; exact f
 ·show Lb H ph (ah _);rw [l2]; exact e
section
variable {n x:Nat} {a:List Int} {K:List (List Int × Bool)} {G:List (Nat × List Int)}
end
end
def V5 (m:Int × Int):Bool:=decide (m.1≠0)
def A3 (m:Int × Int):Int:=if m.1≠0 then 0 else m.2
abbrev W9:=Bool × (Bool × List Nat) × Bool × (Bool × List Nat)
def Ww (a:W9):Bool:=eM a.1 a.2.1 a.2.2.1 a.2.2.2
def Xi:fQ W9 where
 sz:=6
 tys:=[ae]
 R H cs a:=∃ p q,cs=[.bool a.1,.bool a.2.1.1,p,.bool a.2.2.1,.bool a.2.2.2.1,q]/\Lb H p a.2.1.2/\Lb H q a.2.2.2.2
 pos:=zO
 len:=by rintro H cs a ⟨p,q,rfl,h,h'⟩; exact ⟨rfl,by simp [h.one.2,h'.one.2,(ai a.1).2,(ai a.2.1.1).2,(ai a.2.2.1).2,(ai a.2.2.2.1).2]⟩
 mono:=by rintro H H' cs a hs ⟨p,q,rfl,h,h'⟩; exact ⟨p,q,rfl,h.monoT hs,h'.monoT hs⟩
def W3:bF 0=(false,[]):=by
 have:ah 0=[]:=OK (by have:=bN 0; omega)
 unfold bF;show (_,ah 0)=_;rw [this]; rfl
section
variable {tab:Nat->Option aA} {H:Heap}
def W6 (C:Code tab) (a:Wf H) :
  Ans tab (.fn Wb []) H fun r H'=>r=.agg [.bool true,.bool false,.nilSl]/\Kp H H':=by
 refine Vi C.q121 fun T hl=>?_;have bb:cE [.bool false,.bool false,.nilSl] [((0,1),.bool true)]=some (.agg [.bool true,.bool false,.nilSl]):=rfl;refine zW (aD hl bb @jj) ?_;exact zK
def WA (C:Code tab) (j:Wf H) {v:AV} {m:Int × Int} (h:PlcV H v m.1 m.2) (hs:Bt 64 m.2) :
  Ans tab (.fn VW [v]) H fun r H'=>(∃ p,r=.agg [.bool (V5 m),.bool (decide (A3 m<0)),p]/\bO H' p (A3 m).natAbs)/\Kp H H':=by
 obtain ⟨be,x⟩:=m;simp only at h hs;obtain ⟨p,rfl,hp⟩:=h;have op:=hp.one;have bx:=PP (bo .i64 be) (ai (decide (x<0))) op;refine cT C.q98 zU fun T hl b=>?_;by_cases e:be=0
 ·subst e;have hb:(ah x.natAbs).length<1099511627776:=by
   have:=iN (n:=x.natAbs) (m:=64) (k:=1) hs zO
   omega
  have c:V5 (0,x)=false:=by simp [V5]
  have d:A3 (0,x)=x:=by simp [A3]
  refine zW (aO hl b bx @Aj) ?_;refine AnsH.use (Ph C (z:=x) zF ⟨p,rfl,hp.mono (zG H)⟩ hb) ?_;rintro _ H2 ⟨⟨q,rfl,g⟩,a⟩;obtain ⟨k2,_,f⟩:=zT H zK a;have l:=g.one;have d1:H2.get (H.next+1)=some (.cells [.bool false,.bool false,.nilSl] bu true):=a.get (cC);have i:=f _ _ d1;refine zW (aO hl b d1 @jj) ?_;rw [c,d];exact ⟨⟨q,rfl,g.monoT (SubT.put_ty d1 zU)⟩,zK⟩
 ·have c:V5 (be,x)=true:=by simp [V5,e]
  have d:A3 (be,x)=0:=by simp [A3,e]
  refine zW (aO hl b bx e) ?_;refine AnsH.eq (W6 C zF) fun H2 a=>?_;obtain ⟨k2,_,f⟩:=zT H zK a;have d1:H2.get (H.next+1)=some (.cells [.bool false,.bool false,.nilSl] bu true):=a.get (cC);have i:=f _ _ d1;refine zW (aO hl b d1 @jj) ?_;rw [c,d];exact ⟨⟨.nilSl,rfl,Au _⟩,zK⟩
set_option maxHeartbeats 2000000 in
def WM (C:Code tab) (F:Wf H) {v:AV} {L:List (Int × Int)} (hs:SlV Xb re H v L) (h0:0<L.length) (i:L.length<=1000) (hL:∀ p∈L,Bt 64 p.2 /\ -1<=p.1/\p.1<=1) :
  Ans tab (.fn zi [v]) H fun r H'=>(∃ m∈L,∃ M∈L,(∀ y∈L,leP m y)/\(∀ y∈L,leP y M)/\ItvV H' r (V5 m) (A3 m) (V5 M) (A3 M))/\Kp H H':=by
 refine cT C.q62 zU fun T hl a=>?_;have g:∀ p∈L,dD p.2 /\ -1<=p.1/\p.1<=1:=fun p hp=>⟨(hL p hp).1.sm zO,(hL p hp).2⟩
 refine zW (aE hl a) ?_;refine AnsH.use (V9 C zF (hs.mono (zG H)) h0 i g) ?_;rintro v2 H2 ⟨⟨m,hm,w,u⟩,j⟩;obtain ⟨k2,_,I⟩:=zT H zK j;have d0:H2.get H.next=some (.cells [.bool false,.bool false,.nilSl,.bool false,.bool false,.nilSl] aV true):=j.get (cC)
 refine zW (aE hl a) ?_;refine AnsH.use (WA C zF (w.mono (zG H2)) (hL m hm).1) ?_;rintro _ e ⟨⟨p,rfl,hp⟩,n⟩;obtain ⟨k23,_,_⟩:=zT H2 zK n;have b:=k2.trans k23;have w3:=b.wf;have d3:=k23.get d0;have op:=hp.one;refine zW (aE hl a) ?_;refine AnsH.use (Wa C zF ((hs.mono b.sub).mono (zG e)) h0 i g) ?_;rintro v4 f ⟨⟨M,h,x,t⟩,o⟩;obtain ⟨c,_,_⟩:=zT e zK o;have l:=b.trans c;have J:=l.wf;have d4:=c.get d3;refine zW (aE hl a) ?_;refine AnsH.use (WA C zF (x.mono (zG f)) (hL M h).1) ?_;rintro _ E ⟨⟨q,rfl,k⟩,s⟩;obtain ⟨d,_,_⟩:=zT f zK s;have z:=c.trans d;have A:=l.trans d;have D:=A.wf;have d5:=d.get d4;have B:=k.one;have G:=D _ _ d5;have bb:=Vj (ai (V5 m)) (ai (decide (A3 m<0))) op (ai (V5 M)) (ai (decide (A3 M<0))) B;refine zW (bB hl a bb d5 @Uq) ?_;exact ⟨⟨m,hm,M,h,u,t,p,q,rfl,(hp.mono z.sub).monoT (SubT.put_ty d5 zU),k.monoT (SubT.put_ty d5 zU)⟩,zK⟩
def Xt {z a b c d e f g h i j k l:AV} (z1 z2:AV) {zs:List AV} (hz:zs=[z,z1,z2,z,z1,z2,z,z1,z2,z,z1,z2]) (ha:One a) (hb:One b) (hc:One c) (hd:One d) (he:One e) (m:One f) (hg:One g) (hh:One h) (hi:One i) (hj:One j) (n:One k) (hl:One l):cB zs [((0,3),.agg [a,b,c]),((3,3),.agg [d,e,f]),((6,3),.agg [g,h,i]),((9,3),.agg [j,k,l])]=some [a,b,c,d,e,f,g,h,i,j,k,l]:=by
 subst hz;simp [cB,AV.cells,ha.2,hb.2,hc.2,hd.2,he.2,m.2,hg.2,hh.2,hi.2,hj.2,n.2,hl.2]
def Xx {b:Nat} {p q r s:AV} {c m2 m3 d:Int × Int} {rw:Bool} (h:H.get b=some (.cells [.int .i64 c.1,.bool (decide (c.2<0)),p,.int .i64 m2.1,.bool (decide (m2.2<0)),q,.int .i64 m3.1,.bool (decide (m3.2<0)),r,.int .i64 d.1,.bool (decide (d.2<0)),s] re rw)) (hp:bO H p c.2.natAbs) (f:bO H q m2.2.natAbs) (hr:bO H r m3.2.natAbs) (hs:bO H s d.2.natAbs):SlV Xb re H (.own b 0 4 4 3 true) [c,m2,m3,d] :=
 ⟨_,Rd.own h rfl (o0 _),fun _ _ _ _ _ _ e=>by cases e; exact ⟨_,_,h⟩,rfl,fun i a hi=>by
  match i with
  | 0=>simp at hi; subst hi; exact ⟨p,rfl,hp⟩
  | 1=>simp at hi; subst hi; exact ⟨q,rfl,f⟩
  | 2=>simp at hi; subst hi; exact ⟨r,rfl,hr⟩
  | 3=>simp at hi; subst hi; exact ⟨s,rfl,hs⟩
  | i+4=>simp at hi⟩
set_option maxHeartbeats 4000000 in
def W7 (C:Code tab) (hw:Wf H) {v w:AV} {n n' k a:Bool} {x x' y f:Int} (hv:ItvV H v n x n' x') (aJ:ItvV H w k y a f) (bx:Bt 64 x) (ax:Bt 64 x') (aB:Bt 64 y) (ay:Bt 64 f) :
  Ans tab (.fn Wc [v,w]) H fun r H'=>(∃ Q L R K,ItvV H' r Q L R K/\(Q=false->n=false/\L<=x)/\(R=false->n'=false/\x'<=K)/\Bt 64 L/\Bt 64 K/\eM Q (bF L) R (bF K)=true)/\Kp H H':=by
 obtain ⟨pl,ph,rfl,ar,aq⟩:=hv;obtain ⟨I,G,rfl,aw,av⟩:=aJ;have b1:=CM (ai n) (ai (decide (x<0))) ar.one (ai n') (ai (decide (x'<0))) aq.one;have b2:=CM (ai k) (ai (decide (y<0))) aw.one (ai a) (ai (decide (f<0))) av.one;refine bA C.q34 zU fun T hl j l=>?_;refine zW (bB hl j l b1 b2) ?_;obtain ⟨X,o⟩:∃ X,X=((((H.up 3).put H.next (.cells [.bool n,.bool (decide (x<0)),pl,.bool n',.bool (decide (x'<0)),ph] aV true)).put (H.next+1) (.cells [.bool k,.bool (decide (y<0)),I,.bool a,.bool (decide (f<0)),G] aV true)).put (H.next+2) (.cells [.bool false,.bool false,.nilSl,.bool false,.bool false,.nilSl] aV true)):=⟨_,rfl⟩
 rw [<- o];have s:Kp H X:=by rw [o]; exact zK
 have i:X.get H.next=some (.cells [.bool n,.bool (decide (x<0)),pl,.bool n',.bool (decide (x'<0)),ph] aV true):=by rw [o,au zO,au zO,al]
 have c:X.get (H.next+1)=some (.cells [.bool k,.bool (decide (y<0)),I,.bool a,.bool (decide (f<0)),G] aV true):=by rw [o,au zO,al]
 have W:X.get (H.next+2)=some (.cells [.bool false,.bool false,.nilSl,.bool false,.bool false,.nilSl] aV true):=by rw [o,al]
 have wX:=s.wf;clear o;have iv:ItvV X (.agg [.bool n,.bool (decide (x<0)),pl,.bool n',.bool (decide (x'<0)),ph]) n x n' x':=⟨pl,ph,rfl,ar.mono s.sub,aq.mono s.sub⟩
 have iw:ItvV X (.agg [.bool k,.bool (decide (y<0)),I,.bool a,.bool (decide (f<0)),G]) k y a f:=⟨I,G,rfl,aw.mono s.sub,av.mono s.sub⟩
 refine aF ?_;refine zD (fo hl j l i @c @jq @ap) ?_;refine AnsH.use (Rv C zF (iv.mono (zG X))) ?_;rintro _ H2 ⟨⟨p1,rfl,af⟩,Z⟩;obtain ⟨k2,_,w2⟩:=zT X zK Z;have d0:=k2.get i;have d1:=k2.get c;refine zD (jU hl j l i @c d0 d1 @jq @ap) ?_;refine AnsH.use (Pg C zF ((iv.mono k2.sub).mono (zG H2))) ?_;rintro _ S ⟨⟨p2,rfl,ah⟩,aC⟩;obtain ⟨k23,_,_⟩:=zT H2 zK aC;have D:=k2.trans k23;have w3:=D.wf;have u:=D.get c;refine zD (oK hl j l i @c d0 d1 u @jq @ap) ?_;refine AnsH.use (Rv C zF ((iw.mono D.sub).mono (zG S))) ?_;rintro _ U ⟨⟨p3,rfl,am⟩,aD⟩;obtain ⟨E,_,_⟩:=zT S zK aD;have F:=D.trans E;have w4:=F.wf;have f1:=F.get c;refine zD (ia hl j l i @c d0 d1 u f1 @jq @ap) ?_;refine AnsH.use (Pg C zF ((iw.mono F.sub).mono (zG U))) ?_;rintro _ N ⟨⟨p4,rfl,P⟩,aE⟩;obtain ⟨t,_,_⟩:=zT U zK aE;have k5:=F.trans t;have w5:=k5.wf;have g2:=k5.get W;have o1:=af.one;have o2:=ah.one;have o3:=am.one;have o4:=P.one;have ag:=af.mono (k23.trans (E.trans t)).sub;have aj:=ah.mono (E.trans t).sub;have ao:=am.mono t.sub;obtain ⟨d,A⟩:∃ m:Int × Int,m=((if n then -1 else 0:Int),(if n then 0 else x:Int)):=⟨_,rfl⟩
 obtain ⟨m2,B⟩:∃ m:Int × Int,m=((if n' then 1 else 0:Int),(if n' then 0 else x':Int)):=⟨_,rfl⟩
 obtain ⟨m3,ab⟩:∃ m:Int × Int,m=((if k then -1 else 0:Int),(if k then 0 else y:Int)):=⟨_,rfl⟩
 obtain ⟨g,ad⟩:∃ m:Int × Int,m=((if a then 1 else 0:Int),(if a then 0 else f:Int)):=⟨_,rfl⟩
 have q1:(if n then -1 else 0:Int)=d.1:=by rw [A]
 have r1:(if n then 0 else x:Int)=d.2:=by rw [A]
 have q2:(if n' then 1 else 0:Int)=m2.1:=by rw [B]
 have r2:(if n' then 0 else x':Int)=m2.2:=by rw [B]
 have q3:(if k then -1 else 0:Int)=m3.1:=by rw [ab]
 have r3:(if k then 0 else y:Int)=m3.2:=by rw [ab]
 have q4:(if a then 1 else 0:Int)=g.1:=by rw [ad]
 have r4:(if a then 0 else f:Int)=g.2:=by rw [ad]
 have z0:=Bt.zero 64;have hL:∀ p∈[d,m2,m3,g],Bt 64 p.2 /\ -1<=p.1/\p.1<=1:=fun p hp=>by
  rcases FC.1 hp with rfl | hp
  ·rw [<- q1,<- r1]; cases n <;> simp [bx,z0]
  rcases FC.1 hp with rfl | hp
  ·rw [<- q2,<- r2]; cases n' <;> simp [ax,z0]
  rcases FC.1 hp with rfl | hp
  ·rw [<- q3,<- r3]; cases k <;> simp [aB,z0]
  rw [Ld] at hp; subst hp;rw [<- q4,<- r4]; cases a <;> simp [ay,z0]
 simp only [q1,r1,q2,r2,q3,r3,q4,r4] at ag aj ao P ⊢;have Y:=Xt (z:=.int .i64 0) (.bool false) .nilSl rfl (bo .i64 d.1) (ai (decide (d.2<0))) o1 (bo .i64 m2.1) (ai (decide (m2.2<0))) o2 (bo .i64 m3.1) (ai (decide (m3.2<0))) o3 (bo .i64 g.1) (ai (decide (g.2<0))) o4;refine zD (qQ hl j l i @c d0 d1 u f1 @jq @ap Y) ?_;have aa:Kp (X.up 11) N:=Z.trans (k23.trans (E.trans t));have f8:N.get (X.next+8)=none:=aa.free (show X.next+8<X.next+11 by omega) (wX.fresh (b:=X.next+8) zO);have n5:X.next+11<=N.next:=aa.le
 have J:=aG (e:=.cells [.int .i64 d.1,.bool (decide (d.2<0)),p1,.int .i64 m2.1,.bool (decide (m2.2<0)),p2,.int .i64 m3.1,.bool (decide (m3.2<0)),p3,.int .i64 g.1,.bool (decide (g.2<0)),p4] re true) f8;refine AnsH.use (WM C zF (Xx (al _ _ _) (ag.mono J) (aj.mono J) (ao.mono J) (P.mono J)) (by simp) (by simp) hL) ?_;rintro r H6 ⟨⟨m,hm,M,O,ae,aI,p,q,rfl,hp,hq⟩,aH⟩;obtain ⟨k6,_,w6⟩:=zT X zK aH;have aK:=s.trans k6;have h2:=k6.get W;have aL:=w6 _ _ h2;have op:=hp.one;have oq:=hq.one;refine zD (Ln hl j l i @c d0 d1 u f1 @jq @ap Y h2 @Uq) ?_;refine ⟨⟨V5 m,A3 m,V5 M,A3 M,⟨p,q,rfl,hp.monoT (SubT.put_ty h2 zU),hq.monoT (SubT.put_ty h2 zU)⟩,?_⟩,zK⟩;have V:∀ p∈[d,m2,m3,g],Bt 64 (A3 p):=fun p hp=>by
  unfold A3;split
  ·exact z0
  ·exact (hL p hp).1
 have v1:=ae d (by simp);have v2:=aI m2 (by simp);have vM:=ae M O;have lm:=(hL m hm).2;have lM:=(hL M O).2;refine ⟨fun e=>?_,fun e=>?_,V m hm,V M O,?_⟩
 ·have e0:m.1=0:=by simpa [V5] using e
  have ex:A3 m=m.2:=by simp [A3,e0]
  rw [ex];cases n with
  | true=>rw [A] at v1; unfold leP at v1; simp at v1; omega
  | false=>rw [A] at v1; unfold leP at v1; simp at v1; exact ⟨rfl,zO⟩
 ·have e0:M.1=0:=by simpa [V5] using e
  have ex:A3 M=M.2:=by simp [A3,e0]
  rw [ex];cases n' with
  | true=>rw [B] at v2; unfold leP at v2; simp at v2; omega
  | false=>rw [B] at v2; unfold leP at v2; simp at v2; exact ⟨rfl,zO⟩
 ·have mb:∀ z:Int × Int,uW (V5 z) (bF (A3 z))=true:=fun z=>by
   unfold uW V5 A3;by_cases h:z.1=0
   ·rw [if_neg (by simpa using h),xx]; rfl
   ·rw [if_pos (by simpa using h),if_pos h,W3]; rfl
  unfold eM;rw [mb,mb,vp,vp];unfold V5 A3;by_cases h:m.1=0
  ·by_cases h':M.1=0
   ·rw [if_neg (by simpa using h),if_neg (by simpa using h')]
    have:m.2<=M.2:=by unfold leP at vM; omega
    simp [this]
   ·simp [h']
  ·simp [h]
def WN (C:Code tab) (M:Wf H) {v:AV} {L:List W9} (hs:SlV Xi aV H v L) (K:L.length<=1000) (hL:∀ a∈L,(Lim a.2.1.2/\a.2.1.2.length<=1048576)/\Lim a.2.2.2.2/\a.2.2.2.2.length<=1048576) :
  Ans tab (.fn zn [v]) H fun r H'=>r=.int .i64 (if L.all Ww then 0 else 8)/\Kp H H':=by
 refine cT C.q33 zU fun T hl f=>?_;refine zW (aD hl f hs.lenV) ?_;refine aq H [] (fun j _ _=>∀ k (h:k<L.length),k<j->Ww L[k]=true) (a:=0) (N:=L.length) rfl (by refine zW (aE hl f) ?_; rfl) (zV (aE hl f)) (xq _) zO (by simp only [dz,hl]; rfl) rfl (fun _ _ _ _ h=>h) zK (fun k _ h=>by omega) ?_ ?_
 ·intro j T1 d _ hj b y x g i;have w1:=g.wf;have O:=g.le;have D:ad T1 6=v:=(x.at_ 6 zU).trans (zV (aE hl f));obtain ⟨cs,⟨p,q,rfl,hp,o⟩,-,-,c⟩:=(hs.mono g.sub).at (eA hj);have A:cS 6 v (.int .i64 (j:Int))=some (aB v (j*6)):=hs.idx .i64 j hj;obtain ⟨⟨s,t⟩,u,w⟩:=hL _ (mQ hj);obtain ⟨a,ha⟩:∃ a,a=L[j]:=⟨_,rfl⟩
  rw [<- ha] at hp o c s t u w;have c:bk d (some 6) (aB v (j*6))=some (.agg [.bool a.1,.bool a.2.1.1,p,.bool a.2.2.1,.bool a.2.2.2.1,q]):=c;have op:=hp.one;have P:=o.one;have F:=ai a.1;have G:=ai a.2.1.1;have I:=ai a.2.2.1;have J:=ai a.2.2.2.1;have ld:=Ldd.of w1 c;simp only [dz,hl] at b;refine zW (fX b D y A c ld.put @Uq @jq) ?_;refine AnsH.eq (tj C (n:=a.1) (n':=a.2.2.1) (z:=a.2.1) (z':=a.2.2.2) zF (hp.mono (zG d)) (o.mono (zG d)) s u t w) fun H2 B=>?_;obtain ⟨k2,_,_⟩:=zT H zK B;cases hm:Ww a with
  | false =>
   have m:eM a.1 a.2.1 a.2.2.1 a.2.2.2=false:=hm;rw [m];have E:(if false=true then (0:Int) else 8)=8:=rfl;refine zW (aE b E) ?_;have e:L.all Ww=false:=by
    rw [Bool.eq_false_iff];intro h;rw [GR] at h
    have:=h _ (mQ hj)
    rw [<- ha,hm] at this; cases this
   exact ⟨by rw [e]; rfl,zK⟩
  | true =>
   have m:eM a.1 a.2.1 a.2.2.1 a.2.2.2=true:=hm;rw [m];have z0:(if true=true then (0:Int) else 8)=0:=rfl;refine zW (aE b z0) ?_;refine ⟨zK,fun k h l=>?_⟩;by_cases e:k=j
   ·subst e; rw [<- ha]; exact hm
   ·exact i k h zO
 ·intro T1 d b x g i;simp only [dz,hl] at b;have e:L.all Ww=true:=by
   rw [GR];intro a ha;obtain ⟨k,l,rfl⟩:=U0 ha;exact i k l l
  refine zW b ?_;exact ⟨by rw [e]; rfl,zK⟩
def Xr {b:Nat} {p q r s:AV} {a c:W9} {rw:Bool} (h:H.get b=some (.cells [.bool a.1,.bool a.2.1.1,p,.bool a.2.2.1,.bool a.2.2.2.1,q,.bool c.1,.bool c.2.1.1,r,.bool c.2.2.1,.bool c.2.2.2.1,s] aV rw)) (hp:Lb H p a.2.1.2) (d:Lb H q a.2.2.2.2) (hr:Lb H r c.2.1.2) (hs:Lb H s c.2.2.2.2):SlV Xi aV H (.own b 0 2 2 6 true) [a,c] :=
 ⟨_,Rd.own h rfl (o0 _),fun _ _ _ _ _ _ e=>by cases e; exact ⟨_,_,h⟩,rfl,fun i x hi=>by
  match i with
  | 0=>simp at hi; subst hi; exact ⟨p,q,rfl,hp,d⟩
  | 1=>simp at hi; subst hi; exact ⟨r,s,rfl,hr,hs⟩
  | i+2=>simp at hi⟩
def Xs {a b c d e f g h i j k l:AV} {zs:List AV} (hz:zs=[.bool false,.bool false,.nilSl,.bool false,.bool false,.nilSl,.bool false,.bool false,.nilSl,.bool false,.bool false,.nilSl]) (ha:One a) (hb:One b) (hc:One c) (hd:One d) (he:One e) (m:One f) (hg:One g) (hh:One h) (hi:One i) (hj:One j) (n:One k) (hl:One l):cB zs [((0,6),.agg [a,b,c,d,e,f]),((6,6),.agg [g,h,i,j,k,l])]=some [a,b,c,d,e,f,g,h,i,j,k,l]:=by
 subst hz;simp [cB,AV.cells,ha.2,hb.2,hc.2,hd.2,he.2,m.2,hg.2,hh.2,hi.2,hj.2,n.2,hl.2]
set_option maxHeartbeats 2000000 in
def W8 (C:Code tab) (hw:Wf H) {pl ph A y:AV} {a c:W9} (u:Lb H pl a.2.1.2) (t:Lb H ph a.2.2.2.2) (x:Lb H A c.2.1.2) (w:Lb H y c.2.2.2.2) (g:(Lim a.2.1.2/\a.2.1.2.length<=1)/\Lim a.2.2.2.2/\a.2.2.2.2.length<=1) (h:(Lim c.2.1.2/\c.2.1.2.length<=1)/\Lim c.2.2.2.2/\c.2.2.2.2.length<=1) (hm:Ww a=true) :
  Ans tab (.fn Wd [.agg [.bool a.1,.bool a.2.1.1,pl,.bool a.2.2.1,.bool a.2.2.2.1,ph],.agg [.bool c.1,.bool c.2.1.1,A,.bool c.2.2.1,.bool c.2.2.2.1,y]]) H fun r H'=>((Ww c=false/\r=.tup [.agg [.bool false,.bool false,.nilSl,.bool false,.bool false,.nilSl],.int .i64 8])\/∃ v k j l i,r=.tup [v,.int .i64 0]/\ItvV H' v k j l i/\(k=false->a.1=false/\j<=aR a.2.1)/\(l=false->a.2.2.1=false/\aR a.2.2.2<=i)/\Bt 64 j/\Bt 64 i/\eM k (bF j) l (bF i)=true)/\Kp H H':=by
 have D:=u.one;have E:=t.one;have F:=x.one;have G:=w.one;have I:=CM (ai a.1) (ai a.2.1.1) D (ai a.2.2.1) (ai a.2.2.2.1) E;have J:=CM (ai c.1) (ai c.2.1.1) F (ai c.2.2.1) (ai c.2.2.2.1) G;have M:=Xs rfl (ai a.1) (ai a.2.1.1) D (ai a.2.2.1) (ai a.2.2.2.1) E (ai c.1) (ai c.2.1.1) F (ai c.2.2.1) (ai c.2.2.2.1) G;refine bA C.q9 zU fun T hl m o=>?_;refine zW (fo hl m o I J @jq M) ?_;have lim:∀ z∈[a,c],(Lim z.2.1.2/\z.2.1.2.length<=1048576)/\Lim z.2.2.2.2/\z.2.2.2.2.length<=1048576:=fun z hz=>by
  rcases FC.1 hz with rfl | hz
  ·exact ⟨⟨g.1.1,zO⟩,g.2.1,zO⟩
  ·rw [Ld] at hz; subst hz;exact ⟨⟨h.1.1,zO⟩,h.2.1,zO⟩
 refine AnsH.eq (WN C (L:=[a,c]) zF (Xr (al _ _ _) (u.mono (zG H)) (t.mono (zG H)) (x.mono (zG H)) (w.mono (zG H))) (by simp) lim) fun H2 s=>?_;obtain ⟨k2,_,X⟩:=zT H zK s;have d0:H2.get H.next=some (.cells [.bool a.1,.bool a.2.1.1,pl,.bool a.2.2.1,.bool a.2.2.2.1,ph] aV true):=s.get (cC)
 have d1:H2.get (H.next+1)=some (.cells [.bool c.1,.bool c.2.1.1,A,.bool c.2.2.1,.bool c.2.2.2.1,y] aV true):=s.get (cC);have d2:H2.get (H.next+2)=some (.cells [.bool false,.bool false,.nilSl,.bool false,.bool false,.nilSl] aV true):=s.get (cC);have aa:=X _ _ d2;have e:[a,c].all Ww=Ww c:=by simp [hm]
 rw [e];cases hc:Ww c with
 | false =>
  have Y:(if false=true then (0:Int) else 8)=8:=rfl;have K:cE [.bool false,.bool false,.nilSl,.bool false,.bool false,.nilSl] []=some (.agg [.bool false,.bool false,.nilSl,.bool false,.bool false,.nilSl]):=rfl;have bs:=Uq (a:=.bool false) (b:=.bool false) (c:=.nilSl) (d:=.bool false) (e:=.bool false) (f:=.nilSl) (ty:=aV) (ai false) (ai false) bH (ai false) (ai false) bH;refine zW (fX hl m o Y K d2 bs @jq) ?_;exact zK
 | true =>
  have z0:(if true=true then (0:Int) else 8)=0:=rfl;obtain ⟨U,j1⟩:=Ru (n:=a.1) (n':=a.2.2.1) (zl:=a.2.1) (zh:=a.2.2.2) u t g.1.1 g.2.1 hm;obtain ⟨V,j2⟩:=Ru (n:=c.1) (n':=c.2.2.1) (zl:=c.2.1) (zh:=c.2.2.2) x w h.1.1 h.2.1 hc;refine zW (fo hl m o z0 d0 d1 @jq) ?_;refine AnsH.use (W7 C zF ((U.mono k2.sub).mono (zG H2)) ((V.mono k2.sub).mono (zG H2)) (qX (n:=1) g.1.1 g.1.2) (qX (n:=1) g.2.1 g.2.2) (qX (n:=1) h.1.1 h.1.2) (qX (n:=1) h.2.1 h.2.2)) ?_;rintro _ Z ⟨⟨k,j,l,i,⟨p,q,rfl,hp,B⟩,O,P,Q,R,S⟩,N⟩;obtain ⟨k23,_,_⟩:=zT H2 zK N;have W:=k2.trans k23;have w3:=W.wf;have d3:=k23.get d2;have ab:=w3 _ _ d3;have op:=hp.one;have oq:=B.one;have p1:=ai k;have p2:=ai (decide (j<0));have p3:=ai l;have p4:=ai (decide (i<0));refine zW (dj hl m o d3 @Uq @jq) ?_;exact ⟨.inr ⟨_,k,j,l,i,rfl,⟨p,q,rfl,hp.monoT (SubT.put_ty d3 zU),B.monoT (SubT.put_ty d3 zU)⟩,O,P,Q,R,S⟩,zK⟩
end
end Go.Proofs.YteaefaohjlmjdaaGreat.Ev
namespace Go.Proofs.YteaefaohjlmjdaaGreat.Lin
def subN:Nat->Nat->Nat
 | _,0=>1
 | 0,_+1=>1
 | n+1,k+1=>subN n (k+1)+subN n k
def WJ:∀ n k,1<=subN n k
 | _,0=>by unfold subN; exact o0 _
 | 0,_+1=>by unfold subN; exact o0 _
 | n+1,k+1=>by
  have:=WJ n (k+1)
  unfold subN; omega
def subN_le {k:Nat}:∀ {n m:Nat},n<=m->subN n k<=subN m k
 | n,m,h=>by
  induction h with
  | refl=>exact o0 _
  | step _ a =>
   refine B5 a ?_;cases k with
   | zero=>unfold subN; exact o0 _
   | succ k=>rw [subN]; exact Ob _ _
def subN_less {n:Nat}:∀ {k j:Nat},k<=j->subN n k<=subN n j
 | k,j,h=>by
  induction n generalizing k j with
  | zero=>cases k <;> cases j <;> simp [subN]
  | succ n a =>
   cases k with
   | zero=>rw [subN]; exact WJ _ _
   | succ k =>
    cases j with
    | zero=>omega
    | succ j=>rw [subN,subN]; exact Nat.add_le_add (a _ _ zO) (a _ _ zO)
def Wp {α:Type} [DecidableEq α]:∀ (A:List α) (k:Nat) (l:List (List α)),l.Nodup->(∀ b∈l,b.length<=k/\b.Sublist A)->l.length<=subN A.length k
 | A,0,l,hn,h=>by
  have h0:∀ b∈l,b=[]:=fun b hb=>OK (by have:=(h b hb).1; omega);unfold subN
  match l,hn,h0 with
  | [],_,_=>simp
  | [a],_,_=>simp
  | a :: b :: l,hn,h0 =>
   have f:=h0 a (by simp);have g:=h0 b (by simp);subst f; subst g;simp at hn
 | [],k+1,l,hn,h=>by
  have h0:∀ b∈l,b=[]:=fun b hb=>List.sublist_nil.1 (h b hb).2;show _<=1
  match l,hn,h0 with
  | [],_,_=>simp
  | [a],_,_=>simp
  | a :: b :: l,hn,h0 =>
   have f:=h0 a (by simp);have g:=h0 b (by simp);subst f; subst g;simp at hn
 | a :: A,k+1,l,hn,h=>by
  have h1:=Wp A (k+1) (l.filter fun b=>b.isSublist A) (Za _ hn) fun b hb=>by
   obtain ⟨hb,e⟩:=C4.1 hb;exact ⟨(h b hb).1,List.isSublist_iff_sublist.1 e⟩
  have hc:∀ b∈l.filter fun b=>!b.isSublist A,∃ c,b=a :: c/\c.Sublist A/\c.length<=k:=fun b hb=>by
   obtain ⟨hb,e⟩:=C4.1 hb;obtain ⟨h1,h2⟩:=h b hb;cases h2 with
   | cons _ h2=>rw [List.isSublist_iff_sublist.2 h2] at e; cases e
   | cons_cons _ h2=>exact ⟨_,rfl,h2,by simp at h1; omega⟩
  have h2:=Wp A k ((l.filter fun b=>!b.isSublist A).map List.tail) (by
   refine XM.2 (Y8 (fun {x y} hx hy hne e=>hne ?_) (Za _ hn));obtain ⟨c,rfl,-,-⟩:=hc x hx;obtain ⟨d,rfl,-,-⟩:=hc y hy;simp at e; rw [e]) fun b hb=>by
    obtain ⟨x,hx,rfl⟩:=nC.1 hb;obtain ⟨c,rfl,h3,h4⟩:=hc x hx;exact ⟨h4,h3⟩
  rw [rR] at h2;have h3:l.length=(l.filter fun b=>b.isSublist A).length+(l.filter fun b=>!b.isSublist A).length:=by
   rw [<- Yu,<- Yu,Zs (p:=fun b:List α=>b.isSublist A)];congr 1;refine List.countP_congr fun b _=>?_;cases b.isSublist A <;> simp
  rw [Sb,subN];omega
def WQ:∀ (l F:List V),(iH F l).Sublist l
 | [],_=>List.Sublist.refl _
 | a :: l,F=>by
  unfold iH;split
  ·exact (WQ l F).cons a
  ·exact (WQ l _).cons_cons a
def DD.count4 {d:Nat} {E L:V->Prop} {c R:List V} (h:DD d E (· ∈ c) L R) (k:∀ i∈c,i.length=d):R.length<=subN c.length (d-1):=by
 obtain ⟨T,hT⟩:∃ T:V->List V,T=fun r=>c.filter fun i=>decide (dot i r=0):=⟨_,rfl⟩
 have f:∀ r i,i∈T r ↔ i∈c/\dot i r=0:=fun r i=>by rw [hT,C4]; simp
 have g:∀ r,∀ i∈T r,i.length=d:=fun r i hi=>k i ((f r i).1 hi).1;have n:∀ r,(T r).Sublist c:=fun r=>by rw [hT]; exact List.filter_sublist
 have hn:(R.map fun r=>iH [] (T r)).Nodup:=by
  have j:∀ r s:V,iH [] (T r)=iH [] (T s)->∀ i,i∈c->dot i r=0->dot i s=0:=fun r s e i hi hz=>by
   have h1:Spn d (· ∈ iH [] (T r)) i:=((La (g r)).2 i).2 (eC (k i hi) ((f r i).2 ⟨hi,hz⟩));rw [dot_comm];refine Con.dot_zero (fun l hl=>g r l (qz _ _ l hl)) (fun r h=>h.elim) (fun l hl=>?_) (fun r h=>h.elim) h1;have h2:l∈iH [] (T s):=by rw [<- e]; exact hl
   rw [dot_comm]; exact ((f s l).1 (qz _ _ l h2)).2
  exact XM.2 (h.apart.imp fun hne e=>hne fun i hi=>⟨j _ _ e i hi,j _ _ e.symm i hi⟩)
 have:=Wp c (d-1) _ hn fun b hb=>by
  obtain ⟨r,hr,rfl⟩:=nC.1 hb;obtain ⟨i,hi,m⟩:=h.off r hr;have h1:=PU (g r) (h.lenR r hr) (fun a ha=>((f r a).1 ha).2) m;exact ⟨zO,(WQ _ _).trans (n r)⟩
 simpa using this
section
variable {n x:Nat} {a r:V} {K K':List (V × Bool)} {G G':List (Nat × V)}
def WK {c:V × Bool} {z:Int} {g:Nat × V} (hc:c.1.length=n+1) (hg:g.2.length=n+1) (ha:a.length=n+1) (hx:x<n):keepsP (U2 n x a z c) g=keepsP c (mvG x a z g):=by
 rw [XQ,gU,gU,IA hc hg ha hx];exact Z7
def Xd {c:V × Bool} {z w:Int} {g:Nat × V} (hc:c.1.length=n+1) (hg:g.2.length=n+1) (h0:hd1 g.2=0) (hx:x<n):keepsP c (mvG x a z g)=keepsP c (mvG x a w g):=by
 have e:dot c.1 (mvR x a z g.2)=dot c.1 (mvR x a w g.2):=by rw [Kq (w:=w) hc hg hx,h0]; omega
 rw [XQ,gU,gU];show (if c.2=true\/g.1=1 then dot c.1 (mvR x a z g.2)=0 else 0<=dot c.1 (mvR x a z g.2)) ↔ (if c.2=true\/g.1=1 then dot c.1 (mvR x a w g.2)=0 else 0<=dot c.1 (mvR x a w g.2));rw [e]
def Wn {rn rn':Bool} {lo hi w:Int} (b:rn=false->rn'=false->lo<=hi) (a:w∈Ev.endsL rn lo rn' hi):(rn=false->lo<=w)/\(rn'=false->w<=hi):=by
 unfold Ev.endsL at a;cases rn <;> cases rn'
 ·have:=b rfl rfl
  by_cases h:lo=hi
  ·simp [h] at a; exact ⟨fun _=>by omega,fun _=>by omega⟩
  ·simp [h] at a; rcases a with rfl | rfl
   ·exact ⟨fun _=>by omega,fun _=>by omega⟩
   ·exact ⟨fun _=>by omega,fun _=>by omega⟩
 ·simp at a; subst a; exact ⟨fun _=>Yx _,fun h=>(by cases h)⟩
 ·simp at a; subst a; exact ⟨fun h=>(by cases h),fun _=>Yx _⟩
 ·exact ⟨fun h=>(by cases h),fun h=>(by cases h)⟩
def WS {rn rn':Bool} {lo hi:Int} {c:V × Bool} (h:ValidG n G) (ha:a.length=n+1) (hx:x<n) (f:rn=false->rn'=false->lo<=hi) (hcl:c.1.length=n+1) (e:∀ z,(rn=false->lo<=z)->(rn'=false->z<=hi)->∀ g∈G,keepsP (U2 n x a z c) g=true) (j:G≠[]->∀ y∈Ev.putTail n x rn rn',keepsP c y=true):∀ y∈Ev.putL n x a rn lo rn' hi G,keepsP c y=true:=by
 intro y hy;unfold Ev.putL at hy;rcases Eu.1 hy with hy | hy
 ·obtain ⟨g,hg,hy⟩:=Zi.1 hy;have b:=(h g hg).1;unfold Ev.putOne at hy;split at hy
  ·obtain ⟨w,d,rfl⟩:=nC.1 hy;obtain ⟨h1,h2⟩:=Wn f d;rw [<- WK hcl b ha hx];exact e w h1 h2 g hg
  ·rename_i e3;rw [Ld] at hy; subst hy;obtain ⟨w,d⟩:∃ w,w∈Ev.endsL rn lo rn' hi:=by
    have:=(Ev.endsL_len rn lo rn' hi).1
    exact ⟨(Ev.endsL rn lo rn' hi)[0],mQ _⟩
   obtain ⟨h1,h2⟩:=Wn f d;rw [Xd (w:=w) hcl b ((h g hg).2.2 e3) hx,<- WK hcl b ha hx];exact e w h1 h2 g hg
 ·split at hy
  ·cases hy
  ·rename_i i;exact j i y hy
def WY {rn rn':Bool} {lo hi:Int} (o:Own n K G) (b:Own n K' G') (i:inP G' K=true) (ha:a.length=n+1) (hx:x<n) (f:rn=false->rn'=false->lo<=hi):inP (Ev.putL n x a rn lo rn' hi G') (consP n (Ev.putL n x a rn lo rn' hi G))=true:=by
 rw [inP_iff];intro y hy c hc;by_cases e:G'=[]
 ·subst e; unfold Ev.putL at hy; simp at hy
 have g:∀ r,qq n K' r->qq n K r:=(b.in_iff o).1 i |>.resolve_left e
 obtain ⟨r0,j,p0⟩:=(yn b.rows).1 (by rw [b.gens]; exact e);have d:=o.ne (g r0 j) p0;have hcl:=jG (n:=n) (fun y hy=>((Ev.putL_valid (n:=n) (x:=x) (a:=a) (rn:=rn) (rn':=rn') (lo:=lo) (hi:=hi) o.valid) y hy).1) c hc;obtain ⟨w,k⟩:∃ w,w∈Ev.endsL rn lo rn' hi:=by
  have:=(Ev.endsL_len rn lo rn' hi).1
  exact ⟨(Ev.endsL rn lo rn' hi)[0],mQ _⟩
 obtain ⟨w1,l⟩:=Wn f k;refine WS b.valid ha hx f hcl (fun z h1 h2=>?_) (fun _ y hy=>?_) y hy
 ·obtain ⟨-,-,key⟩:=Wl o ha hx d h1 h2 hc;have hV:P2 n K (U2 n x a z c):=fun r hr=>o.pt d key hr;have h:P2 n K' (U2 n x a z c):=fun r hr=>hV r (g r hr)
  have:=(Ir b.rows (by rw [b.gens]; exact e)).2 h
  rw [b.gens] at this;exact this
 ·obtain ⟨-,hs,-⟩:=Wl o ha hx d w1 l hc;refine hs y ?_;unfold Ev.putL;rw [if_neg d];exact XV _ hy
def WZ {rn rn' b d:Bool} {lo hi i g:Int} (o:Own n K G) (ha:a.length=n+1) (hx:x<n) (p:rn=false->rn'=false->lo<=hi) (h1:b=false->rn=false/\i<=lo) (h2:d=false->rn'=false/\hi<=g):inP (Ev.putL n x a rn lo rn' hi G) (consP n (Ev.putL n x a b i d g G))=true:=by
 rw [inP_iff];intro y hy c hc;by_cases m:G=[]
 ·subst m; unfold Ev.putL at hy; simp at hy
 obtain ⟨w,r⟩:∃ w,w∈Ev.endsL rn lo rn' hi:=by
  have:=(Ev.endsL_len rn lo rn' hi).1
  exact ⟨(Ev.endsL rn lo rn' hi)[0],mQ _⟩
 obtain ⟨w1,s⟩:=Wn p r;have s1:∀ z,(rn=false->lo<=z)->b=false->i<=z:=fun z h e=>by have:=h (h1 e).1; have:=(h1 e).2; omega
 have s2:∀ z,(rn'=false->z<=hi)->d=false->z<=g:=fun z h e=>by have:=h (h2 e).1; have:=(h2 e).2; omega
 obtain ⟨hcl,hs,-⟩:=Wl (lo:=i) (hi:=g) o ha hx m (s1 w w1) (s2 w s) hc;refine WS o.valid ha hx p hcl (fun z z1 z2=>(Wl (lo:=i) (hi:=g) o ha hx m (s1 z z1) (s2 z z2) hc).2.2) (fun _ y hy=>?_) y hy;have j:∀ y∈Ev.putTail n x b d,keepsP c y=true:=fun y hy=>hs y (by
  unfold Ev.putL;rw [if_neg m];exact XV _ hy)
 have l:=fun k:Int=>sM (k:=k) hcl hx;cases rn <;> cases rn'
 ·simp [Ev.putTail] at hy
 ·have f:d=true:=by cases d <;> simp_all
  subst f;simp [Ev.putTail] at hy;subst hy;cases b
  ·exact j _ (by simp [Ev.putTail])
  ·have t:=j (1,Ev.unitX n x 1) (by simp [Ev.putTail]);rw [gU,if_pos (.inr rfl),l] at t;refine sL (by decide) ?_;rw [l];exact ⟨fun _=>by omega,zO⟩
 ·have f:b=true:=by cases b <;> simp_all
  subst f;simp [Ev.putTail] at hy;subst hy;cases d
  ·exact j _ (by simp [Ev.putTail])
  ·have t:=j (1,Ev.unitX n x 1) (by simp [Ev.putTail]);rw [gU,if_pos (.inr rfl),l] at t;refine sL (by decide) ?_;rw [l];exact ⟨fun _=>by omega,zO⟩
 ·have f:b=true:=by cases b <;> simp_all
  have q:d=true:=by cases d <;> simp_all
  subst f; subst q;exact j y hy
def grow_own (a:ValidG n G) (hx:x<n):G.map (mvG x (Ev.unitX n x 1) 0)=G:=by
 have:∀ g∈G,mvG x (Ev.unitX n x 1) 0 g=g:=fun g hg=>by
  have hl:=(a g hg).1;obtain ⟨k,r⟩:=g;have hl:r.length=n+1:=hl;unfold mvG mvR;simp only;rw [dot_comm,sM hl hx,Z8,Int.add_zero,Int.mul_one];congr 1;rw [iF,eA zO,Yc,List.set_getElem_self]
 exact (Ym this).trans (ZZ _)
end
end Go.Proofs.YteaefaohjlmjdaaGreat.Lin
namespace Go.Proofs.YteaefaohjlmjdaaGreat.Ev
open Go Nn
section
variable {tab:Nat->Option aA} {H:Heap} {n x:Nat} {a:List Int} {K:List (List Int × Bool)} {G:List (Nat × List Int)} {rn rn':Bool} {lo hi:Int}
def Xf {e ea:Nat} {z:Int} {r:List Int} (hn:n<=3) (d:a.length=n+1) (ha:Lin.Bd (2^ea) a) (hr:Lin.Bd (2^e) r) (hz:z.natAbs<=2^ea):Lin.Bd (2^(e+ea+3)) (Lin.mvR x a z r):=pw fun y hy=>by
 have p1:2^e<=2^(e+ea+3):=JR zU zO;rcases Yr hy with h | rfl
 ·exact B5 (hr.mem y h) p1
 ·have h1:=Lin.bd_dot d ha hr;have h2:(Lin.hd1 r).natAbs<=2^e:=by
   have:=hr 0
   cases r with
   | nil=>exact xq _
   | cons b r=>exact this
  have h3:(Lin.hd1 r*z).natAbs<=2^e*2^ea:=by rw [Zz]; exact X0 h2 hz
  have h4:(n+1)*(2^ea*2^e)<=4*(2^ea*2^e):=B2 _ zO;have h5:2^ea*2^e=2^(e+ea):=by rw [<- Th,Zh]
  have h6:2^e*2^ea=2^(e+ea):=by rw [<- Th]
  have c:2^(e+ea+3)=2^(e+ea)*8:=by rw [Th]
  have f:=Zr (Lin.dot a r) (Lin.hd1 r*z);rw [c];omega
def WL {e ea:Nat} (hn:n<=3) (f:a.length=n+1) (ha:Lin.Bd (2^ea) a) (d:∀ g∈G,Lin.Bd (2^e) g.2) (b:Bt ea lo) (c:Bt ea hi):∀ y∈putL n x a rn lo rn' hi G,Lin.Bd (2^(e+ea+3)) y.2:=fun y hy=>by
 rcases Bv hy with ⟨g,hg,z,hz,rfl⟩ | ⟨k,h1,h2,h3⟩
 ·refine Xf hn f ha (d g hg) ?_;rcases hz with rfl | hz
  ·exact xq _
  ·exact Ys (Hf b c hz)
 ·rw [h2];refine pw fun z hz=>?_;have p1:1<=2^(e+ea+3):=Pm zU;rcases Yr hz with h | rfl
  ·have:=Yw h
   subst this; exact xq _
  ·omega
def VX {L:List (Nat × List Int)} (c:Lin.ValidG n L) (hn:n<=3) (hL:L.length<=13):(Lin.consP n L).length<=382:=by
 have d:∀ a∈Lin.linesOf L,a.length=n+1:=fun a ha=>(c _ (Lin.mem_lines.1 ha)).1;have b:∀ a∈Lin.raysOf L,a.length=n+1:=fun a ha=>by obtain ⟨k,-,h⟩:=Lin.mem_rays.1 ha; exact (c _ h).1
 have t:=Lin.gens_told d b;have h1:=t.dd.count4 b;have h2:=ech_len t.form;have h3:=WG L;have h4:Lin.subN (Lin.raysOf L).length (n+1-1)<=Lin.subN 13 3:=B5 (Lin.subN_le zO) (Lin.subN_less zO);have h5:Lin.subN 13 3=378:=by decide
 unfold Lin.consP;split
 ·rw [C5,rR,rR]
  have:=Yf (fun r:Lin.V=>!decide (r=Lin.unitC n 1)) (Lin.gensR (n+1) (Lin.linesOf L) (Lin.raysOf L))
  omega
 ·show 1<=_;omega
def Wz (b:G.length<=6):(putL n x a rn lo rn' hi G).length<=13:=by
 have h1:=oV x a rn lo rn' hi G;have h2:(putTail n x rn rn').length<=1:=by unfold putTail; cases rn <;> cases rn' <;> simp
 unfold putL;rw [C5];split
 ·simp only [YN]; omega
 ·omega
def Wm {e f:Nat} (h:PolyOK n e f K G) (hn:n<=3) (k:G.length<=6) (he:e<=1088) (o:a.length=n+1) (l:Lin.Bd (2^64) a) (g:Bt 64 lo) (i:Bt 64 hi):PolyOK n (16*(16*(e+64+3+4)+4)) (16*(e+64+3+4)) (Lin.consP n (putL n x a rn lo rn' hi G)) (Lin.gensP n (Lin.consP n (putL n x a rn lo rn' hi G))):=by
 have b:=putL_valid (n:=n) (x:=x) (a:=a) (rn:=rn) (rn':=rn') (lo:=lo) (hi:=hi) h.own.valid;have q:=WL (n:=n) (x:=x) (rn:=rn) (rn':=rn') hn o l (fun y hy=>(h.rowG y hy).2) g i;have d:=yx (m:=e+64+3) hn (fun y hy=>⟨(b y hy).1,q y hy⟩);have j:=tt hn d;have l1:=Lin.span_len b;have p:=Wz (n:=n) (x:=x) (a:=a) (rn:=rn) (rn':=rn') (lo:=lo) (hi:=hi) k;have l2:=VX b hn p;exact ⟨Lin.own_span b,zO,.inr ⟨zO,zO⟩,zO,fun c hc=>(d c hc).2,fun x hx=>(j x hx).2,zO,zO⟩
def A6 (C:Code tab) (u:Wf H) {v w o:AV} {e f:Nat} (hp:PolyV H v n K G) (b:PolyOK n e f K G) (he:e<=1088) (ha:RowV H w a) (i:a.length=n+1) (h:Lin.Bd (2^64) a) (p:ItvV H o rn lo rn' hi) (s:eM rn (bF lo) rn' (bF hi)=true) (d:Bt 64 lo) (g:Bt 64 hi) (hx:x<n) (c:n<=3) (j:G.length<=6) :
  Ans tab (.fn kU [v,.int .i64 (x:Int),w,o]) H fun r H'=>(∃ k l,r=.tup [.agg [.int .i64 (n:Int),k,l],.int .i64 0]/\SlV conE t_api_Con H' k (Lin.consP n (putL n x a rn lo rn' hi G))/\SlV genE ag H' l (Lin.gensP n (Lin.consP n (putL n x a rn lo rn' hi G))))/\Kp H H':=by
 have ok:=Wm (x:=x) (rn:=rn) (rn':=rn') b c j he i h d g;have t:=putL_valid (n:=n) (x:=x) (a:=a) (rn:=rn) (rn':=rn') (lo:=lo) (hi:=hi) b.own.valid;have l2:=VX t c (Wz j);exact (V6 C (x:=x) (n:=n) (e:=e) (f:=f) (ea:=64) (ez:=64) (m:=e+64+3) u hp b ha i h p s d g hx c zO zO (WL c i h (fun y hy=>(b.rowG y hy).2) d g) zO b.kinds (.inl zO)).mono fun r H' ⟨hs,q⟩=>⟨J9 hs ok,q⟩
end
def Xg {n:Nat} {K:List (List Int × Bool)} {c:xA} (hn:n<=4) (a:K.length+1<=60) (hb:tW c.1=false\/c.1.length≠n+1):dU n (K.map (fun c=>(c.1.map bF,c.2))++[c])≠0:=by
 unfold dU;rw [if_neg zO,if_neg (by rw [C5,rR]; simp; omega)];split
 ·decide
 rename_i h1;split
 ·decide
 rename_i h2;rw [List.any_append,Yp,not_or] at h1 h2
 exfalso
 rcases hb with hb | hb
 ·exact h1.2 (by simp [hb])
 ·exact h2.2 (by simp; omega)
def Xo {ty:Nat} {H0 H:Heap} {v:AV} {l:List (List Int × Bool)} (h:Bq conE ty H0 H v l):Bq conQE ty H0 H v (l.map fun c=>(c.1.map bF,c.2)):=by
 rcases h with ⟨rfl,rfl⟩ | ⟨b,ex,cells,rfl,hb,hc,hge⟩
 ·exact Bq.nil
 ·refine .inr ⟨b,ex,cells,by rw [rR]; rfl,hb,⟨by rw [hc.1,rR]; rfl,fun i a hi=>?_⟩,hge⟩;rw [XA,wI] at hi;obtain ⟨z,hz,rfl⟩:=hi;obtain ⟨w,h1,h2⟩:=hc.2 i z hz;exact ⟨w,h1,h2.raw⟩
section
variable {tab:Nat->Option aA} {H:Heap} {s:AV}
set_option maxHeartbeats 4000000 in
def Wv (C:Code tab) (hw:Wf H) {v w:AV} {n e f:Nat} {K:List (List Int × Bool)} {G:List (Nat × List Int)} {a:List (Bool × List Nat)} {b:Bool} (hp:PolyV H v n K G) (l:PolyOK n e f K G) (ha:SlV rawE aa H w a) (V:nr a) (ad:K.length+1<=60) (U:tW a=false\/a.length≠n+1) :
  Ans tab (.fn y8 [v,.agg [w,.bool b]]) H fun x H'=>(∃ c:Int,c≠0/\x=.tup [rr,.int .i64 c])/\Kp H H':=by
 obtain ⟨O,P,rfl,hc,hg⟩:=hp;have Z:=hc.one;have og:=hg.one;have Y:=ha.one;refine bA C.q7 zU fun T hl i j=>?_;refine zW (bB hl i j (jS Z og) (HO Y)) ?_;refine AnsH.eq (uJ C (n:=n) (K:=K) (G:=G) zF ⟨O,P,rfl,hc.mono (zG H),hg.mono (zG H)⟩ l) fun H2 p=>?_;obtain ⟨k2,_,A⟩:=zT H zK p;have d0:H2.get H.next=some (.cells [.int .i64 (n:Int),O,P] am true):=p.get (cC)
 have d1:H2.get (H.next+1)=some (.cells [w,.bool b] t_api_Con true):=p.get (cC);have d2:H2.get (H.next+2)=some (.cells [.int .i64 0,.nilSl,.nilSl] am true):=p.get (cC);have aj:=A _ _ d2;refine zW (aO hl i j @aw) ?_;refine aF ?_;refine zD (dj hl i j d0 d1 d2) ?_;refine AnsH.use (WF C zF ((hc.mono k2.sub).mono (zG H2)) zO) ?_;rintro v3 g ⟨q,X⟩;obtain ⟨k23,_,_⟩:=zT H2 zK q;have t:Kp H g:=k2.trans k23;have ae:=t.le;have w3:=t.wf;have B:=k23.get d0;have D:=k23.get d1;have E:=k23.get d2;have n3:H2.next+15<=g.next:=q.le
 have f6:g.get (H2.next+8)=none:=q.free (show H2.next+8<H2.next+15 by omega) (A.fresh (b:=H2.next+8) zO);have S:g.get (H2.next+9)=none:=q.free (show H2.next+9<H2.next+15 by omega) (A.fresh (b:=H2.next+9) zO);have q3:Bq conE t_api_Con H2 g v3 K:=X.weak (by show H2.next<=H2.next+15; omega);obtain ⟨N,o,r,q4,s,n4,-,-⟩:=Bq.push (ty2:=t_api_Con) (bytes:=32) (id:=H2.next+9) (id2:=H2.next+8) (cs:=[w,.bool b]) (a:=(a,b)) (Xo q3) zU k23 ⟨w,rfl,ha.mono t.sub⟩ zO zO S zO zO f6 zO (by rw [rR]; omega) (by rw [rR]; omega);have r:dr (g.put (H2.next+8) (.cells [w,.bool b] t_api_Con true)) (H2.next+9) 2 32 t_api_Con v3 (.own (H2.next+8) 0 1 1 2 true)=some (.own (H2.next+9) 0 N N 2 false,o):=r;have u:Kp H o:=k2.trans s;have af:=u.le;have w4:=u.wf;have R:=s.get d0;have F:=s.get d2;refine zD (oK hl i j d0 d1 d2 B D E r) ?_;have J:=Xg (c:=(a,b)) l.dim (K:=K) zO U;refine AnsH.eq (Hg C (n:=(n:Int)) zF (q4.sl.mono (zG o)) (fun c hc=>(Eu.1 hc).elim (fun h=>?_) fun h=>by rw [Ld] at h; subst h; exact V) (by rw [C5,rR]; simp; omega) J) fun Q W=>?_
 ·obtain ⟨d,hd,rfl⟩:=nC.1 h;have hr:=l.rowK d hd;have ab:=l.dim;have hf:=l.f3;refine ⟨by rw [rR,hr.1]; omega,fun z hz=>?_⟩;obtain ⟨y,hy,rfl⟩:=nC.1 hz
  have:=iN (n:=y.natAbs) (k:=1048576) (m:=f+1) (fu hr.2 y hy) zO
  show (ah y.natAbs).length<_;omega
 obtain ⟨L,_,_⟩:=zT o zK W;have M:Kp H Q:=u.trans L;have ag:=M.le;have w5:=M.wf;have I:=L.get F;have al:=w5 _ _ I;refine zD (Ih hl i j d0 d1 d2 B D E R F I @jj) ?_;exact ⟨⟨_,J,rfl⟩,zK⟩
end
section
variable {tab:Nat->Option aA} {H:Heap} {s1 s2:AV}
def Mm {v:AV} {d:Int} (h:P7 H v d):∃ x u w b,v=.tup [.agg [.int .i64 x,u,w],.bool b]/\One u/\One w:=by
 rcases h with ⟨_,rfl,x,u,w,rfl,a,c⟩ | ⟨n,p,K,G,-,-,rfl,⟨e,f,rfl,hc,hg⟩,-⟩
 ·exact ⟨_,_,_,_,rfl,a,c⟩
 ·exact ⟨_,_,_,_,rfl,hc.one,hg.one⟩
end
end Go.Proofs.YteaefaohjlmjdaaGreat.Ev
namespace Go.Proofs.YteaefaohjlmjdaaGreat.Lin
section
variable {n:Nat} {K:List (V × Bool)} {G:List (Nat × V)} {c:V × Bool} {r:V}
def WW (o:Own n K G) (hc:c.1.length=n+1):∀ d∈K++[c],d.1.length=n+1:=fun d hd=>by
 rcases Eu.1 hd with h | h
 ·exact o.rows d h
 ·rw [Ld] at h; subst h; exact hc
def meet_in (o:Own n K G) (hc:c.1.length=n+1):inP (gensP n (K++[c])) K=true:=by
 rw [inP_iff];exact fun g hg d hd=>poly_keeps (WW o hc) hg (.inl (XF _ hd))
end
def Wy {n x:Nat} {a:V} {rn rn':Bool} {lo hi:Int} {G:List (Nat × V)} (h:G=[]\/G.any (fun y=>y.1 == 3)=true):Ev.putL n x a rn lo rn' hi G=[]\/(Ev.putL n x a rn lo rn' hi G).any (fun y=>y.1 == 3)=true:=by
 rcases h with rfl | h
 ·left; rfl
 ·right
  rw [OL] at h ⊢;obtain ⟨g,hg,e⟩:=h;have e:g.1=3:=by simpa using e
  obtain ⟨w,b⟩:∃ w,w∈Ev.endsL rn lo rn' hi:=by
   have:=(Ev.endsL_len rn lo rn' hi).1
   exact ⟨(Ev.endsL rn lo rn' hi)[0],mQ _⟩
  refine ⟨mvG x a w g,?_,by simp [mvG,e]⟩;unfold Ev.putL;refine XF _ (Zi.2 ⟨g,hg,?_⟩);unfold Ev.putOne;rw [if_pos e];exact nC.2 ⟨w,b,rfl⟩
def Own.orp {n:Nat} {K:List (V × Bool)} {G:List (Nat × V)} (o:Own n K G):G=[]\/G.any (fun y=>y.1 == 3)=true:=by
 by_cases h:G=[]
 ·exact .inl h
 ·exact .inr (o.point h)
def less_in {n x:Nat} {a:V} {K K':List (V × Bool)} {G G':List (Nat × V)} {rn rn':Bool} {lo hi:Int} (o:Own n K G) (b:Own n K' G') (c:inP G' K=true) (ha:a.length=n+1) (hx:x<n) (d:rn=false->rn'=false->lo<=hi):inP (gensP n (consP n (Ev.putL n x a rn lo rn' hi G'))) (consP n (Ev.putL n x a rn lo rn' hi G))=true:=by
 rw [WR (Ev.putL_valid b.valid) (Wy b.orp) (jG fun y hy=>(Ev.putL_valid o.valid y hy).1)];exact WY o b c ha hx d
def more_in {n x:Nat} {a:V} {K:List (V × Bool)} {G:List (Nat × V)} {rn rn' d e:Bool} {lo hi c b:Int} (o:Own n K G) (ha:a.length=n+1) (hx:x<n) (f:rn=false->rn'=false->lo<=hi) (h1:d=false->rn=false/\c<=lo) (h2:e=false->rn'=false/\hi<=b):inP (gensP n (consP n (Ev.putL n x a rn lo rn' hi G))) (consP n (Ev.putL n x a d c e b G))=true:=by
 rw [WR (Ev.putL_valid o.valid) (Wy o.orp) (jG fun y hy=>(Ev.putL_valid o.valid y hy).1)];exact WZ o ha hx f h1 h2
end Go.Proofs.YteaefaohjlmjdaaGreat.Lin
namespace Go.Proofs.YteaefaohjlmjdaaGreat.Ev
open Go Nn
section
variable {tab:Nat->Option aA} {H:Heap} {s1 s2:AV}
def Xa {b N:Nat} (h:H.get b=some (.cells ((List.replicate N [AV.int .i64 0]).flatten) d9 true)):AD (Fo .i64) d9 H (.own b 0 N N 1 true) (List.replicate N 0) :=
 (show Own (bU (Fo .i64)) d9 (Heap.nil 0) H b true _ _ from ⟨_,by rw [Ye]; rfl,h,mm (E:=bU (Fo .i64)) ⟨_,rfl,rfl⟩ N,xq _⟩).sl
def Xl {rn rn':Bool} {lo hi:Int} (h:eM rn (bF lo) rn' (bF hi)=true) (e:rn=false) (e':rn'=false):lo<=hi:=by
 subst e; subst e';unfold eM at h;rw [Ky,vp,vp] at h
 simpa using h.2
def Xc {n:Nat} {K:List (List Int × Bool)} {G:List (Nat × List Int)} {c:List Int} {b:Bool} (g:PolyOK n 64 64 K G) (a:n<=3) (hcl:c.length=n+1) (i:Lin.Bd (2^64) c) (h6:(Lin.gensP n (K++[(c,b)])).length<=6):PolyOK n (16*(64+4)) (16*(16*(64+4)+4)) (Lin.consP n (Lin.gensP n (K++[(c,b)]))) (Lin.gensP n (K++[(c,b)])):=by
 have f:∀ q∈K++[(c,b)],q.1.length=n+1/\Lin.Bd (2^64) q.1:=fun q h=>by
  rcases Eu.1 h with h | h
  ·exact g.rowK q h
  ·rw [Ld] at h; subst h; exact ⟨hcl,i⟩
 have e:=tt (m:=64) a f;have j:=yx a e;have o:=Lin.own_of (n:=n) (fun q h=>(f q h).1);have l2:=VX o.valid a zO;exact ⟨o,zO,.inr ⟨zO,zO⟩,zO,fun q d=>(j q d).2,fun q d=>(e q d).2,zO,zO⟩
set_option maxHeartbeats 16000000 in
def law23_ImageGrows (C:Code tab) (hw:Wf H) {d x:Int} {l:List xA} {cn:xA} {af:List (Bool × List Nat)} {rn rn' mn a4:Bool} {zl zh yl yh:Bool × List Nat} {pl ph ql qh:AV} {cT:List AV} (e0:SlV conQE t_api_Con H s1 l) (eN:conQE.R H cT cn) (cD:SlV rawE aa H s2 af) (cw:Lb H pl zl.2) (cv:Lb H ph zh.2) (cy:Lb H ql yl.2) (cx:Lb H qh yh.2) (gl:∀ r∈l,dZ r.1) (gc:dZ cn.1) (gr:dZ af) (bt:jE zl) (br:jE zh) (eD:jE yl) (eC:jE yh) (_ : -9223372036854775808<=d/\d<9223372036854775808) (_ : -9223372036854775808<=x/\x<9223372036854775808) :
  Ans tab (.fn l3 [.int .i64 d,s1,.agg cT,.int .i64 x,s2,.agg [.bool rn,.bool zl.1,pl,.bool rn',.bool zh.1,ph],.agg [.bool mn,.bool yl.1,ql,.bool a4,.bool yh.1,qh]]) H fun v H'=>v=.bool true/\Kp H H':=by
 obtain ⟨wc,rfl,cd⟩:=eN;obtain ⟨M,cb⟩:=cn;have ef:=cd.one;have gt:=cD.one;have fk:=cw.one;have fj:=cv.one;have fm:=cy.one;have fl:=cx.one;have bx:=CM (ai rn) (ai zl.1) fk (ai rn') (ai zh.1) fj;have eB:=CM (ai mn) (ai yl.1) fm (ai a4) (ai yh.1) fl;refine Am C.q0 rfl rfl zU fun T hl g=>?_;have hl:T.length=168:=hl;have a2:c_facetroomlaw23_ImageGrows.results=[(14,none)]:=rfl;have N:ad T 0=.int .i64 d:=g 0 (by simp);have g1:ad T 1=s1:=g 1 (by simp);have g2:ad T 2=.agg [wc,.bool cb]:=g 2 (by simp);have F:ad T 3=.int .i64 x:=g 3 (by simp);have B:ad T 4=s2:=g 4 (by simp);have g5:ad T 5=.agg [.bool rn,.bool zl.1,pl,.bool rn',.bool zh.1,ph]:=g 5 (by simp);have g6:ad T 6=.agg [.bool mn,.bool yl.1,ql,.bool a4,.bool yh.1,qh]:=g 6 (by simp);clear g;refine aI ?_;refine zW (fX hl g2 g5 g6 bx eB (HO ef) @aw) ?_;obtain ⟨H1,aU⟩:∃ X,X=(((H.up 4).put H.next (.cells [wc,.bool cb] t_api_Con true)).put (H.next+1) (.cells [.bool rn,.bool zl.1,pl,.bool rn',.bool zh.1,ph] aV true)).put (H.next+2) (.cells [.bool mn,.bool yl.1,ql,.bool a4,.bool yh.1,qh] aV true):=⟨_,rfl⟩
 have cJ:Kp H H1:=by rw [aU]; exact zK
 have cU:H1.get H.next=some (.cells [wc,.bool cb] t_api_Con true):=by rw [aU,au zO,au zO,al]
 have cX:H1.get (H.next+1)=some (.cells [.bool rn,.bool zl.1,pl,.bool rn',.bool zh.1,ph] aV true):=by rw [aU,au zO,al]
 have c1:H1.get (H.next+2)=some (.cells [.bool mn,.bool yl.1,ql,.bool a4,.bool yh.1,qh] aV true):=by rw [aU,al]
 have w1:=cJ.wf;rw [<- aU];clear aU;refine dC (fun T'=>T'.length=168/\ad T' 0=.int .i64 d/\ad T' 1=s1/\ad T' 3=.int .i64 x/\ad T' 4=s2/\ad T' 9=.ptr H.next 0/\ad T' 12=.ptr (H.next+1) 0/\ad T' 13=.ptr (H.next+2) 0) (zV (bB hl N g1 F B)) ?_;clear hl N g1 g2 F B g5 g6;rintro T ⟨hl,N,g1,F,B,t9,U,W⟩;refine aI ?_;refine zW hl ?_;refine AnsH.eq (GO C zF) fun H2 eT=>?_;obtain ⟨k2,_,w2⟩:=zT H1 zK eT;refine zW (aE hl @aw) ?_;refine aI ?_;refine zW (aD hl N g1) ?_;refine AnsH.use (Jj C zF ((e0.mono (cJ.trans k2).sub).mono (zG H2)) gl) ?_;rintro v3 H3 ⟨ct,cj⟩;obtain ⟨y,u,z,b,cG,ou,oz⟩:=Mm ct;obtain ⟨k3,_,w3⟩:=zT H2 zK cj;have e3:Emp H3 H2.next (H2.next+9):=(Emp.start w2 (k:=9)).keep cj
 have n3:=e3.1;have fA:=e3.2 (H2.next+6) zO zO;obtain ⟨G3,ba⟩:∃ G3,G3=(H3.put (H2.next+6) (.cells [.int .i64 0,.nilSl,.nilSl] am true)).put (H2.next+6) (.cells [.int .i64 y,u,z] am true):=⟨_,rfl⟩
 have eb:Kp H2 G3:=by rw [ba]; exact zK
 have fq:Sub H3 G3:=by rw [ba]; exact (aG fA).put fA _
 have ey:=eb.wf;have pA:G3.get (H2.next+6)=some (.cells [.int .i64 y,u,z] am true):=by rw [ba,al]
 refine zW (aO hl cG @jj @aw) ?_;rw [<- ba];clear ba;obtain ⟨P,hP⟩:∃ P,P=H2.next+6:=⟨_,rfl⟩
 rw [<- hP] at pA;rw [<- hP];have k13:Kp H1 G3:=k2.trans eb;have fU:=k13.le;have kA:Kp H G3:=cJ.trans k13;have bY:=k13.get cU;have b0:=k13.get cX;have b2:=k13.get c1;have eX:P7 G3 v3 d:=by
  rcases ct with h | ⟨n,p,K,G,h1,h2,h3,h4,h5⟩
  ·exact .inl h
  ·exact .inr ⟨n,p,K,G,h1,h2,h3,h4.mono fq,h5⟩
 clear ct cj e3 fA n3 cU cX c1;refine dC (fun T'=>T'.length=168/\ad T' 0=.int .i64 d/\ad T' 3=.int .i64 x/\ad T' 4=s2/\ad T' 9=.ptr H.next 0/\ad T' 12=.ptr (H.next+1) 0/\ad T' 13=.ptr (H.next+2) 0/\ad T' 15=.bool true/\ad T' 16=.ptr P 0/\ad T' 17=.bool b) (zV (fo hl N F B t9 U W)) ?_;clear hl N g1 F B t9 U W;rintro T ⟨hl,N,F,B,t9,U,W,aS,V,cN⟩;have fV:=ey _ _ pA;refine aI ?_;rcases eX with ⟨_,h,-⟩ | ⟨n,p,K,G,rfl,aj,h,b5,A,lK,lG⟩
 ·rw [cG] at h;cases h;refine zW (dj hl aS V cN @gK a2) ?_;exact zK
 rw [cG] at h;cases h;refine zW (fX hl B U V cN pA b0 @jq) ?_;refine AnsH.eq (Fk C (n:=n) zF (b5.mono (zG G3)) ((cD.mono kA.sub).mono (zG G3)) ((cw.mono kA.sub).mono (zG G3)) ((cv.mono kA.sub).mono (zG G3))) fun H4 ck=>?_;obtain ⟨k4,_,w4⟩:=zT G3 zK ck;have kB:Kp H H4:=kA.trans k4;have c2:=k4.get b2
 generalize da:(mZ K G || decide (4<n) || decide (6<K.length) || decide (4<G.length) || fN 5 1 af || (decide (1<zl.2.length) || decide (1<zh.2.length)))=bl
 cases bl with
 | true =>
  refine zW (aO hl aS @gK a2) ?_;exact zK
 | false =>
 simp only [Yq,decide_eq_false_iff_not] at da;obtain ⟨⟨⟨⟨-,b4⟩,fD⟩,cB⟩,fG,fH⟩:=da;refine zW (aO hl W c2 @jq) ?_;refine AnsH.eq (EQ C (m:=1) zF ((cy.mono kB.sub).mono (zG H4)) ((cx.mono kB.sub).mono (zG H4))) fun bX eU=>?_;have bM:Kp H4 bX:=Kp.trans zK eU;have e4:=k4.trans bM;have gp:=bM.wf;have cI:=kB.trans bM
 generalize db:(decide (1<yl.2.length) || decide (1<yh.2.length))=bm
 cases bm with
 | true =>
  refine zW (aO hl aS @gK a2) ?_;exact zK
 | false =>
 simp only [Yq,decide_eq_false_iff_not] at db;obtain ⟨fJ,fK⟩:=db;have eO:=Fx (p:=.nilSl) (q:=.bool false) ef (ai cb);have cV:=e4.get bY;refine zW (bB hl t9 aS cV eO) ?_;have cl:=ck.trans bM;have n4:G3.next+21<=bX.next:=cl.le
 have f4:bX.get (G3.next+14)=none:=cl.free (show G3.next+14<G3.next+21 by omega) (ey.fresh (b:=G3.next+14) zO);refine AnsH.eq (qJ C (ls:=[(M,cb)]) (n:=1) zF (Xm (al _ _ _) ((cd.mono cI.sub).mono (aG f4))) zO) fun s dB=>?_;obtain ⟨k5,_,w5⟩:=zT G3 zK dB;have kC:Kp H s:=kA.trans k5;have fO:=kC.le;cases aC:fT 1 [(M,cb)] with
 | true =>
  refine zW (aO hl aS @gK a2) ?_;exact zK
 | false =>
 refine zW (aD hl aS @aw) ?_;have dv:=lZ cB;have c9:nr af:=⟨zO,fun z hz=>by have:=dv.2 z hz; omega⟩
 have eH:nr M:=Js aC _ (Ld.2 rfl);have dw:=WP aC;have bQ:=k5.get pA;have cW:=k5.get bY;have bq:=k5.get b0;have c3:=k5.get b2;have eG:=b5.mono k5.sub;have cE:=cD.mono kC.sub;have bI:=cw.mono kC.sub;have bG:=cv.mono kC.sub;have gg:=cy.mono kC.sub;have dU:=cx.mono kC.sub;have dn:=cd.mono kC.sub;refine dC (fun T'=>T'.length=168/\ad T' 0=.int .i64 (n:Int)/\ad T' 3=.int .i64 x/\ad T' 4=s2/\ad T' 9=.ptr H.next 0/\ad T' 12=.ptr (H.next+1) 0/\ad T' 13=.ptr (H.next+2) 0/\ad T' 16=.ptr P 0) (zV (fX hl N F B t9 U W V)) ?_;clear hl N F B t9 U W aS V cN pA ck dB cl b5 f4 n4 b0 bY b2 cV c2 aC;rintro T ⟨hl,N,F,B,t9,U,W,V⟩;refine aI ?_;obtain ⟨vc,vg,eY,bv,bC⟩:=eG;cases eY;have n5:=k5.le;by_cases aW:de n x=0/\tW af=true/\eM rn zl rn' zh=true/\gC n af=0
 case neg =>
  refine zW (fX hl F B U V bQ bq @jq) ?_;refine AnsH.use (C3 C (n:=n) zF ⟨_,_,rfl,bv.mono (zG s),bC.mono (zG s)⟩ A (cE.mono (zG s)) c9 (bI.mono (zG s)) (bG.mono (zG s)) bt.1 br.1 zO zO (by
   by_cases q1:de n x=0
   ·by_cases q2:tW af=true
    ·by_cases q3:eM rn zl rn' zh=true
     ·exact .inr (.inr (.inr fun q4=>aW ⟨q1,q2,q3,q4⟩))
     ·exact .inr (.inr (.inl (by simpa using q3)))
    ·exact .inr (.inl (by simpa using q2))
   ·exact .inl q1)) ?_
  rintro _ H6 ⟨⟨c,bd,rfl⟩,aL⟩;obtain ⟨k6,_,w6⟩:=zT s zK aL;have n6:s.next+11<=H6.next:=aL.le
  have kD:=kC.trans k6;refine zW (aD hl @jj @aw) ?_;refine aI ?_;refine zW (aO hl bd @gK a2) ?_;exact zK
 case pos =>
 obtain ⟨cu,aJ,dK,bK⟩:=aW;unfold de at cu;split at cu
 case isTrue=>omega
 obtain ⟨o,rfl⟩:∃ o:Nat,x=(o:Int):=⟨x.toNat,zO⟩
 have aQ:o<n:=zO;unfold gC at bK;rw [if_pos aJ] at bK;split at bK
 case isTrue=>omega
 rename_i aH;clear bK cu;have aH:af.length=n+1:=zO;obtain ⟨aK,d7⟩:=Kb gr cB aJ;have bL:RowV s s2 (af.map aR):=SlV.int cE d7;obtain ⟨a,ha⟩:∃ a,a=af.map aR:=⟨_,rfl⟩
 rw [<- ha] at aK bL;have ax:a.length=n+1:=by rw [ha,rR,aH]
 clear ha d7 aJ aH cB c9 cE dv;obtain ⟨bb,bj⟩:=Ru bI bG bt.1 br.1 dK;have a8:Bt 64 (aR zl):=qX (n:=1) bt.1 zO;have a7:Bt 64 (aR zh):=qX (n:=1) br.1 zO;obtain ⟨lo,dI⟩:∃ q,q=aR zl:=⟨_,rfl⟩
 obtain ⟨hi,dx⟩:∃ q,q=aR zh:=⟨_,rfl⟩
 rw [<- dI] at a8 bb bj;rw [<- dx] at a7 bb bj;have dF:=Xl bj;have eg:=Wm (x:=o) (rn:=rn) (rn':=rn') A aj zO zO ax aK a8 a7;refine zW (fX hl F B U V bQ bq @jq) ?_;refine AnsH.use (A6 C (n:=n) (x:=o) zF ⟨_,_,rfl,bv.mono (zG s),bC.mono (zG s)⟩ A zO (bL.mono (zG s)) ax aK (bb.mono (zG s)) bj a8 a7 aQ aj zO) ?_;rintro _ H6 ⟨⟨eu,ew,rfl,b8,cg⟩,aL⟩;obtain ⟨k6,_,w6⟩:=zT s zK aL;have n6:s.next+11<=H6.next:=aL.le
 have fd:=b8.one;have ff:=cg.one;have f6:H6.get (s.next+8)=none:=aL.free (show s.next+8<s.next+11 by omega) (w5.fresh (b:=s.next+8) zO);obtain ⟨t,bc⟩:∃ X,X=(H6.put (s.next+8) (.cells [.int .i64 0,.nilSl,.nilSl] am true)).put (s.next+8) (.cells [.int .i64 (n:Int),eu,ew] am true):=⟨_,rfl⟩
 have s6:Sub H6 t:=by rw [bc]; exact (aG f6).put f6 _
 have O:Kp s t:=by rw [bc]; exact zK
 have cL:t.get (s.next+8)=some (.cells [.int .i64 (n:Int),eu,ew] am true):=by rw [bc,al]
 refine zW (aD hl @jj @aw) ?_;rw [<- bc];clear bc;obtain ⟨Q,hQ⟩:∃ X,X=s.next+8:=⟨_,rfl⟩
 rw [<- hQ] at cL;rw [<- hQ];have fw:=O.wf;have ed:=kC.trans O;have fP:=ed.le;have bR:=O.get bQ;have bZ:=O.get cW;have cZ:=O.get bq;have c4:=O.get c3;have dh:=b8.mono s6;have ds:=cg.mono s6;have bw:=bv.mono O.sub;have bD:=bC.mono O.sub;have d3:=bL.mono O.sub;have c7:=bb.mono O.sub;have ce:=dn.mono O.sub;have dR:=bI.mono O.sub;have dO:=bG.mono O.sub;have d0:=gg.mono O.sub;have dV:=dU.mono O.sub;refine dC (fun T'=>T'.length=168/\ad T' 0=.int .i64 (n:Int)/\ad T' 3=.int .i64 (o:Int)/\ad T' 4=s2/\ad T' 9=.ptr H.next 0/\ad T' 12=.ptr (H.next+1) 0/\ad T' 13=.ptr (H.next+2) 0/\ad T' 16=.ptr P 0/\ad T' 18=.ptr Q 0/\ad T' 19=.int .i64 0) (zV (fX hl N F B t9 U W V)) ?_;clear hl N F B t9 U W V aL f6 b8 cg n6 w6 k6 bQ cW bq c3 bv bC bL bb dn bI bG gg dU fd ff;rintro T ⟨hl,N,F,B,t9,U,W,V,el,em⟩;refine aI ?_;refine zW (aD hl em @aw) ?_;obtain ⟨G6,bu⟩:∃ q,q=Lin.gensP n (K++[(M.map aR,cb)]):=⟨_,rfl⟩
 obtain ⟨K6,b4⟩:∃ q,q=Lin.consP n G6:=⟨_,rfl⟩
 refine dy (fun T' X=>Kp t X/\((∃ c:Int,c≠0/\ad T' 21=.int .i64 c)\/(tW M=true/\M.length=n+1/\∃ vc vg L,ad T' 20=.ptr L 0/\ad T' 21=.int .i64 0/\X.get L=some (.cells [.int .i64 (n:Int),vc,vg] am true)/\SlV conE t_api_Con X vc K6/\SlV genE ag X vg G6))) rfl ?_ ?_
 ·by_cases aW:tW M=false\/M.length≠n+1
  ·refine zW (bB hl t9 V bR bZ) ?_;refine AnsH.use (Wv C (n:=n) zF ⟨_,_,rfl,bw.mono (zG t),bD.mono (zG t)⟩ A (ce.mono (zG t)) eH zO aW) ?_;rintro _ H7 ⟨⟨c,bd,rfl⟩,aY⟩;obtain ⟨k7,_,w7⟩:=zT t zK aY;have n7:t.next+11<=H7.next:=aY.le
   refine zW (aD hl @jj @aZ) ?_;exact ⟨zK,.inl ⟨c,bd,rfl⟩⟩
  have aJ:tW M=true:=by
   cases h:tW M with
   | true=>rfl
   | false=>exact absurd (.inl h) aW
  have aH:M.length=n+1:=Nw fun h=>aW (.inr h);obtain ⟨bz,dp⟩:=Kb gc dw aJ;have eZ:RowV t wc (M.map aR):=SlV.int ce dp;have hcl:(M.map aR).length=n+1:=by rw [rR,aH]
  have eE:∀ c∈K++[(M.map aR,cb)],c.1.length=n+1/\Lin.Bd (2^64) c.1:=fun c h=>by
   rcases Eu.1 h with h | h
   ·exact A.rowK c h
   ·rw [Ld] at h; subst h; exact ⟨hcl,bz⟩
  have gb:=tt (m:=64) aj eE;refine zW (bB hl t9 V bR bZ) ?_;refine AnsH.use (WV C (n:=n) (m:=64) (m2:=16*(64+4)) zF ⟨_,_,rfl,bw.mono (zG t),bD.mono (zG t)⟩ A (eZ.mono (zG t)) hcl bz zO zO zO (fun x hx=>(gb x hx).2) zO) ?_;rintro v7 H7 ⟨dJ,aY⟩;obtain ⟨k7,_,w7⟩:=zT t zK aY;have n7:t.next+11<=H7.next:=aY.le
  rw [<- bu] at dJ;rcases dJ with ⟨rfl,fI⟩ | ⟨p,rfl,⟨cQ,bW,rfl,bg,aX⟩,fL,fS⟩
  ·refine zW (aD hl @jj @aZ) ?_;exact ⟨zK,.inl ⟨_,by decide,rfl⟩⟩
  rw [<- b4] at bg;have f1:=bg.one;have f3:=aX.one;have f7:H7.get (t.next+8)=none:=aY.free (show t.next+8<t.next+11 by omega) (fw.fresh (b:=t.next+8) zO);have s7:∀ e1 e2,Sub H7 ((H7.put (t.next+8) e1).put (t.next+8) e2):=fun e1 e2=>(aG f7).put f7 _;refine zW (aD hl @jj @aZ) ?_;exact ⟨zK,.inr ⟨aJ,aH,cQ,bW,_,rfl,al _ _ _,bg.mono (s7 _ _),aX.mono (s7 _ _)⟩⟩
 rintro T7 S ao ⟨D,dH⟩;have aN:T7.length=168:=ao.len.trans (by simp only [dz]; exact hl);have u0:ad T7 0=.int .i64 (n:Int):=(ao.at_ 0 zU).trans (zV (aE hl N));have u3:ad T7 3=.int .i64 (o:Int):=(ao.at_ 3 zU).trans (zV (aE hl F));have u4:ad T7 4=s2:=(ao.at_ 4 zU).trans (zV (aE hl B));have cO:ad T7 12=.ptr (H.next+1) 0:=(ao.at_ 12 zU).trans (zV (aE hl U));have eo:ad T7 13=.ptr (H.next+2) 0:=(ao.at_ 13 zU).trans (zV (aE hl W));have av:ad T7 16=.ptr P 0:=(ao.at_ 16 zU).trans (zV (aE hl V));have a5:ad T7 18=.ptr Q 0:=(ao.at_ 18 zU).trans (zV (aE hl el));have ez:=D.wf;have e6:=ed.trans D;have fQ:=D.le;have eh:=D.get bR;have bS:=D.get cL;have b1:=D.get cZ;have c5:=D.get c4;have ca:=dh.mono D.sub;have ch:=ds.mono D.sub;have dd:=bw.mono D.sub;have dq:=bD.mono D.sub;have cA:=d3.mono D.sub;have c8:=c7.mono D.sub;have dS:=dR.mono D.sub;have dP:=dO.mono D.sub;have d1:=d0.mono D.sub;have dW:=dV.mono D.sub;clear ao N F B t9 U W V el em hl bR cL cZ c4 bZ dh ds bw bD d3 c7 ce dR dO d0 dV;refine dy (fun _ X=>Kp S X) rfl ?_ ?_
 ·rcases dH with ⟨c,bd,bU⟩ | ⟨aJ,aH,cQ,bW,L,ep,bU,pL,bg,aX⟩
  ·refine zW (aO aN bU bd @aZ) ?_;exact zK
  have en:bf [AV.int .i64 (n:Int),cQ,bW] 2 none=some bW:=rfl;by_cases h6:G6.length<=6
  case neg =>
   have b3:¬ (G6.length:Int)<=6:=zO;refine zW (fX aN ep bU pL en aX.lenV b3 @aZ) ?_;exact zK
  case pos =>
  have b3:(G6.length:Int)<=6:=zO;obtain ⟨bz,dp⟩:=Kb gc dw aJ;have hcl:(M.map aR).length=n+1:=by rw [rR,aH]
  have bP:=Xc (b:=cb) A aj hcl bz (by rw [<- bu]; exact h6);have gk:Lin.inP G6 K=true:=by rw [bu]; exact Lin.meet_in A.own hcl
  rw [<- bu,<- b4] at bP;have fi:=Wm (x:=o) (rn:=rn) (rn':=rn') bP aj h6 zO ax aK a8 a7;refine zW (qQ aN u3 u4 cO ep bU pL b1 en @jq aX.lenV b3) ?_;refine AnsH.use (A6 C (n:=n) (x:=o) zF ⟨_,_,rfl,bg.mono (zG S),aX.mono (zG S)⟩ bP zO (cA.mono (zG S)) ax aK (c8.mono (zG S)) bj a8 a7 aQ aj h6) ?_;rintro _ H8 ⟨⟨fs,ft,rfl,ay,aB⟩,cm⟩;obtain ⟨k8,_,w8⟩:=zT S zK cm;have n8:S.next+19<=H8.next:=cm.le
  have fe:=ay.one;have fg:=aB.one;have f8:H8.get (S.next+16)=none:=cm.free (show S.next+16<S.next+19 by omega) (ez.fresh (b:=S.next+16) zO);have s8:∀ e1 e2,Sub H8 ((H8.put (S.next+16) e1).put (S.next+16) e2):=fun e1 e2=>(aG f8).put f8 _;have q8:=k8.get bS;have fc:=ez _ _ bS;refine zW (aO aN a5 q8 @jj) ?_;refine AnsH.eq (WT C (n:=n) zF ⟨_,_,rfl,ay.mono ((s8 _ _).trans (Sub.bump _ _)),aB.mono ((s8 _ _).trans (Sub.bump _ _))⟩ ⟨_,_,rfl,(ca.mono k8.sub).mono ((s8 _ _).trans (Sub.bump _ _)),(ch.mono k8.sub).mono ((s8 _ _).trans (Sub.bump _ _))⟩ fi eg) fun H9 aM=>?_;rw [Lin.less_in A.own bP.own gk ax aQ dF];obtain ⟨k9,_,w9⟩:=zT S zK aM;refine zW (aE aN @aZ) ?_;exact zK
 rintro T8 I aq R;have bi:T8.length=168:=aq.len.trans aN;have v0:=(aq.at_ 0 zU).trans u0;have v3:=(aq.at_ 3 zU).trans u3;have v4:=(aq.at_ 4 zU).trans u4;have eq:=(aq.at_ 12 zU).trans cO;have er:=(aq.at_ 13 zU).trans eo;have a6:=(aq.at_ 16 zU).trans av;have es:=(aq.at_ 18 zU).trans a5;have fx:=R.wf;have e7:=e6.trans R;have ei:=R.get eh;have ek:=R.get bS;have c0:=R.get b1;have c6:=R.get c5;have di:=ca.mono R.sub;have dt:=ch.mono R.sub;have df:=dd.mono R.sub;have dr:=dq.mono R.sub;have d4:=cA.mono R.sub;have dT:=dS.mono R.sub;have dQ:=dP.mono R.sub;have d2:=d1.mono R.sub;have dX:=dW.mono R.sub;clear aq u0 u3 u4 cO eo av a5 aN dH eh bS b1 c5 ca ch dd dq cA c8 dS dP d1 dW;refine dy (fun T' X=>Kp I X/\(ad T' 27=.int .i64 8\/∃ sn ae ah ab q1 q2 L,ad T' 26=.ptr L 0/\ad T' 27=.int .i64 0/\X.get L=some (.cells [.bool sn,.bool (decide (ae<0)),q1,.bool ah,.bool (decide (ab<0)),q2] aV true)/\bO X q1 ae.natAbs/\bO X q2 ab.natAbs/\(sn=false->rn=false/\ae<=lo)/\(ah=false->rn'=false/\hi<=ab)/\Bt 64 ae/\Bt 64 ab/\eM sn (bF ae) ah (bF ab)=true)) rfl ?_ ?_
 ·refine zW (dj bi eq er c0 c6 @jq) ?_;refine AnsH.use (W8 C (a:=(rn,zl,rn',zh)) (c:=(mn,yl,a4,yh)) zF (dT.mono (zG I)) (dQ.mono (zG I)) (d2.mono (zG I)) (dX.mono (zG I)) ⟨⟨bt.1,(by show zl.2.length<=1; omega)⟩,br.1,(by show zh.2.length<=1; omega)⟩ ⟨⟨eD.1,(by show yl.2.length<=1; omega)⟩,eC.1,(by show yh.2.length<=1; omega)⟩ dK) ?_;rintro _ H9 ⟨⟨-,rfl⟩ | ⟨_,sn,ae,ah,ab,rfl,⟨q1,q2,rfl,aC,bJ⟩,x1,x2,x3,x4,x5⟩,aM⟩
  ·have k9:Kp I H9:=Kp.trans zK aM;have w9:=k9.wf;have n9:I.next+9<=H9.next:=aM.le
   have bs:=Uq (a:=.bool false) (b:=.bool false) (c:=.nilSl) (d:=.bool false) (e:=.bool false) (f:=.nilSl) (ty:=aV) (ai false) (ai false) bH (ai false) (ai false) bH;refine zW (aD bi bs @aZ) ?_;exact zK
  ·have k9:Kp I H9:=Kp.trans zK aM;have w9:=k9.wf;have n9:I.next+9<=H9.next:=aM.le
   have f5:=aC.one;have gm:=bJ.one;have p1:=ai sn;have p2:=ai (decide (ae<0));have p3:=ai ah;have p4:=ai (decide (ab<0));have f9:H9.get (I.next+6)=none:=aM.free (show I.next+6<I.next+9 by omega) (fx.fresh (b:=I.next+6) zO);have s9:∀ e1 e2,Sub H9 ((H9.put (I.next+6) e1).put (I.next+6) e2):=fun e1 e2=>(aG f9).put f9 _;refine zW (aD bi @Uq @aZ) ?_;rw [<- dI] at x1;rw [<- dx] at x2;exact ⟨zK,.inr ⟨sn,ae,ah,ab,q1,q2,_,rfl,al _ _ _,aC.mono (s9 _ _),bJ.mono (s9 _ _),x1,x2,x3,x4,x5⟩⟩
 rintro T9 J aP ⟨ar,dM⟩;have a1:T9.length=168:=aP.len.trans bi;have u0:=(aP.at_ 0 zU).trans v0;have u3:=(aP.at_ 3 zU).trans v3;have u4:=(aP.at_ 4 zU).trans v4;have av:=(aP.at_ 16 zU).trans a6;have a5:=(aP.at_ 18 zU).trans es;have eA:=ar.wf;have e8:=e7.trans ar;have cK:=ar.get ei;have cM:=ar.get ek;have dk:=di.mono ar.sub;have du:=dt.mono ar.sub;have b7:=df.mono ar.sub;have cf:=dr.mono ar.sub;have d5:=d4.mono ar.sub;clear aP v0 v3 v4 eq er a6 es bi ei ek c0 c6 di dt df dr d4 dT dQ d2 dX;refine dy (fun _ X=>Kp J X) rfl ?_ ?_
 ·rcases dM with cP | ⟨sn,ae,ah,ab,q1,q2,L,fr,cP,pL,aC,bJ,x1,x2,x3,x4,x5⟩
  ·refine zW (aD a1 cP @aZ) ?_;exact zK
  have fh:=Wm (x:=o) (rn:=sn) (rn':=ah) A aj zO zO ax aK x3 x4;have iv:ItvV J (.agg [.bool sn,.bool (decide (ae<0)),q1,.bool ah,.bool (decide (ab<0)),q2]) sn ae ah ab:=⟨q1,q2,rfl,aC,bJ⟩
  refine zW (jU a1 u3 u4 av fr cP cK pL @jq) ?_;refine AnsH.use (A6 C (n:=n) (x:=o) zF ⟨_,_,rfl,b7.mono (zG J),cf.mono (zG J)⟩ A zO (d5.mono (zG J)) ax aK (iv.mono (zG J)) x5 x3 x4 aQ aj zO) ?_;rintro _ HA ⟨⟨fs,ft,rfl,ay,aB⟩,ge⟩;have bN:Kp J HA:=Kp.trans zK ge;have wA:=bN.wf;have nA:J.next+13<=HA.next:=ge.le
  have fe:=ay.one;have fg:=aB.one;have fA:HA.get (J.next+10)=none:=ge.free (show J.next+10<J.next+13 by omega) (eA.fresh (b:=J.next+10) zO);have sA:∀ e1 e2,Sub HA ((HA.put (J.next+10) e1).put (J.next+10) e2):=fun e1 e2=>(aG fA).put fA _;have qA:=bN.get cM;have fc:=eA _ _ cM;refine zW (aO a1 a5 qA @jj) ?_;refine AnsH.eq (WT C (n:=n) zF ⟨_,_,rfl,(dk.mono bN.sub).mono ((sA _ _).trans (Sub.bump _ _)),(du.mono bN.sub).mono ((sA _ _).trans (Sub.bump _ _))⟩ ⟨_,_,rfl,ay.mono ((sA _ _).trans (Sub.bump _ _)),aB.mono ((sA _ _).trans (Sub.bump _ _))⟩ eg fh) fun HB eV=>?_;rw [Lin.more_in A.own ax aQ dF x1 x2];have cI:Kp J HB:=Kp.trans zK eV;have wB:=cI.wf;refine zW (aE a1 @aZ) ?_;exact zK
 rintro cR aT bk bn;have a0:cR.length=168:=bk.len.trans a1;have v0:=(bk.at_ 0 zU).trans u0;have v3:=(bk.at_ 3 zU).trans u3;have a6:=(bk.at_ 16 zU).trans av;have ga:=bn.wf;have ec:=e8.trans bn;have fM:=ec.le;have fn:=bn.get cK;have eJ:=b7.mono bn.sub;have eP:=cf.mono bn.sub;clear bk u0 u3 u4 av a5 a1 cK cM dk du b7 cf d5 dM;refine aI ?_;have ej:IntKind.i64.wrap ((n:Int)+1)=((n+1:Nat):Int):=by rw [wrap_i64] <;> omega
 have ex:IntKind.i64.wrap ((o:Int)+1)=((o+1:Nat):Int):=by rw [wrap_i64] <;> omega
 have dL:∀ H':Heap,Ja H' (aT.next+2) d9 1 8 [.int .i64 0] (.int .i64 ((n+1:Nat):Int)) (.int .i64 ((n+1:Nat):Int))=some (.own (aT.next+2) 0 (n+1) (n+1) 1 true,H'.put (aT.next+2) (.cells ((List.replicate (n+1) [AV.int .i64 0]).flatten) d9 true)):=fun H'=>iS _ _ _ _ _ _ _ _ _ zO zO rfl;refine zW (aO a0 v0 ej dL) ?_;refine AnsH.use (Wo C zF (Xa (al _ _ _)) (by rw [Ye]; omega) (fun z hz=>by have:=Yw hz; subst this; decide)) ?_;rintro _ A1 ⟨⟨b,cs,eI,rfl,ci,cc⟩,dD⟩;have ea:Kp aT A1:=Kp.trans zK dD;have fu:=ea.wf;have fE:aT.next+5<=b:=eI
 have fW:=fu _ _ ci;rw [Ye];refine zW (aE a0 @aw) ?_;refine aI ?_;refine zW (aD a0 v3 ex) ?_;refine AnsH.use (jk C (n:=1) zF zO zO) ?_;rintro v2 A2 ⟨⟨w,rfl,dN⟩,dE⟩;have cH:Kp A1 A2:=Kp.trans zK dE;have e5:=ea.trans cH;have fv:=e5.wf;have ow:=dN.one;have bE:=cH.get ci;have gs:=fv _ _ bE;have fF:cs.length=(n+1)*2:=by have:=cc.1; rw [Ye] at this; exact this
 have cF:CS (some (.cells cs aa true)) 2 ((o+1)*2) (.agg [.bool false,w])=some (.cells (cs.take ((o+1)*2)++[.bool false,w]++cs.drop ((o+1)*2+2)) aa true):=fR (zg (ai false) ow) zO;have dA:cS 2 (.own b 0 (n+1) (n+1) 2 true) (.int .i64 ((o+1:Nat):Int))=some (.ptr b ((o+1)*2)):=by
  have:=jB (b:=b) (off:=0) (n:=n+1) (c:=n+1) (sz:=2) (x:=true) (k:=.i64) (j:=o+1) zO
  simpa using this
 obtain ⟨a9,dc⟩:∃ c,c=cs.take ((o+1)*2)++[.bool false,w]++cs.drop ((o+1)*2+2):=⟨_,rfl⟩
 rw [<- dc] at cF;have dl:Cells intE A2 a9 (unitX n o 1):=by rw [dc]; exact (Cells.mono (E:=intE) (cH.sub.t _) cc).set (i:=o+1) (by simp; omega) ⟨w,rfl,dN⟩
 refine zW (bB a0 dA bE cF @aw) ?_;obtain ⟨Y,hY⟩:∃ q,q=A2.put b (.cells a9 aa true):=⟨_,rfl⟩
 have kY:Kp aT Y:=by rw [hY]; exact zK
 have eR:Y.get b=some (.cells a9 aa true):=by rw [hY,al]
 have eL:Cells intE Y a9 (unitX n o 1):=by rw [hY]; exact Cells.mono (E:=intE) (SubT.put_ty bE zU) dl
 have dG:(unitX n o 1).length=n+1:=Wx n o 1;have d6:RowV Y (.own b 0 (n+1) (n+1) 2 true) (unitX n o 1):=(show Own intE aa (Heap.nil 0) Y b true (.own b 0 (n+1) (n+1) 2 true) (unitX n o 1) from ⟨a9,by rw [dG]; rfl,eR,eL,xq _⟩).sl;obtain ⟨wo,d8⟩:∃ q,q=AV.own b 0 (n+1) (n+1) 2 true:=⟨_,rfl⟩
 rw [<- d8] at d6;have wY:=kY.wf;have e9:=ec.trans kY;have bp:=kY.get fn;have ay:=eJ.mono kY.sub;have aB:=eP.mono kY.sub;have dY:ad cR 16=.ptr P 0:=a6;rw [<- d8,<- hY];refine dC (fun T'=>T'.length=168/\ad T' 3=.int .i64 (o:Int)/\ad T' 16=.ptr P 0/\ad T' 32=wo) (zV (aD a0 v3 a6)) ?_;clear a0 v0 v3 a6 dY hY dL dA cF ci bE cc dl dD dE;rintro fB ⟨bh,u3,av,bV⟩;have gq:PolyOK n 64 64 K G:=A;have eF:putL n o (unitX n o 1) false 0 false 0 G=G:=by rw [W4,Lin.grow_own A.own.valid aQ]
 refine aI ?_;refine aF ?_;refine zD (dj bh u3 av bV bp @ap) ?_;refine AnsH.use (GM C (a:=0) (b:=0) zF zU zU zU) ?_;rintro vi Y1 ⟨gh,co⟩;have a3:Kp Y Y1:=Kp.trans zK co;have gu:=a3.wf;have gf:=a3.get bp;have gj:Lin.Bd (2^64) (unitX n o 1):=pw fun z hz=>by
  rcases Yr hz with h | rfl
  ·have:=Yw h
   subst this; exact xq _
  ·decide
 refine zD (fo bh u3 av bV bp gf @ap) ?_;refine AnsH.use (A6 C (n:=n) (x:=o) zF ⟨_,_,rfl,(ay.mono a3.sub).mono (zG Y1),(aB.mono a3.sub).mono (zG Y1)⟩ A zO ((d6.mono a3.sub).mono (zG Y1)) dG gj (gh.mono (zG Y1)) (Rj zU) (Bt.zero 64) (Bt.zero 64) aQ aj zO) ?_;rintro _ Y2 ⟨⟨et,ev,rfl,b6,bA⟩,cp⟩;rw [eF,A.own.cons] at b6 bA;rw [A.own.gens] at bA;have fb:Kp Y Y2:=a3.trans (Kp.trans zK cp);have gn:=fb.wf;have f0:=b6.one;have f2:=bA.one;have cq:=co.trans cp;have fZ:Y.next+11<=Y2.next:=cq.le
 have fY:Y2.get (Y.next+8)=none:=cq.free (show Y.next+8<Y.next+11 by omega) (wY.fresh (b:=Y.next+8) zO);refine zD (jU bh u3 av bV bp gf @ap @jj @aw) ?_;obtain ⟨Z,hZ⟩:∃ q,q=(Y2.put (Y.next+8) (.cells [.int .i64 0,.nilSl,.nilSl] am true)).put (Y.next+8) (.cells [.int .i64 (n:Int),et,ev] am true):=⟨_,rfl⟩
 have kZ:Kp Y Z:=by rw [hZ]; exact zK
 have sZ:Sub Y2 Z:=by rw [hZ]; exact (aG fY).put fY _
 have pZ:Z.get (Y.next+8)=some (.cells [.int .i64 (n:Int),et,ev] am true):=by rw [hZ,al]
 rw [<- hZ];clear hZ;have wZ:=kZ.wf;have fa:=e9.trans kZ;have fp:=kZ.get bp;have eK:=ay.mono kZ.sub;have eQ:=aB.mono kZ.sub;refine dC (fun T'=>T'.length=168/\ad T' 16=.ptr P 0/\ad T' 33=.ptr (Y.next+8) 0/\ad T' 34=.int .i64 0) (zV (aE bh av)) ?_;clear bh u3 av bV co cp cq fY;rintro fC ⟨cr,fy,fz,gi⟩;refine aI ?_;refine zW (dj cr fy fz gi pZ fp) ?_;refine AnsH.eq (IK C (n:=n) (n':=n) zF ⟨_,_,rfl,(b6.mono sZ).mono (zG Z),(bA.mono sZ).mono (zG Z)⟩ ⟨_,_,rfl,eK.mono (zG Z),eQ.mono (zG Z)⟩ zO A.smK zO A.smG) fun Z2 eW=>?_;have ee:Kp Z Z2:=Kp.trans zK eW;have gd:=ee.wf;have eS:decide (n=n/\K=K/\G=G)=true:=by simp
 rw [eS];refine zW (aE cr @aw) ?_;refine WC.wb ?_;refine zW (aE cr a2) ?_;exact fa.trans ee
end
end Go.Proofs.YteaefaohjlmjdaaGreat.Ev
namespace Go.Proofs.YteaefaohjlmjdaaGreat.Ev
open Go Go.WideShapes Nn
section
variable {HT:Type} {enc:TypeId × Value->HT} {P:Program} {w:World} {base base':Nat} {sp:Nat->Bool} {held:Bool} {μ:Mu} {F:Nat->Prop} {H:Heap}
def Io {a:List AV} {cs:Array Value} (h:LR μ F w a cs.toList):VR μ F w (.agg a) (.agg cs):=.agg a cs (by simpa using h.1) fun i c v h1 h2=>h.2 i c v h1 (by simpa using h2)
def open_con {tcs tc tvs tv ti te:TypeId} (b:ConTys P tcs tc tv) (j:RowTys P tvs tv ti te) (i:∀ c,c<w.heap.size->F c) {r:Reach} {v:Value} {d:DataW HT} {ps:List MemPlace} (hval:Value.okWide P w r base' tc v) (hd:DataW.Trod enc P w base sp held tc v d ps) :
  ∃ a z,VR μ F w (.agg a) v/\conQE.R H a z/\dZ z.1:=by
 obtain ⟨f0,f1,k,-⟩:=b.c;obtain ⟨cs,rfl,m⟩:=okWide_struct k hval;obtain ⟨l,h⟩:=hd;obtain ⟨a,z,e,f,g⟩:=Oc (H:=H) (μ:=μ) b j i h;exact ⟨a,z,Io e,f,g⟩
end
structure ItvTys (P:Program) (ta tb ti:TypeId):Prop where
 a:∃ f0 f1:Field,P.underlying ta=some (.struct #[f0,f1])/\f0.offset=0/\f1.offset=3/\f0.type=tb/\f1.type=tb
 ca:P.cellsOf ta=6
 cb:P.cellsOf tb=3
 b:∃ f0 f1:Field,P.underlying tb=some (.struct #[f0,f1])/\f0.offset=0/\f1.offset=1/\P.underlying f0.type=some .bool/\P.cellsOf f0.type=1/\f1.type=ti
section
variable {HT:Type} {enc:TypeId × Value->HT} {P:Program} {w:World} {base base':Nat} {sp:Nat->Bool} {held:Bool} {μ:Mu} {F:Nat->Prop} {H:Heap}
def AQ {tvs tv ti te:TypeId} (d:RowTys P tvs tv ti te) (s:∀ c,c<w.heap.size->F c) {m:Nat} {cs:List Value} {x:DataW HT × List MemPlace} (h:DataW.trod enc P w base sp held m ti cs=some x) :
  ∃ (b:Bool) (v:Value) (a:AV) (l:List Nat),cs=[.bool b,v]/\VR μ F w a v/\Lb H a l/\jE (b,l):=by
 obtain ⟨f0,f1,t,u,y,z,A,B,C⟩:=d.i;obtain ⟨xs,n,-,ex,hl,i,hx⟩:=DataW.trod_struct t h;have i:xs.length=2:=by simpa using i
 rw [d.ci] at hl
 match cs,hl with
 | [j,k],_ =>
  have e0:=hx 0 f0 rfl;have e:=hx 1 f1 rfl;rw [eA zO,u,A] at e0;rw [eA zO,y,C] at e;obtain ⟨b,f,-⟩:=DataW.trod_bool z e0;obtain ⟨v,a,zs,g,o,p,q,r,-⟩:=F0 (H:=H) (μ:=μ) s B d.e d.ce e;have q0:j=.bool b:=by simpa using f
  have q1:k=v:=by simpa using g
  clear f g;subst q0; subst q1;exact ⟨b,_,a,zs,rfl,o,p,q,r⟩
def F3 {ta tb tvs tv ti te:TypeId} (g:ItvTys P ta tb ti) (i:RowTys P tvs tv ti te) (t:∀ c,c<w.heap.size->F c) {p:Nat} {cs:List Value} {x:DataW HT × List MemPlace} (h:DataW.trod enc P w base sp held p tb cs=some x) :
  ∃ (n b:Bool) (v:Value) (a:AV) (l:List Nat),cs=[.bool n,.bool b,v]/\VR μ F w a v/\Lb H a l/\jE (b,l):=by
 obtain ⟨f0,f1,u,y,z,A,B,C⟩:=g.b;obtain ⟨xs,n,-,ex,hl,j,hx⟩:=DataW.trod_struct u h;have j:xs.length=2:=by simpa using j
 rw [g.cb] at hl
 match cs,hl with
 | [k,m,o],_ =>
  have e0:=hx 0 f0 rfl;have d:=hx 1 f1 rfl;rw [eA zO,y,B] at e0;rw [eA zO,z,C,i.ci] at d;obtain ⟨n,e,-⟩:=DataW.trod_bool A e0;obtain ⟨b,v,a,l,f,q,r,s⟩:=AQ (H:=H) (μ:=μ) i t d;have q0:k=.bool n:=by simpa using e
  obtain ⟨q1,q2⟩:m=.bool b/\o=v:=by simpa using f
  clear e f;subst q0; subst q1; subst q2;exact ⟨n,b,_,a,l,rfl,q,r,s⟩
def open_itv {ta tb tvs tv ti te:TypeId} (a:ItvTys P ta tb ti) (k:RowTys P tvs tv ti te) (j:∀ c,c<w.heap.size->F c) {r:Reach} {v:Value} {d:DataW HT} {ps:List MemPlace} (hval:Value.okWide P w r base' ta v) (hd:DataW.Trod enc P w base sp held ta v d ps) :
  ∃ (g:List AV) (n n':Bool) (z z':Bool × List Nat) (p s:AV),VR μ F w (.agg g) v/\g=[.bool n,.bool z.1,p,.bool n',.bool z'.1,s]/\Lb H p z.2/\Lb H s z'.2/\jE z/\jE z':=by
 obtain ⟨f0,f1,o,E,G,I,J⟩:=a.a;obtain ⟨cs,rfl,N⟩:=okWide_struct o hval;obtain ⟨M,h⟩:=hd;obtain ⟨xs,n,-,ex,hl,m,hx⟩:=DataW.trod_struct o h;have m:xs.length=2:=by simpa using m
 have hl:cs.toList.length=6:=by rw [<- a.ca]; exact hl
 have e0:=hx 0 f0 rfl;have i:=hx 1 f1 rfl;rw [eA zO,E,I,a.cb] at e0;rw [eA zO,G,J,a.cb] at i;obtain ⟨n,b,v,t,l,e,x,A,C⟩:=F3 (H:=H) (μ:=μ) a k j e0;obtain ⟨n',b',L,u,K,f,y,B,D⟩:=F3 (H:=H) (μ:=μ) a k j i;have hc:cs.toList=[.bool n,.bool b,v,.bool n',.bool b',L]:=by
  have q:cs.toList=(cs.toList.drop 0).take 3++(cs.toList.drop 3).take 3:=by
   rw [List.drop_zero,MU (l:=cs.toList.drop 3) (by rw [XX]; omega),List.take_append_drop]
  rw [q];have e:(cs.toList.drop 0).take 3=_:=e;have f:(cs.toList.drop 3).take 3=_:=f;rw [e,f]; rfl
 refine ⟨_,n,n',(b,l),(b',K),t,u,Io ?_,rfl,A,B,C,D⟩;rw [hc];exact LR.cons (.bool _) (LR.cons (.bool _) (LR.cons x (LR.cons (.bool _) (LR.cons (.bool _) (LR.cons y LR.nil)))))
end
open Go
def OT {P:Program}:JW P fd:=trivial
def Ra {P:Program} {w:World} (a:GlobW w):HR P (fun _=>none) (fun c=>c<w.heap.size) (Heap.nil 0) w:=by
 have h:=Oj (P:=P) a;refine ⟨h.dom,fun c hc=>hc,fun b e hb=>?_,h.inj,fun g cs hg=>(h.gl g cs hg).mono (fun _ _ h=>h) (fun c hc=>h.fb c hc) fun _ _=>rfl⟩;rw [Tr.nil_get] at hb; cases hb
def open_calls {P:Program} (i:P.follows .mixedOrders=true) {tab:Nat->Option aA} (j:Lf P tab) {f:Nat} {afn:aA} (g:tab f=some afn) (d:afn.ext=none) {args:List AV} {vs:List Value} {w:World} (p:GlobW w)
  (hl:LR (fun _=>none) (fun c=>c<w.heap.size) w args vs) (h:Ans tab (.fn f args) (Heap.nil 0) fun v _=>v=.bool true) :
  Calls P f vs.toArray w fun e w'=>e=.returned (.bool true)/\w'.os=w.os/\w'.output=w.output/\w.heap.size<=w'.heap.size/\∀ c,c<w.heap.size->w'.heap[c]? = w.heap[c]?:=by
 obtain ⟨v,H',⟨N,q⟩,rfl⟩:=h;have h1:=q (N+1) (N+1) zO zO;simp only [lU,jW,g,d] at h1;obtain ⟨-,t⟩:=j f afn g;obtain ⟨fn,r,hc⟩:=t fun e h=>by rw [d] at h; cases h
 obtain ⟨l,m,n,o,-⟩:=FI hc d;have hH:=Ra (P:=P) p;have s:=rj (Bm OT i j N) i r l m n o h1 hl hH 0 (fence:=Fence.wide) (rd:=false) (.inl ⟨rfl,rfl⟩);refine (s.calls fun k=>room_wide k).mono fun e w' ⟨u,he,μ',x,_,a⟩=>?_;cases x;refine ⟨he,a.os,a.out,a.size,fun c hc=>a.keep c hc fun b L ⟨e,h,_⟩=>?_⟩;rw [Tr.nil_get] at h; cases h
def Pe {w w':World} (h1:w'.os=w.os) (h2:w'.output=w.output) (h:∀ c,c<w.heap.size->w'.heap[c]? = w.heap[c]?) (d:MemPlace->Prop):w.keptBut w' d:=by
 refine ⟨h1,h2,fun i hi=>?_⟩;rw [h i hi];split
 ·rename_i a b;cases a.symm.trans b;exact ⟨rfl,rfl,rfl,fun _ _=>rfl⟩
 ·rename_i a b;cases a.symm.trans b;exact .inr ⟨rfl,rfl⟩
 ·rfl
section
open Go.ChangeShapes Go.WideShapes Go.ChangeAt Go.RowKit
variable {HT:Type} {enc:TypeId × Value->HT} {P:Program}
def stays {t:TypeId} (hl:laidOutB P=true) (hr:P.readableRec t=true) (e:t<P.types.size) {W W':World} {sp:Nat->Bool} {v:Value} {d:DataW HT} {ps:List MemPlace}
  (h:DataW.Trod enc P W 0 (fun _=>true) true t v d ps) (a:∀ c,c<W.heap.size->W'.heap[c]? = W.heap[c]?) (hlt:∀ x∈ps,x.block<W.heap.size) (hs:∀ p∈ps,sp p.block=true):DataW.Trod enc P W' 0 sp true t v d ps :=
 WideElems.Trod_stays hl hr e h (fun p hp=>by
  have hb:=a p.block (hlt p hp);cases p with
  | cell b o=>exact World.cell?_of_block (w:=W) hb
  | map b=>exact hb) hs
def post_kept {f:Func} {s:ChangeSpec} {apart fresh k i:Bool} {W W':World} {args:Array Value} {v:Value} {ds gs:List (DataW HT)} {before:List MemPlace}
  (hW:DataW.Whole enc P f.params.toList s.vars apart W args.toList ds gs before)
  (g:∀ (b:Nat) (sp:Nat->Bool) (hd:Bool),DataW.TrodAll enc P W' b sp hd f.resultTypes.toList (v.resultList f.resultTypes.size) (s.fn HT (ds++gs)).results [])
  (hargs:∀ sp:Nat->Bool,(∀ p∈before,sp p.block=true)->DataW.TrodAll enc P W' 0 sp true f.params.toList args.toList (s.fn HT (ds++gs)).args before)
  (h:∀ sp:Nat->Bool,DataW.TrodVars enc P W' sp s.vars (s.fn HT (ds++gs)).vars [])
  (h1:W'.os=W.os) (h2:W'.output=W.output) (a:∀ c,c<W.heap.size->W'.heap[c]? = W.heap[c]?)
  (l:∀ (j:Nat) (t:TypeId) (r:Value),f.resultTypes[j]? = some t->(v.resultList f.resultTypes.size)[j]? = some r->Value.okWide P W' .any 0 t r) :
  s.post enc P f apart fresh k i W args v W':=by
 have m:∀ p∈before,(fun b=>decide (b<W.heap.size)) p.block=true:=fun p hp=>by simpa using hW.lt p hp
 have hlt:∀ p∈before,p.block<W.heap.size:=fun p hp=>hW.lt p hp;refine ⟨ds,gs,before,[],before,[],hW,g _ _ _,hargs _ m,h _,Pe h1 h2 a _,fun _=>?_⟩;obtain ⟨_,_,_,_,e,hz,hn⟩:=hW;refine ⟨l,_,_,([]++before)++[],⟨[]++before,[],trodAll_append (hargs _ (fun _ _=>rfl)) (g _ _ _),h _,rfl,?_,?_⟩,?_⟩
 ·intro b off hp;have d:MemPlace.cell b off∈before:=by simpa using hp
  have hb:=hlt _ d;rw [World.frozen?_of_block (w:=W) (a b hb)];exact hz b off d
 ·intro ha
  have:=hn ha
  simpa using this
 ·intro p hp _
  simpa using hp
end
end Go.Proofs.YteaefaohjlmjdaaGreat.Ev
namespace Go.Proofs.YteaefaohjlmjdaaGreat.Ins224
open Go Go.RowKit Go.Lib Go.Proofs
variable {P:Program}
theorem tS:Tryz.prog.underlying 153=some (.slice 24):=by kernel_rfl
theorem iE:(Tryz.prog.info? 24).map (fun i=>(i.zero,i.size,i.bytes))=some (some (Value.slice none 0 0),1,24):=by kernel_rfl
def zE:∀ w,(Go.sizeOf 24).run Tryz.prog w=.ok 1 w:=fun w=>by
 obtain ⟨a,hi,h0,h1,h2⟩:=info_parts iE;simp [Go.sizeOf,typeInfo,hi,h1]
theorem tI:Tryz.prog.underlying 3=some (.int .i64):=by kernel_rfl
theorem E9:Tryz.prog.follows .mixedOrders=true:=by kernel_rfl
def En (w:World) {o:Oper} {a:Act} {K:Act->World->Prop} {Q:Exit->Act->World->Prop} (d s:Operand) (t b:TypeId)
  (e:o.op=.call { callee:=.builtin .copy,args:=#[d,s],argTypes:=#[t,b] }) (v u:Value) (hd:a.eval d=v) (hs:a.eval s=u) {c:Value} {w':World}
  (hr:(Builtin.copy_ #[t,b] o.type #[v,u]).run P w=.ok c w') (h:K (a.put o.dst c) w'):o.wp P a w K Q:=by
 unfold Oper.wp execOp;simp only [e,resolve,invoke,builtin,Sem.run_bind,Sem.run_pure,Result.andThen_ok,List.map_toArray,uz,B3,hd,hs,hr];exact h
def kj (w:World) {ops:Array Oper} {rest:List Oper} {o:Oper} {a:Act} {Q:Exit->Act->World->Prop} (f:o.guard=none) (d s:Operand) (t b:TypeId)
  (g:o.op=.call { callee:=.builtin .copy,args:=#[d,s],argTypes:=#[t,b] }) (v u:Value) (hd:a.eval d=v) (hs:a.eval s=u) {c:Value} {w':World}
  (hr:(Builtin.copy_ #[t,b] o.type #[v,u]).run P w=.ok c w') (h:wpList P ops Q rest (a.put o.dst c) w'):wpList P ops Q (o :: rest) a w :=
 wpList_plain f fun _ e=>En w d s t b g v u hd hs hr (e _ _ h)
def rg {ops:Array Oper} {o:Oper} {a:Act} {w:World} {K:Act->World->Prop} {Q:Exit->Act->World->Prop} {E:Prop}
  (hg:o.guard=none) (d x:Operand) (b c:TypeId) (g:o.op=Op.call { callee:=Callee.builtin Builtin.copy,args:=#[d,x],argTypes:=#[b,c] })
  (v u:Value) (hd:a.eval d=v) (hx:a.eval x=u) {e:Value} {w':World} (hr:(Builtin.copy_ #[b,c] o.type #[v,u]).run P w=.ok e w') (f:K (a.put o.dst e) w') :
  if Region.wanted o (yielded ops a.tmps)=true then Oper.wp P o a w K Q else E:=by
 have h:Region.wanted o (yielded ops a.tmps)=true:=by simp [Region.wanted,hg]
 rw [if_pos h];unfold Oper.wp;simp [execOp,g,resolve,invoke,builtin,hd,hx,hr,Result.andThen];exact f
def qM (b:Nat) (vs:List Value) (o:Nat) (w:World) (h:∀ j,j<vs.length->(w.cell? ⟨b,o+j,none⟩).isSome=true) (k:Nat) (a:(w.cell? ⟨b,k,none⟩).isSome=true):((w.setCells b o vs).cell? ⟨b,k,none⟩).isSome=true:=by
 by_cases c:o<=k/\k<o+vs.length
 ·have:=World.cell?_setCells_in b vs o w h (k-o) zO
  rw [show o+(k-o)=k by omega] at this;rw [this]; rfl
 ·rw [World.cell?_setCells_out b vs o w ⟨b,k,none⟩ (fun _ _=>by show k<o\/o+vs.length<=k; omega)];exact a
set_option maxHeartbeats 4000000 in
set_option maxRecDepth 100000 in
def shift (b off n c i a f m o:Nat) (cs vs:List Value) (w:World) (hi:i<n) (hm:0<m) (ae:n+m<=c) (ab:n+m<=9223372036854775807) (B:a≠b)
  (hcl:cs.length=n) (U:vs.length=m)
  (I:∀ j v,cs[j]? = some v->w.cell? ⟨b,off+j,none⟩=some v) (p:∀ j,j<n+m->(w.cell? ⟨b,off+j,none⟩).isSome=true) (z:∀ j,j<n+m->w.frozen? ⟨b,off+j,none⟩=false)
  (V:∀ j v,vs[j]? = some v->w.cell? ⟨a,f+j,none⟩=some v) (E:∀ v∈cs,v.oneCell'=true) (F:∀ v∈vs,v.oneCell'=true)
  (C D:TypeId) (q r:Nat) (Q:w.shape? a=some (C,q)) (R:w.shape? b=some (D,r)) (O:r≠0) (K:w.frozen? ⟨a,f,none⟩=false) (L:w.frozen? ⟨a,q,none⟩=false) :
  Calls Tryz.prog 224 #[.slice (some ⟨b,off,none⟩) n c,.int .i64 i,.slice (some ⟨a,f,none⟩) m o] w fun e w' =>
   e=.returned (.slice (some ⟨b,off,none⟩) (n+m) c)/\w'=(w.drew.setCells b (off+(i+m)) (cs.drop i)).setCells b (off+i) vs:=by
 have ah:¬ ((m:Int)=0):=zO;have aj:¬ ((i:Int)=(n:Int)):=zO;have A:(Tryz.prog.info? 24).map (·.size)=some 1:=by
  obtain ⟨i0,M,h0,h1,h2⟩:=info_parts iE;rw [M]; simp [h1]
 have P:∀ s cb,(callFunc 234 #[.slice (some ⟨a,f,none⟩) m o,.slice (some ⟨b,off+(i+m),none⟩) s cb]).run Tryz.prog w=.ok (.value (.bool false)) w:=fun s cb=>by
  rw [run_callFunc_extern Tryz.func234 (by kernel_rfl) (by kernel_rfl) (by kernel_rfl) (e:=Extern.SlicesOverlaps.overlaps #[153,153] #[4]) (by kernel_rfl),
   Lib.run_overlaps_apart w 153 4 24 tS 1 zE ⟨a,f,none⟩ ⟨b,off+(i+m),none⟩ m o s cb B C D q r Q R O K L]
  rfl
 have J:(cs.drop i).length=n-i:=by rw [XX,hcl]
 have ag:IntKind.i64.wrap ((i:Int)+(m:Int))=(i:Int)+(m:Int):=by rw [IntKind.wrap_i64]; omega
 have X:(0:Int)<=(i:Int)+(m:Int):=zO;have ad:i<=n:=zO;have af:((i:Int)+(m:Int)).toNat=i+m:=zO;have Y:¬ (c=i+m):=zO;have Z:(i:Int)<=(n:Int)+(m:Int):=zO;have aa:¬ (c=i):=zO;have y:∀ ty d t,(Builtin.copy_ #[153,153] ty #[.slice (some ⟨b,off+(i+m),none⟩) (n+m-(i+m)) d,.slice (some ⟨b,off+i,none⟩) (n+m-i) t]).run Tryz.prog w.drew=.ok (goInt (cs.drop i).length) (w.drew.setCells b (off+(i+m)) (cs.drop i)):=fun ty d t =>
  run_copy_cells w.drew _ _ ty 24 b (off+(i+m)) (n+m-(i+m)) d ⟨b,off+i,none⟩ (n+m-i) t (cs.drop i) tS A (by rw [J]; simp only [Nat.min_def]; split <;> omega)
   (fun j v hj=>by rw [Addr.add_lit,XI]; exact I (i+j) v (by rwa [GQ] at hj))
   (fun j hj=>by rw [XI]; exact p _ zO) (fun j hj=>by rw [XI]; exact z _ zO) (fun v T=>E v (Zo T))
 obtain ⟨g,l⟩:∃ g,g=w.drew.setCells b (off+(i+m)) (cs.drop i):=⟨_,rfl⟩
 have S:∀ k,k<n+m->(g.cell? ⟨b,off+k,none⟩).isSome=true:=fun k N=>by
  rw [l];exact qM b _ _ _ (fun j hj=>by rw [XI]; exact p _ zO) _ (p k N)
 have H:∀ (W:World),(∀ x,W.cell? x=g.cell? x)->(∀ x,W.frozen? x=g.frozen? x)->∀ ty d,(Builtin.copy_ #[153,153] ty #[.slice (some ⟨b,off+i,none⟩) (n+m-i) d,.slice (some ⟨a,f,none⟩) m o]).run Tryz.prog W=.ok (goInt vs.length) (W.setCells b (off+i) vs):=fun W u G ty d =>
  run_copy_cells W _ _ ty 24 b (off+i) (n+m-i) d ⟨a,f,none⟩ m o vs tS A (by rw [U]; simp only [Nat.min_def]; split <;> omega)
   (fun j v hj=>by
    rw [Addr.add_lit,u,l,World.cell?_setCells_out b _ _ _ _ (fun h _=>absurd h B)];exact V j v hj)
   (fun j hj=>by rw [u,XI]; exact S _ zO) (fun j hj=>by rw [G,l,World.frozen?_setCells,XI]; exact z _ zO) F
 rw [<- l] at y;have mixed:=E9
 go_enter Tryz.func224,Tryz.ntmps224
 go_wp2_with (simp only [P])
 go_region_law_o (refine rg rfl _ _ 153 153 rfl _ _ (by simp [Act.eval,Act.put]) (by simp [Act.eval,Act.put]) (y _ _ _) ?_)
 go_wp2_with (at_builtin; refine kj _ rfl _ _ 153 153 rfl _ _ rfl rfl (H _ (fun _=>rfl) (fun _=>rfl) _ _) ?_)
 go_ret
 first | exact ⟨rfl,rfl⟩ | exact ⟨rfl,by rw [l]⟩
set_option maxHeartbeats 4000000 in
set_option maxRecDepth 100000 in
def end_room (b off n c a d m f:Nat) (vs:List Value) (w:World) (hm:0<m) (k:n+m<=c) (q:n+m<=9223372036854775807)
  (g:vs.length=m) (l:∀ j,j<m->(w.cell? ⟨b,off+n+j,none⟩).isSome=true) (i:∀ j,j<m->w.frozen? ⟨b,off+n+j,none⟩=false)
  (p:∀ j v,vs[j]? = some v->w.cell? ⟨a,d+j,none⟩=some v) (h:∀ v∈vs,v.oneCell'=true) :
  Calls Tryz.prog 224 #[.slice (some ⟨b,off,none⟩) n c,.int .i64 n,.slice (some ⟨a,d,none⟩) m f] w fun e w' =>
   e=.returned (.slice (some ⟨b,off,none⟩) (n+m) c)/\w'=w.setCells b (off+n) vs:=by
 have r:¬ ((m:Int)=0):=zO;have o:Src Tryz.prog 1 153 (.slice (some ⟨a,d,none⟩) m f) m vs w:=Src.ofSlice w tS ⟨a,d,none⟩ m f vs zO (fun j u hj=>by rw [Addr.add_lit]; exact p j u hj) h;have mixed:=E9
 go_enter Tryz.func224,Tryz.ntmps224
 go_wp2_with (at_builtin; refine wpList_append_room1 _ rfl _ _ 153 153 rfl 24 _ _ tS iE b off n c rfl _ rfl m vs o k (by rw [g]; exact l) (by rw [g]; exact i) ?_)
 go_ret
 exact ⟨rfl,rfl⟩
set_option maxHeartbeats 4000000 in
set_option maxRecDepth 100000 in
def end_grow (base:Option Addr) (n c b d m f:Nat) (cs vs:List Value) (w:World) (hm:0<m) (D:n<=c) (i:c<n+m) (p:(n+m)*24<=140737488355328)
  (hcl:cs.length=n) (E:vs.length=m) (h:base=none->n=0)
  (q:∀ a,base=some a->∀ j v,cs[j]? = some v->w.cell? (a.add j)=some v)
  (x:∀ j v,vs[j]? = some v->w.cell? ⟨b,d+j,none⟩=some v) (o:∀ v∈vs,v.oneCell'=true) :
  Calls Tryz.prog 224 #[.slice base n c,.int .i64 n,.slice (some ⟨b,d,none⟩) m f] w fun e w' =>
   e=.returned (.slice (some ⟨w.heap.size,0,none⟩) (n+m) (grownCap w (n+m) c 24)) /\
   w'=w.drew.alloc (.cells ((cs++vs).toArray++Builtin.zeroCells (Value.slice none 0 0).cells (grownCap w (n+m) c 24-(n+m))) 24):=by
 obtain ⟨g,r,y,l,z⟩:=info_parts iE;have F:¬ ((m:Int)=0):=zO;have t:Src Tryz.prog g.size 153 (.slice (some ⟨b,d,none⟩) m f) m vs w:=by
  rw [l];exact Src.ofSlice w tS ⟨b,d,none⟩ m f vs zO (fun j u hj=>by rw [Addr.add_lit]; exact x j u hj) o
 have s:(Builtin.firstCells g.size n (.slice base n c)).run Tryz.prog w.drew=.ok cs.toArray w.drew:=by
  rw [l];cases base with
  | none =>
   have h0:=h rfl;subst h0;rw [XS.1 hcl];exact run_firstCells_none w.drew 1 0 0 c
  | some a=>exact run_firstCells_some w.drew 1 n a n c cs zO (fun j v hj=>q a rfl j v hj)
 have k:∀ ty,(Builtin.append_ #[153,153] ty #[.slice base n c,.slice (some ⟨b,d,none⟩) m f]).run Tryz.prog w=_:=fun ty =>
  run_append_grow_src w 153 153 ty 24 g _ tS r y base n c cs s _ m vs t i zO (by rw [z]; exact growslice_fits i p)
 have mixed:=E9
 go_enter Tryz.func224,Tryz.ntmps224
 cases base with
 | none =>
  have h0:=h rfl;subst h0
  go_wp2_with (at_builtin; refine Lib.wpList_append_run _ rfl _ _ _ _ rfl _ _ rfl rfl _ _ (k _) ?_)
  go_ret
  exact ⟨rfl,rfl⟩
 | some a =>
  obtain ⟨A,B,C⟩:=a
  go_wp2_with (at_builtin; refine Lib.wpList_append_run _ rfl _ _ _ _ rfl _ _ rfl rfl _ _ (k _) ?_)
  all_goals (go_ret; exact ⟨rfl,rfl⟩)
set_option maxHeartbeats 4000000 in
set_option maxRecDepth 100000 in
def grow (b off n c i f q m B:Nat) (cs vs:List Value) (w:World) (hi:i<n) (hm:0<m) (au:n<=c) (ad:c<n+m) (Y:(n+m)*24<=140737488355328)
  (hcl:cs.length=n) (ae:vs.length=m)
  (y:∀ j v,cs[j]? = some v->w.cell? ⟨b,off+j,none⟩=some v)
  (J:∀ j v,vs[j]? = some v->w.cell? ⟨f,q+j,none⟩=some v) (N:∀ v∈cs,v.oneCell'=true) (O:∀ v∈vs,v.oneCell'=true) :
  Calls Tryz.prog 224 #[.slice (some ⟨b,off,none⟩) n c,.int .i64 i,.slice (some ⟨f,q,none⟩) m B] w fun e w' =>
   e=.returned (.slice (some ⟨w.heap.size,0,none⟩) (n+m) (grownCap w (n+m) c 24)) /\
   w'=(((w.alloc (.cells ((cs.take i).toArray++Builtin.zeroCells (Value.slice none 0 0).cells (n+m-i)++Builtin.zeroCells (Value.slice none 0 0).cells (grownCap w (n+m) c 24-(n+m))) 24)).drew.setCells w.heap.size i vs).drew).setCells w.heap.size (i+m) (cs.drop i):=by
 obtain ⟨M,E,ag,L,K⟩:=info_parts iE;have ax:¬ ((m:Int)=0):=zO;have ay:¬ ((i:Int)=(n:Int)):=zO;have aB:(c:Int)<(n:Int)+(m:Int):=zO;have I:(Tryz.prog.info? 24).map (·.size)=some 1:=by rw [E]; simp [L]
 have Z:b<w.heap.size:=block_lt_of_cell (y 0 _ (eA zO));have af:f<w.heap.size:=block_lt_of_cell (J 0 _ (eA zO));have F:(n:Int)+(m:Int)-(i:Int)=((n+m-i:Nat):Int):=zO;have z:i+(n+m-i)=n+m:=zO;have H:(Builtin.firstCells M.size i (.slice (some ⟨b,off,none⟩) i c)).run Tryz.prog w.drew=.ok (cs.take i).toArray w.drew:=by
  rw [L];exact run_firstCells_some w.drew 1 i ⟨b,off,none⟩ i c (cs.take i) (by rw [L9]; omega) (fun j v hj=>by
   rw [Addr.add_lit];rw [Gy] at hj;split at hj
   ·exact y j v hj
   ·cases hj)
 have p:∀ ty,(Builtin.append_ #[153,3] ty #[.slice (some ⟨b,off,none⟩) i c,.int .i64 ((n:Int)+(m:Int)-(i:Int))]).run Tryz.prog w =
   .ok (.slice (some ⟨w.heap.size,0,none⟩) (n+m) (grownCap w (n+m) c 24)) (w.drew.alloc (.cells ((cs.take i).toArray++Builtin.zeroCells (Value.slice none 0 0).cells (n+m-i)++Builtin.zeroCells (Value.slice none 0 0).cells (grownCap w (n+m) c 24-(n+m))) 24)):=fun ty=>by
  have h:=Lib.run_append_grow_zeros w 153 3 ty 24 M _ .i64 .i64 tS tI E ag (some ⟨b,off,none⟩) i c (cs.take i) H (n+m-i) zO zO zO zO (by rw [K]; omega) (by rw [K,z]; exact growslice_fits ad Y);rw [z] at h;rw [F];exact h
 obtain ⟨G,o⟩:∃ G,G=grownCap w (n+m) c 24:=⟨_,rfl⟩
 obtain ⟨a,s⟩:∃ a:Array Value,a=(cs.take i).toArray++Builtin.zeroCells (Value.slice none 0 0).cells (n+m-i)++Builtin.zeroCells (Value.slice none 0 0).cells (G-(n+m)):=⟨_,rfl⟩
 rw [<- o] at p ⊢;rw [<- s] at p ⊢;have V:n+m<=a.size:=by
  rw [s];simp [Builtin.zeroCells,Value.cells];omega
 obtain ⟨d,k⟩:∃ d,d=w.drew.alloc (.cells a 24):=⟨_,rfl⟩
 rw [<- k] at p;have r:∀ j,j<n+m->(d.cell? ⟨w.heap.size,j,none⟩).isSome=true:=fun j hj=>by
  rw [k,World.cell?_alloc_at (w:=w.drew) a _ w.heap.size j rfl,XT zO]; rfl
 have C:∀ j,d.frozen? ⟨w.heap.size,j,none⟩=false:=fun j=>by rw [k]; exact World.frozen?_alloc_at (w:=w.drew) a _ w.heap.size j rfl
 have T:∀ j v,w.cell? ⟨b,j,none⟩=some v->d.cell? ⟨b,j,none⟩=some v:=fun j v h=>by rw [k,World.cell?_alloc_past (w:=w.drew) _ b j Z]; exact h
 have U:∀ j v,w.cell? ⟨f,j,none⟩=some v->d.cell? ⟨f,j,none⟩=some v:=fun j v h=>by rw [k,World.cell?_alloc_past (w:=w.drew) _ f j af]; exact h
 have aa:∀ (W:World),(∀ x,W.cell? x=d.cell? x)->(∀ x,W.frozen? x=d.frozen? x)->∀ ty g,(Builtin.copy_ #[153,153] ty #[.slice (some ⟨w.heap.size,i,none⟩) (n+m-i) g,.slice (some ⟨f,q,none⟩) m B]).run Tryz.prog W=.ok (goInt vs.length) (W.setCells w.heap.size i vs):=fun W l u ty g =>
  run_copy_cells W _ _ ty 24 w.heap.size i (n+m-i) g ⟨f,q,none⟩ m B vs tS I (by rw [ae]; simp only [Nat.min_def]; split <;> omega)
   (fun j v hj=>by rw [Addr.add_lit,l]; exact U _ v (J j v hj))
   (fun j hj=>by rw [l]; exact r _ zO) (fun j hj=>by rw [u]; exact C _) O
 have am:n+m<=G:=by rw [o]; exact grownCap_ge w _ _ _
 have ah:G<=9223372036854775807:=by
  have:=grownCap_le_maxLen w (n+m) c 24 (by unfold maxLen; omega)
  rw [<- o] at this;unfold maxLen at this;omega
 have aj:¬ (G=i):=zO;have al:¬ (G=i+m):=zO;have aq:¬ (c=i):=zO;have X:b≠w.heap.size:=zO;have ab:(cs.drop i).length=n-i:=by rw [XX,hcl]
 have D:∀ (W:World),(∀ x,W.cell? x=(d.setCells w.heap.size i vs).cell? x)->(∀ x,W.frozen? x=(d.setCells w.heap.size i vs).frozen? x)->∀ ty g A,(Builtin.copy_ #[153,153] ty #[.slice (some ⟨w.heap.size,i+m,none⟩) (n+m-(i+m)) g,.slice (some ⟨b,off+i,none⟩) (n-i) A]).run Tryz.prog W=.ok (goInt (cs.drop i).length) (W.setCells w.heap.size (i+m) (cs.drop i)):=fun W l u ty g A =>
  run_copy_cells W _ _ ty 24 w.heap.size (i+m) (n+m-(i+m)) g ⟨b,off+i,none⟩ (n-i) A (cs.drop i) tS I (by rw [ab]; simp only [Nat.min_def]; split <;> omega)
   (fun j v hj=>by
    rw [Addr.add_lit,l,World.cell?_setCells_out _ _ _ _ _ (fun h _=>absurd h X),XI];exact T _ v (y (i+j) v (by rwa [GQ] at hj)))
   (fun j hj=>by rw [l]; exact qM _ _ _ _ (fun t ht=>r _ zO) _ (r _ zO))
   (fun j hj=>by rw [u,World.frozen?_setCells]; exact C _) (fun v hv=>N v (Zo hv))
 subst k;have P:∀ x,((w.alloc (.cells a 24)).drew).cell? x=(w.drew.alloc (.cells a 24)).cell? x:=fun x=>rfl;have Q:∀ x,((w.alloc (.cells a 24)).drew).frozen? x=(w.drew.alloc (.cells a 24)).frozen? x:=fun x=>rfl;have R:∀ x,(((w.alloc (.cells a 24)).drew.setCells w.heap.size i vs).drew).cell? x=((w.drew.alloc (.cells a 24)).setCells w.heap.size i vs).cell? x:=fun x=>rfl;have S:∀ x,(((w.alloc (.cells a 24)).drew.setCells w.heap.size i vs).drew).frozen? x=((w.drew.alloc (.cells a 24)).setCells w.heap.size i vs).frozen? x:=fun x=>rfl;have aw:IntKind.i64.wrap ((i:Int)+(m:Int))=(i:Int)+(m:Int):=by rw [IntKind.wrap_i64]; omega
 have ao:(0:Int)<=(i:Int)+(m:Int):=zO;have ar:i<=n:=zO;have av:((i:Int)+(m:Int)).toNat=i+m:=zO;have ap:(i:Int)<=(n:Int):=zO;clear F z H s o V;have mixed:=E9
 go_enter Tryz.func224,Tryz.ntmps224
 go_wp2_with (first
  | (at_builtin; refine Lib.wpList_append_run _ rfl _ _ _ _ rfl _ _ rfl rfl _ _ (p _) ?_)
  | (at_builtin; refine kj _ rfl _ _ 153 153 rfl _ _ rfl rfl (aa _ P Q _ _) ?_)
  | (at_builtin; refine kj _ rfl _ _ 153 153 rfl _ _ rfl rfl (D _ (fun _=>rfl) (fun _=>rfl) _ _ _) ?_))
 go_region_law_o (refine rg rfl _ _ 153 153 rfl (.slice (some ⟨w.heap.size,i+m,none⟩) (n+m-(i+m)) (G-(i+m))) (.slice (some ⟨b,off+i,none⟩) (n-i) (c-i)) (by simp [Act.eval,Act.put]) (by simp [Act.eval,Act.put]) (D _ R S 3 (G-(i+m)) (c-i)) ?_)
 go_wp2
 go_ret
 exact ⟨rfl,rfl⟩
end Go.Proofs.YteaefaohjlmjdaaGreat.Ins224
namespace Go.Proofs.YteaefaohjlmjdaaGreat.Ev.Ok224
open Go Go.Proofs.YteaefaohjlmjdaaGreat.Ev
def tN (A:Array Value):Nat->List Value->Array Value
 | _,[]=>A
 | o,v :: r=>tN (A.setIfInBounds o v) (o+1) r
def jf:∀ (vs:List Value) (o:Nat) (A:Array Value),(tN A o vs).size=A.size
 | [],o,A=>rfl
 | v :: r,o,A=>by rw [tN,jf r]; simp
def oW:∀ (vs:List Value) (o:Nat) (A:Array Value) (j:Nat),j<A.size->(tN A o vs)[j]? = if o<=j/\j<o+vs.length then vs[j-o]? else A[j]?
 | [],o,A,j,hj=>by rw [tN,if_neg (by simp only [YN]; omega)]
 | v :: r,o,A,j,hj=>by
  rw [tN,oW r (o+1) _ j (by simpa using hj)];by_cases h1:o+1<=j/\j<o+1+r.length
  ·rw [if_pos h1,if_pos (by simp; omega),show j-o=(j-(o+1))+1 by omega,Yg]
  ·rw [if_neg h1];by_cases h2:j=o
   ·subst h2;rw [if_pos (by simp),Nat.sub_self,X1,Array.getElem?_setIfInBounds_self_of_lt hj]
   ·rw [if_neg (by simp; omega),Array.getElem?_setIfInBounds_ne zO]
def ny (b:Nat):∀ (vs:List Value) (o:Nat) (w:World) (arr:Array Value) (ty:TypeId) (fr:Nat × Nat),w.heap[b]? = some (.cells arr ty fr) ->
  (w.setCells b o vs).heap[b]? = some (.cells (tN arr o vs) ty fr)/\(∀ c,c≠b->(w.setCells b o vs).heap[c]? = w.heap[c]?)/\(w.setCells b o vs).heap.size=w.heap.size /\
   Tp w (w.setCells b o vs)/\(w.setCells b o vs).os=w.os/\(w.setCells b o vs).output=w.output
 | [],o,w,arr,ty,fr,h=>⟨h,fun _ _=>rfl,rfl,Tp.same rfl rfl,rfl,rfl⟩
 | v :: r,o,w,arr,ty,fr,h=>by
  have h1:(w.setCell ⟨b,o,none⟩ v).heap[b]? = some (.cells (arr.setIfInBounds o v) ty fr):=by
   simp [World.setCell,YK,h]
  obtain ⟨k1,k2,a,d,e,f⟩:=ny b r (o+1) (w.setCell ⟨b,o,none⟩ v) _ ty fr h1;refine ⟨k1,fun c hc=>(k2 c hc).trans ?_,a.trans ?_,(Tp.same rfl rfl).trans d,e,f⟩
  ·simp [World.setCell,YK,Ne.symm hc]
  ·simp [World.setCell]
def ni (w:World) (ty:TypeId):∀ (vs:List Value) (o:Nat) (A:Array Value),(w.alloc (.cells A ty)).setCells w.heap.size o vs=w.alloc (.cells (tN A o vs) ty)
 | [],o,A=>rfl
 | v :: r,o,A=>by
  have h1:(w.alloc (.cells A ty)).setCell ⟨w.heap.size,o,none⟩ v=w.alloc (.cells (A.setIfInBounds o v) ty):=by
   simp only [World.setCell,World.alloc];congr 1
   apply Array.ext_getElem?
   intro j;rw [YK];by_cases hj:w.heap.size=j
   ·subst hj; simp
   ·rw [if_neg hj,Zu,Zu,if_neg (Ne.symm hj),if_neg (Ne.symm hj)]
  rw [World.setCells,h1,ni w ty r (o+1) _]; rfl
section
variable {P:Program} {μ:Mu} {F:Nat->Prop} {H:Heap} {w:World}
def B0 {μ':Mu} {H':Heap} {w':World} (h:Stp (fun x=>x=H.next) P μ F { H with next:=H.next+1 } w μ' F H' w'):Stp tG P μ F H w μ' F H' w' :=
 ⟨h.mu,h.fr,h.size,h.keep,h.rw,B5 (Ob _ _) h.next,fun b hb _ hn=>h.new b (Eb hb (Ob _ _)) zO hn,h.rng,
  fun b e hb hl _=>h.old b e hb (Eb hl (Ob _ _)) zO,h.alv,h.tape,h.os,h.out⟩
def KJ {ty:Nat} {cs:List AV} {V:List Value} {A:Array Value} {w1:World} {k cap':Nat} {a:Heap} (hH:HR P μ F a w) (o:a.next=H.next+1) (e:μ H.next=none) (hs:sizeOf? P ty=some 1)
  (hl:LR μ F w cs V) (f:V.length=k) (hA:∀ j,j<k->A[j]? = V[j]?) (d:k<=cap') (m:A.size=cap')
  (h1:w1.heap=w.heap) (n:Tp w w1) (g:w1.os=w.os) (l:w1.output=w.output) :
  ∃ μ',VR μ' F (w1.alloc (.cells A ty)) (.own H.next 0 k k 1 false) (.slice (some ⟨w.heap.size,0,none⟩) k cap')/\HR P μ' F (a.put H.next (.cells cs ty true)) (w1.alloc (.cells A ty)) /\
   Stp (fun x=>x=H.next) P μ F a w μ' F (a.put H.next (.cells cs ty true)) (w1.alloc (.cells A ty)):=by
 have hcl:cs.length=k:=hl.1.trans f;obtain ⟨q1,q2⟩:=mp (I:=fun x=>x=H.next) hH e zO rfl (sz:=1) (arr:=A) (cs:=cs) hs zO
  (fun i c v hc b=>by
   have hi:i<k:=by rw [<- hcl]; exact (B4.1 hc).1
   rw [hA i hi] at b;exact hl.2 i c v hc b) w1 h1 n g l
 exact ⟨_,.own H.next 0 k k 1 false _ cap' (upd_same _ _) rfl (o0 _) d (fun h=>by cases h) (by simp [m]),q1,q2⟩
def Ry {b ty:Nat} {L:CU} {a cs:List AV} {V:List Value} {A:Array Value} {w':World} {k cap:Nat} (hH:HR P μ F H w) (hb:H.get b=some (.cells a ty true)) (hL:μ b=some L) (o:L.sz=1)
  (hl:LR μ F w cs V) (s:V.length=k) (hA:∀ j,j<k->A[j]? = V[j]?) (q:k<=cap) (B:A.size=L.N) (N:cap<=L.N)
  (D:w'.heap[L.blk]? = some (.cells A ty (0,0))) (u:∀ c,c≠L.blk->w'.heap[c]? = w.heap[c]?) (z:w'.heap.size=w.heap.size) (C:Tp w w') (t:w'.os=w.os) (y:w'.output=w.output) :
  ∃ μ',VR μ' F w' (.own H.next 0 k k 1 false) (.slice (some ⟨L.blk,0,none⟩) k cap)/\HR P μ' F (({ H with next:=H.next+1 }.kill b).put H.next (.cells cs ty true)) w' /\
   Stp tG P μ F H w μ' F (({ H with next:=H.next+1 }.kill b).put H.next (.cells cs ty true)) w':=by
 have hcl:cs.length=k:=hl.1.trans s;have r:μ H.next=none:=kF hH (o0 _)
 have n:=hH.bump 1;have p:({ H with next:=H.next+1 }:Heap).get b=some (.cells a ty true):=hb;obtain ⟨arr,fr,E,G,g,J,K,l,M⟩:=gh hH hb hL;obtain ⟨p1,p2⟩:=jc (I:=fun x=>x=H.next) (e:=.cells cs ty true) n p rfl hL w' u z C t y
  (fun m=>⟨A,(0,0),D,B,g,zO,fun i c v hc d=>by
   have hi:i<k:=by rw [<- hcl]; exact (B4.1 hc).1
   rw [hA i hi] at d;exact (hl.2 i c v hc d).mono (fun _ _ h=>h) (fun _ h=>h) m,fun _=>⟨(l rfl).1,rfl⟩,fun h=>by cases h⟩) rfl
 obtain ⟨q4,q5⟩:=vV (I:=fun x=>x=H.next) p1 (b:=b) (id:=H.next) (L:=L) (by rw [Heap.get_put,if_pos rfl]) hL r (by show H.next<H.next+1; omega) rfl;refine ⟨μ.upd H.next L,.own H.next 0 k k 1 false L cap (upd_same _ _) o (o0 _) q (fun h=>by cases h) (by simp; omega),?_,?_⟩
 ·refine q4.congr rfl fun x=>?_;simp only [Heap.get_put,Heap.get_kill];split
  ·rfl
  ·split
   ·rfl
   ·rename_i hx; rfl
 ·refine B0 ((p2.trans q5).congr rfl fun x e he=>⟨e,?_,rfl⟩);simp only [Heap.get_put,Heap.get_kill] at he ⊢;split at he
  ·rename_i hx; rw [if_pos hx]; exact he
  ·rename_i hx;rw [if_neg hx];split at he
   ·cases he
   ·rename_i f; rw [if_neg f,if_neg f]; exact he
end
def wF {vs:List Value} {w:World} {F:Fence} {rd:Bool} {n:Nat} {R:Value->World->Prop} (a:FenceOK F rd) (h:Calls Tryz.prog 224 vs.toArray w fun e w'=>∃ u,e=.returned u/\R u w'):Runs F n Tryz.prog ((callFunc 224 vs.toArray).run Tryz.prog w) R:=by
 rw [tu (P:=Tryz.prog) (f:=224) Tryz.func224 (by kernel_rfl) (of_decide_eq_true (by kernel_rfl))];unfold Runs;simp only;have key:CallsIn Fence.wide n Tryz.prog 224 vs.toArray w fun e w'=>∃ u,e=.returned u/\R u w':=callsIn_wide.2 h;rcases a with ⟨_,rfl⟩ | ⟨_,l,rfl⟩
 ·exact key
 ·exact key
def vZ {w:World} {b:Nat} {arr:Array Value} {ty:TypeId} (h:w.heap[b]? = some (.cells arr ty (0,0))) (o:Nat):w.frozen? ⟨b,o,none⟩=false:=by
 simp [World.frozen?,h]
def Rz {H H':Heap} {size bytes ty:Nat} {args:List AV} {v:AV} (h:wM H (.insert size bytes ty) args=some (v,H')) :
  (∃ d f m e g JB a,args=[.nilSl,.int .i64 (.ofNat 0),.own d f m e g JB]/\aP H size m (.own d f m e g JB)=some a/\0<m/\m*bytes<=2^46/\m<2^62/\a.all AV.one=true /\
   v=.own H.next 0 m m size false/\H'=({ H with next:=H.next+1 }:Heap).put H.next (.cells a ty true)) \/
  (∃ b n c ex i d f m e g JB a cs p ty2,args=[.own b 0 n c size ex,.int .i64 (.ofNat i),.own d f m e g JB]/\aP H size m (.own d f m e g JB)=some a/\H.get b=some (.cells cs ty true)/\H.get d=some (.cells p ty2 true) /\
   b≠d/\0<m/\i<=n/\cs.length=n*size/\(n+m)*bytes<=2^46/\n+m<2^62/\a.all AV.one=true/\cs.all AV.one=true /\
   v=.own H.next 0 (n+m) (n+m) size false/\H'=(({ H with next:=H.next+1 }:Heap).kill b).put H.next (.cells (cs.take (i*size)++a++cs.drop (i*size)) ty true)):=by
 unfold wM at h;split at h
 all_goals first | contradiction | skip
 ·rename_i heq;cases heq;split at h
  ·rename_i a q;split at h
   ·rename_i hc;obtain ⟨j,k,l,o,c5⟩:=hc;cases h;subst j;exact .inl ⟨_,_,_,_,_,_,a,rfl,q,k,l,o,c5,rfl,rfl⟩
   ·cases h
  ·cases h
 ·rename_i heq;cases heq;split at h
  ·rename_i a cs y p ty2 q hb x;split at h
   ·rename_i hc;obtain ⟨j,k,l,o,c5,c6,t,u,w,r,s⟩:=hc;cases h;subst j;subst k;subst w;exact .inr ⟨_,_,_,_,_,_,_,_,_,_,_,a,cs,p,ty2,rfl,q,hb,x,l,o,c5,c6,t,u,r,s,rfl,rfl⟩
   ·cases h
  ·cases h
 all_goals (cases h)
def GS {P:Program} {μ:Mu} {F:Nat->Prop} {H:Heap} {w:World} {f a m p t:Nat} {JB:Bool} {s:List AV} {z:Value} (hH:HR P μ F H w) (hz:VR μ F w (.own f a m p t JB) z) (e:aP H 1 m (.own f a m p t JB)=some s) :
  ∃ d n b ty2 g o l,μ f=some d/\z=.slice (some ⟨d.blk,a,none⟩) m n/\H.get f=some (.cells o ty2 l)/\w.heap[d.blk]? = some (.cells b ty2 g)/\a+m<=b.size/\(l=true->g=(0,0)) /\
   ((b.toList.drop a).take m).length=m/\LR μ F w s ((b.toList.drop a).take m)/\∀ j u,((b.toList.drop a).take m)[j]? = some u->w.cell? ⟨d.blk,a+j,none⟩=some u:=by
 cases hz with
 | own _ _ _ _ _ _ d n k1 k2 K L M N =>
 simp only [aP] at e;split at e
 ·rename_i o ty2 l r;split at e
  ·rename_i y;obtain ⟨C,D,e3⟩:=y;cases e;obtain ⟨b,g,q,E,G,I,v,x,J⟩:=gh hH r k1;have B:((b.toList.drop a).take m).length=m:=by simp; omega
   refine ⟨d,n,b,ty2,g,o,l,k1,rfl,r,q,zO,fun h=>(x h).2,B,⟨by simp; omega,fun i c u hi k=>?_⟩,fun j u hj=>?_⟩
   ·rw [Gy] at hi k;rw [Yb] at hi;split at hi
    ·rename_i A;rw [if_pos A] at k;rw [GQ] at hi k;exact v _ c u hi (by simpa using k)
    ·cases hi
   ·rw [qp q];rw [Gy] at hj;split at hj
    ·rw [GQ] at hj; simpa using hj
    ·cases hj
  ·cases e
 ·cases e
def Q9 {μ:Mu} {F:Nat->Prop} {w:World} {b n c sz:Nat} {ex:Bool} {x:Value} (h:VR μ F w (.own b 0 n c sz ex) x):∃ L cap,μ b=some L/\L.sz=sz/\n<=c/\c<=cap/\cap*sz<=L.N/\x=.slice (some ⟨L.blk,0,none⟩) n cap:=by
 cases h with
 | own _ _ _ _ _ _ L cap k1 k2 a d e f=>exact ⟨L,cap,k1,k2,a,d,zO,rfl⟩
def AW {μ:Mu} {F:Nat->Prop} {w:World} {vs:List Value} {a b c:AV} (h:LR μ F w [a,b,c] vs):∃ x y z,vs=[x,y,z]/\VR μ F w a x/\VR μ F w b y/\VR μ F w c z:=by
 have hl:=h.1
 match vs,hl with
 | [x,y,z],_=>exact ⟨x,y,z,rfl,h.head,h.tail.head,h.tail.tail.head⟩
set_option maxRecDepth 100000 in
def extOK_insert:ExtOK Tryz.prog 224 (.insert 1 24 24):=by
 intro H args v H' h μ F w vs fence rd nn J hH hl;have af:sizeOf? Tryz.prog 24=some 1:=by
  obtain ⟨i0,hi,h0,h1,h2⟩:=info_parts Ins224.iE;simp [sizeOf?,hi,h1]
 have ae:μ H.next=none:=kF hH (o0 _)
 have K:∀ k,(Builtin.zeroCells (Value.slice none 0 0).cells k).size=k:=fun k=>by rw [Ap]; simp [Value.cells]
 rcases Rz h with ⟨b2,f,m,c2,ap,JB,S,rfl,V,h1,h2,h3,h4,rfl,rfl⟩ | ⟨b,n,c,ex,i,b2,f,m,c2,ap,JB,S,cs,ah,ty2,rfl,V,hb,ad,h1,h2,h3,h4,h5,h6,N,h8,rfl,rfl⟩
 ·obtain ⟨x,y,z,rfl,hx,hy,hz⟩:=AW hl;cases hx;cases hy;obtain ⟨o,t,q,ty2,aj,ah,ao,k1,rfl,Y,M,g2,-,s,p,B⟩:=GS hH hz V;refine wF J ((Ins224.end_grow none 0 0 o.blk f m t [] ((q.toList.drop f).take m) w h1 (o0 _) zO zO rfl s (fun _=>rfl) (fun a h=>by cases h) B (p.one h4)).mono fun e w' ⟨he,g⟩=>?_);subst g;rw [RO] at he;have hge:=Go.grownCap_ge w m 0 24;simp only [RO,Y0];obtain ⟨μ',q1,q2,q3⟩:=KJ (P:=Tryz.prog) (H:=H) (A:=((q.toList.drop f).take m).toArray++Builtin.zeroCells (Value.slice none 0 0).cells (grownCap w m 0 24-m)) (w1:=w.drew) (k:=m) (cap':=grownCap w m 0 24) (hH.bump 1) rfl ae af p s
   (fun j hj=>by rw [XZ (by simp [s]; omega)]; simp) hge (by simp only [YU,Zd,s,K]; omega) rfl Tp.draw rfl rfl
  exact ⟨_,he,μ',q1,q2,B0 q3⟩
 ·obtain ⟨x,y,z,rfl,hx,hy,hz⟩:=AW hl;obtain ⟨L,cap,r1,r2,r3,r4,r5,rfl⟩:=Q9 hx;cases hy;obtain ⟨o,t,q,ar,aj,aq,ao,k1,rfl,Y,M,g2,al,s,p,B⟩:=GS hH hz V;rw [ad] at Y;cases Y;have am:=al rfl;subst am;obtain ⟨arr,fr,p1,p2,p3,p4,p5,p6,p7⟩:=gh hH hb r1;obtain ⟨-,rfl⟩:=p6 rfl;rw [Yb] at h4 r5;have hne:o.blk≠L.blk:=fun e=>h1 (hH.inj b b2 _ _ L o hb ad r1 k1 e.symm);have X:(arr.toList.take n).length=n:=by simp; omega
  have Q:LR μ F w cs (arr.toList.take n):=by
   refine ⟨by simp; omega,fun i c u hi R=>?_⟩;rw [Gy] at R;split at R
   ·exact p5 i c u hi (by simpa using R)
   ·cases R
  have T:∀ j u,(arr.toList.take n)[j]? = some u->w.cell? ⟨L.blk,0+j,none⟩=some u:=fun j u hj=>by
   rw [qp p1,RO];rw [Gy] at hj;split at hj
   ·simpa using hj
   ·cases hj
  have hV:LR μ F w (cs.take (i*1)++S++cs.drop (i*1)) ((arr.toList.take n).take i++(q.toList.drop f).take m++(arr.toList.take n).drop i):=by
   rw [Yb];exact ((Q.take i).append p).append (Q.drop i)
  have aa:((arr.toList.take n).take i++(q.toList.drop f).take m++(arr.toList.take n).drop i).length=n+m:=by
   simp only [C5,L9,XX,s,X]
   have:=X
   rw [L9] at this;omega
  generalize hC:arr.toList.take n=C at *
  generalize hD:(q.toList.drop f).take m=D at *
  have d:=X;have l:=s;have ab:∀ j,j<n->arr[j]? = C[j]?:=fun j hj=>by rw [<- hC,Gy,if_pos hj]; simp
  have O:∀ j,j<n+m->(C.take i++D++C.drop i)[j]? = if j<i then C[j]? else if j<i+m then D[j-i]? else C[j-m]?:=by
   intro j hj;have r:(C.take i).length=i:=by rw [L9]; omega
   by_cases q1:j<i
   ·rw [if_pos q1,Ni (by rw [C5,r]; omega),Ni zO,Gy,if_pos q1]
   ·rw [if_neg q1];by_cases q2:j<i+m
    ·rw [if_pos q2,Ni (by rw [C5,r]; omega),Xy zO,r]
    ·rw [if_neg q2,Xy (by rw [C5,r]; omega),C5,r,GQ];congr 1; omega
  have ag:∀ j,j<cap->(w.cell? ⟨L.blk,0+j,none⟩).isSome=true:=fun j hj=>by
   rw [qp p1,RO,XT zO]; rfl
  by_cases W:n+m<=cap
  ·
   have fin:∀ (A:Array Value) (w':World),A.size=L.N->(∀ j,j<n+m->A[j]? = (C.take i++D++C.drop i)[j]?)->w'.heap[L.blk]? = some (.cells A 24 (0,0))->(∀ c,c≠L.blk->w'.heap[c]? = w.heap[c]?)->w'.heap.size=w.heap.size->Tp w w'->w'.os=w.os->w'.output=w.output ->
     ∃ μ',iJ tG Tryz.prog μ F H w (.own H.next 0 (n+m) (n+m) 1 false) (({ H with next:=H.next+1 }:Heap).kill b |>.put H.next (.cells (cs.take (i*1)++S++cs.drop (i*1)) 24 true)) (.slice (some ⟨L.blk,0,none⟩) (n+m) cap) w' μ':=by
    intro A w' E G a3 a4 a5 a6 a7 a8;obtain ⟨μ',q1,q2,q3⟩:=Ry (P:=Tryz.prog) (A:=A) (w':=w') (k:=n+m) (cap:=cap) hH hb r1 r2 hV aa G W E r5 a3 a4 a5 a6 a7 a8;exact ⟨μ',q1,q2,q3⟩
   by_cases U:i=n
   ·subst U;refine wF J ((Ins224.end_room L.blk 0 i cap o.blk f m t D w h2 W zO l (fun j hj=>by rw [XI]; exact ag _ zO) (fun j _=>vZ p1 _) B (p.one N)).mono fun e w' ⟨he,g⟩=>?_);subst g;obtain ⟨s1,s2,Z,s4,s5,s6⟩:=ny L.blk D (0+i) w arr 24 (0,0) p1;obtain ⟨μ',hd⟩:=fin _ _ ((jf _ _ _).trans p2) (fun j hj=>by
     rw [oW _ _ _ _ zO,O j hj,l,RO];by_cases q1:j<i
     ·rw [if_neg zO,if_pos q1,ab j q1]
     ·rw [if_pos zO,if_neg q1,if_pos zO]) s1 s2 Z s4 s5 s6
    exact ⟨_,he,μ',hd⟩
   ·refine wF J ((Ins224.shift L.blk 0 n cap i o.blk f m t C D w zO h2 W zO hne d l T (fun j hj=>ag j zO) (fun j _=>vZ p1 _) B (Q.one h8) (p.one N)
     ty2 24 q.size arr.size (by simp [World.shape?,M]) (by simp [World.shape?,p1]) zO (vZ M _) (vZ M _)).mono fun e w' ⟨he,g⟩=>?_)
    subst g;obtain ⟨s1,s2,Z,s4,s5,s6⟩:=ny L.blk (C.drop i) (0+(i+m)) w.drew arr 24 (0,0) p1;obtain ⟨t1,t2,t3,t4,t5,t6⟩:=ny L.blk D (0+i) _ _ 24 (0,0) s1;obtain ⟨μ',hd⟩:=fin _ _ (by rw [jf,jf]; exact p2) (fun j hj=>by
     rw [oW _ _ _ _ (by rw [jf]; omega),oW _ _ _ _ zO,O j hj,l,RO,RO,XX,d];by_cases q1:j<i
     ·rw [if_neg zO,if_neg zO,if_pos q1,ab j zO]
     ·by_cases q2:j<i+m
      ·rw [if_pos zO,if_neg q1,if_pos q2]
      ·rw [if_neg zO,if_pos zO,if_neg q1,if_neg q2,GQ];congr 1; omega) t1 (fun c hc=>(t2 c hc).trans (s2 c hc)) (t3.trans Z) ((Tp.draw.trans s4).trans t4) (t5.trans s5) (t6.trans s6)
    exact ⟨_,he,μ',hd⟩
  ·
   have hge:=Go.grownCap_ge w (n+m) cap 24;obtain ⟨z1,z2⟩:=uY (I:=fun x=>x=H.next) (hH.bump 1) b;have fin:∀ (A:Array Value) (w1:World),A.size=grownCap w (n+m) cap 24->(∀ j,j<n+m->A[j]? = (C.take i++D++C.drop i)[j]?)->w1.heap=w.heap->Tp w w1->w1.os=w.os->w1.output=w.output ->
     ∃ μ',iJ tG Tryz.prog μ F H w (.own H.next 0 (n+m) (n+m) 1 false) (({ H with next:=H.next+1 }:Heap).kill b |>.put H.next (.cells (cs.take (i*1)++S++cs.drop (i*1)) 24 true)) (.slice (some ⟨w.heap.size,0,none⟩) (n+m) (grownCap w (n+m) cap 24)) (w1.alloc (.cells A 24)) μ':=by
    intro A w1 E G a3 a4 a5 a6;obtain ⟨μ',q1,q2,q3⟩:=KJ (P:=Tryz.prog) (H:=H) (A:=A) (w1:=w1) (k:=n+m) (cap':=grownCap w (n+m) cap 24) z1 rfl ae af hV aa G hge E a3 a4 a5 a6;exact ⟨μ',q1,q2,B0 (z2.trans q3)⟩
   by_cases U:i=n
   ·subst U;refine wF J ((Ins224.end_grow (some ⟨L.blk,0,none⟩) i cap o.blk f m t C D w h2 zO zO zO d l (fun h=>by cases h) (fun a ha j u hj=>by cases ha; rw [jR]; exact T j u hj) B (p.one N)).mono fun e w' ⟨he,g⟩=>?_);subst g;obtain ⟨μ',hd⟩:=fin ((C++D).toArray++Builtin.zeroCells (Value.slice none 0 0).cells (grownCap w (i+m) cap 24-(i+m))) w.drew (by simp only [YU,Zd,C5,d,l,K]; omega) (fun j hj=>by
     rw [XZ (by simp [d,l]; omega),O j hj];have e0:(C++D).toArray[j]? = (C++D)[j]?:=by simp
     rw [e0];by_cases q1:j<i
     ·rw [if_pos q1,Ni zO]
     ·rw [if_neg q1,if_pos zO,Xy zO,d]) rfl Tp.draw rfl rfl
    exact ⟨_,he,μ',hd⟩
   ·refine wF J ((Ins224.grow L.blk 0 n cap i o.blk f m t C D w zO h2 zO zO zO d l T B (Q.one h8) (p.one N)).mono fun e w' ⟨he,g⟩=>?_);have r:∀ A:Array Value,(((w.alloc (.cells A 24)).drew.setCells w.heap.size i D).drew).setCells w.heap.size (i+m) (C.drop i)=w.drew.drew.alloc (.cells (tN (tN A i D) (i+m) (C.drop i)) 24):=fun A=>by
     have E:(w.alloc (.cells A 24)).drew=w.drew.alloc (.cells A 24):=rfl;have G:(w.drew.alloc (.cells A 24)).setCells w.heap.size i D=w.drew.alloc (.cells (tN A i D) 24):=ni w.drew 24 D i A;have a3:(w.drew.alloc (.cells (tN A i D) 24)).drew=w.drew.drew.alloc (.cells (tN A i D) 24):=rfl;rw [E,G,a3];exact ni w.drew.drew 24 (C.drop i) (i+m) (tN A i D)
    rw [r] at g;subst g;obtain ⟨μ',hd⟩:=fin (tN (tN ((C.take i).toArray++Builtin.zeroCells (Value.slice none 0 0).cells (n+m-i)++Builtin.zeroCells (Value.slice none 0 0).cells (grownCap w (n+m) cap 24-(n+m))) i D) (i+m) (C.drop i)) w.drew.drew (by
      rw [jf,jf];simp only [YU,Zd,L9,d,K]; omega) (fun j hj=>by
     have hA0:((C.take i).toArray++Builtin.zeroCells (Value.slice none 0 0).cells (n+m-i)++Builtin.zeroCells (Value.slice none 0 0).cells (grownCap w (n+m) cap 24-(n+m))).size=grownCap w (n+m) cap 24:=by
      simp only [YU,Zd,L9,d,K]; omega
     rw [oW _ _ _ _ (by rw [jf,hA0]; omega),oW _ _ _ _ (by rw [hA0]; omega),O j hj,l,XX,d];by_cases q1:j<i
     ·rw [if_neg zO,if_neg zO,if_pos q1,XZ (by simp only [YU,Zd,L9,d,K]; omega),XZ (by simp only [Zd,L9,d]; omega)];simp [q1]
     ·by_cases q2:j<i+m
      ·rw [if_neg zO,if_pos zO,if_neg q1,if_pos q2]
      ·rw [if_pos zO,if_neg q1,if_neg q2,GQ];congr 1; omega) rfl (Tp.draw.trans Tp.draw) rfl rfl
    exact ⟨_,he,μ',hd⟩
end Go.Proofs.YteaefaohjlmjdaaGreat.Ev.Ok224
namespace Go.Proofs.YteaefaohjlmjdaaGreat.Ev.So156
open Go Go.RowKit Go.Sort Go.Shelf Go.Lib Go.Proofs.YteaefaohjlmjdaaGreat.Ev
set_option maxRecDepth 100000
def Iw:Go.Shelf.Ren:=⟨fun | 6=>156 | 15=>190 | 14=>189 | 28=>216 | 29=>217 | 20=>208 | 21=>209 | 22=>210 | 23=>211 | 24=>212 | 25=>213 | 26=>214 | 27=>215 | 46=>229 | 47=>230 | 48=>231 | 49=>232 | 50=>233 | 57=>239 | n=>n,fun | 22=>153 | 24=>24 | 25=>123 | 3=>3 | 39=>220 | 0=>0 | 53=>252 | 55=>115 | 4=>4 | 46=>245 | 45=>244 | 50=>249 | 5=>5 | 9=>9 | 66=>265 | 70=>269 | 76=>276 | 77=>277 | n=>n,fun | n=>n⟩
def Ok:Go.Proofs.SlLaysF.n6 Tryz.prog Iw:={
 mixed:=by kernel_rfl
 f6:=⟨Tryz.f156.name,by decide,Tryz.func156.trans (congrArg some (by kernel_rfl))⟩
 f14:=⟨Tryz.f189.name,by decide,Tryz.func189.trans (congrArg some (by kernel_rfl))⟩
 f15:=Tryz.func190.trans (congrArg some (by kernel_rfl))
 f20:=⟨Tryz.f208.name,by decide,Tryz.func208.trans (congrArg some (by kernel_rfl))⟩
 f21:=⟨Tryz.f209.name,by decide,Tryz.func209.trans (congrArg some (by kernel_rfl))⟩
 f22:=⟨Tryz.f210.name,by decide,Tryz.func210.trans (congrArg some (by kernel_rfl))⟩
 f23:=⟨Tryz.f211.name,by decide,Tryz.func211.trans (congrArg some (by kernel_rfl))⟩
 f24:=⟨Tryz.f212.name,by decide,Tryz.func212.trans (congrArg some (by kernel_rfl))⟩
 f25:=⟨Tryz.f213.name,by decide,Tryz.func213.trans (congrArg some (by kernel_rfl))⟩
 f26:=⟨Tryz.f214.name,by decide,Tryz.func214.trans (congrArg some (by kernel_rfl))⟩
 f27:=⟨Tryz.f215.name,by decide,Tryz.func215.trans (congrArg some (by kernel_rfl))⟩
 f28:=Tryz.func216.trans (congrArg some (by kernel_rfl))
 f29:=Tryz.func217.trans (congrArg some (by kernel_rfl))
 f46:=⟨Tryz.f229.name,by decide,Tryz.func229.trans (congrArg some (by kernel_rfl))⟩
 f47:=Tryz.func230.trans (congrArg some (by kernel_rfl))
 f48:=Tryz.func231.trans (congrArg some (by kernel_rfl))
 f49:=⟨Tryz.f232.name,by decide,Tryz.func232.trans (congrArg some (by kernel_rfl))⟩
 f50:=⟨Tryz.f233.name,by decide,Tryz.func233.trans (congrArg some (by kernel_rfl))⟩
 f57:=⟨Tryz.f239.name,by decide,Tryz.func239.trans (congrArg some (by kernel_rfl))⟩
 t0:=Tryz.underlying0
 a0:=Tryz.isAgg0
 z0:=Tryz.sizeOf0
 v0:=Tryz.zeroValue0
 t3:=Tryz.underlying3
 a3:=Tryz.isAgg3
 z3:=Tryz.sizeOf3
 v3:=Tryz.zeroValue3
 t4:=Tryz.underlying4
 a4:=Tryz.isAgg4
 z4:=Tryz.sizeOf4
 v4:=Tryz.zeroValue4
 t5:=Tryz.underlying5
 a5:=Tryz.isAgg5
 z5:=Tryz.sizeOf5
 v5:=Tryz.zeroValue5
 t9:=Tryz.underlying9
 a9:=Tryz.isAgg9
 z9:=Tryz.sizeOf9
 v9:=Tryz.zeroValue9
 t22:=Tryz.underlying153
 a22:=Tryz.isAgg153
 z22:=Tryz.sizeOf153
 v22:=Tryz.zeroValue153
 a24:=Tryz.isAgg24
 z24:=Tryz.sizeOf24
 t25:=Tryz.underlying123
 a25:=Tryz.isAgg123
 z25:=Tryz.sizeOf123
 v25:=Tryz.zeroValue123
 t39:=Tryz.underlying220
 a39:=Tryz.isAgg220
 z39:=Tryz.sizeOf220
 v39:=Tryz.zeroValue220
 t45:=Tryz.underlying244
 a45:=Tryz.isAgg244
 z45:=Tryz.sizeOf244
 v45:=Tryz.zeroValue244
 t46:=Tryz.underlying245
 a46:=Tryz.isAgg245
 z46:=Tryz.sizeOf245
 v46:=Tryz.zeroValue245
 t50:=Tryz.underlying249
 a50:=Tryz.isAgg249
 z50:=Tryz.sizeOf249
 v50:=Tryz.zeroValue249
 t53:=Tryz.underlying252
 a53:=Tryz.isAgg252
 z53:=Tryz.sizeOf252
 v53:=Tryz.zeroValue252
 t55:=Tryz.underlying115
 a55:=Tryz.isAgg115
 z55:=Tryz.sizeOf115
 v55:=Tryz.zeroValue115
 t66:=Tryz.underlying265
 a66:=Tryz.isAgg265
 z66:=Tryz.sizeOf265
 v66:=Tryz.zeroValue265
 t70:=Tryz.underlying269
 a70:=Tryz.isAgg269
 z70:=Tryz.sizeOf269
 v70:=Tryz.zeroValue269
 t76:=Tryz.underlying276
 a76:=Tryz.isAgg276
 z76:=Tryz.sizeOf276
 v76:=Tryz.zeroValue276
 t77:=Tryz.underlying277
 a77:=Tryz.isAgg277
 z77:=Tryz.sizeOf277
 v77:=Tryz.zeroValue277 }
def S7:JV Tryz.prog 156 [157]:=by
 refine ⟨⟨Tryz.f156,Tryz.func156,by kernel_rfl,by decide +kernel⟩,trivial,?_,?_,?_⟩
 ·intro g hg args w;simp only [FC,List.not_mem_nil,or_false] at hg;subst hg;exact enters_of Tryz.func157 (by kernel_rfl) rfl args w
 ·intro p cap c w;exact AnyF.slices_SortFunc_none { Ok with } p cap c w
 ·intro k enc a g cb blk cap w hg h1 d hT f hH e i;have b:∀ args w,(callFunc g args).run Tryz.prog w=.ok (.enter g args) w:=by
   intro args w;simp only [FC,List.not_mem_nil,or_false] at hg;subst hg;exact enters_of Tryz.func157 (by kernel_rfl) rfl args w
  have hs:(List.finRange (k+1)).toArray.size=k+1:=by simp
  have h:=Any.slices_SortFunc_total Ok enc h1 a d g cb blk 0 cap (List.finRange (k+1)).toArray w b (by rw [hs]; exact f) hH e (by rw [hs]; exact i) hT;rw [hs] at h
  change Calls Tryz.prog 156 _ _ _ at h
  exact h
def extOK:ExtOK Tryz.prog 156 (.sortF 24 [157]):=S7
end Go.Proofs.YteaefaohjlmjdaaGreat.Ev.So156
