/- A part. -/
import Derived.Test.YtkmepoeklibegaaGreatA0
import Derived.Test.YtkmepoeklibegaaGreatPoly2
import Derived.Test.YtkmepoeklibegaaGreatN38
import Derived.Test.YtkmepoeklibegaaGreatN48
import Derived.WideShapes
import Derived.Test.YtkmepoeklibegaaGreatEvDraw5
import Derived.KernelRfl
import Derived.WalkKit
import Derived.ProofKit
import Derived.Test.YtkmepoeklibegaaGreatProg
import Derived.Lib.Walk
import Derived.Lib.SliceRun
import Derived.Lib.JoinLaws
import Derived.Lib.AppendZeros
import Derived.Lib.AppendZerosOnto
import Derived.Lib.Overlaps
import Derived.Laws.Externs
import Derived.Laws.IdiomCopy
import Derived.Laws.NewBlocks
import Derived.Shelf.RegionOpenPlain
import Derived.Shelf.SlSortCmp.NoneTotal
import Derived.Ground.SlsfProg
import Derived.Test.YtkmepoeklibegaaGreatKit
set_option linter.all false
namespace Go.Proofs.YtkmepoeklibegaaGreat.Ev
open Go Nn
section
variable {tab:Nat->Option au} {H:Heap} {s:AV}
def Fv (C:Code tab) (D:Wf H) {v i:AV} {n n':Nat} {c a:List (List Int × Bool)} {g g':List (Nat × List Int)} (hp:PolyV H v n c g) (p:PolyV H i n' a g') (j:c.length<1099511627776) (k:∀ r∈c,r.1.length<1099511627776/\∀ z∈r.1,eR z) (l:g.length<1099511627776) (m:∀ r∈g,r.2.length<1099511627776/\∀ z∈r.2,eR z) :
  Ans tab (.fn ip [v,.int .i64 0,i]) H fun x H'=>x=.bool (decide (n=n'/\c=a/\g=g'))/\Kp H H':=by
 obtain ⟨w,A,rfl,hc,hg⟩:=hp;obtain ⟨y,B,rfl,f,h⟩:=p;have q:=hc.one;have t:=hg.one;have s:=f.one;have u:=h.one;refine mN C.q11 zU fun T hl b d e=>?_;refine zW (eF hl b d e (mX q t) (mX s u)) ?_;refine AnsH.eq (zN C (n:=n) (n':=n') zF ⟨w,A,rfl,hc.mono (zG H),hg.mono (zG H)⟩ ⟨y,B,rfl,f.mono (zG H),h.mono (zG H)⟩ j k l m) fun H2 o=>?_;obtain ⟨k2,_,_⟩:=zT H zK o;refine zW (aV hl b d e) ?_;exact zK
set_option maxHeartbeats 2000000 in
def kg (C:Code tab) (V:Wf H) {a b:Int} (ha:a.natAbs<=9) (hb:b.natAbs<=9) {g:List (Nat × List Int)} {K:List (List Int × Bool)} (S:Lin.gensP 1 [([-a,1],false),([b,-1],false)]=g) (U:Lin.consP 1 g=K) (lg:g.length<1024) (Z:K.length<1024) :
  Ans tab (.fn eT [.int .i64 a,.int .i64 b]) H fun v H'=>PolyV H' v 1 K g/\Kp H H':=by
 refine bC C.q9 zU fun T hl i j=>?_;have Q:IntKind.i64.wrap (0-a) = -a:=by rw [wrap_i64] <;> omega
 refine zW (aV hl i j Q) ?_;have e0:Emp (H.up 18) H.next (H.next+18):=Emp.start V
 refine AnsH.use (GL C (l:=[-a,1]) zF (Ao (by refine uo ?_; rfl)) (by simp) (by simp; omega)) ?_;rintro v3 H2 ⟨F,o⟩;obtain ⟨k2,_,w2⟩:=zT H zK o;have d0:H2.get H.next=some (.cells [.int .i64 0,.nilSl,.nilSl] ai true):=o.get (da)
 have e2:Emp H2 (H.next+4) (H.next+18):=(((e0.put (p:=H.next) (a':=H.next+1) zO zO).put zO zO).keep o)
 have n2:=e2.1;have D:=F.one;refine zW (aV hl i j (nE D)) ?_;refine AnsH.use (GL C (l:=[b,-1]) zF (Ao (by refine uo ?_; rfl)) (by simp) (by simp; omega)) ?_;rintro v5 h ⟨I,q⟩;obtain ⟨Y,_,w3⟩:=zT H zK q;have e3:Emp h (H.next+8) (H.next+18):=(e2.put zO zO).keep q;have n3:=e3.1;have J:Sub H2 h:=(e2.sub (p:=H.next+7) zO zO).trans q.sub;have X:=I.one;have O:=J.get _ _ d0;refine zW (cp hl i j (nE D) (nE X)) ?_;obtain ⟨G3,e⟩:∃ G,G=h.put (H.next+10) (.cells [v3,.bool false,v5,.bool false] t_api_Con true):=⟨_,rfl⟩
 rw [<- e];have w:Emp G3 (H.next+11) (H.next+18):=by rw [e]; exact e3.put zO zO
 have s3:Sub h G3:=by rw [e]; exact e3.sub zO zO
 have A:Kp H G3:=by rw [e]; exact zK
 have ae:=A.wf;have ad:=w.1;have P:=s3.get _ _ O;have N:SlV conE t_api_Con G3 (.own (H.next+10) 0 2 2 2 true) [([-a,1],false),([b,-1],false)]:=Tk (by rw [e]; exact ap _ _ _) (F.mono (J.trans s3)) (I.mono s3);have sb:=Ky ha hb;have R:=ri (n:=1) zO sb;refine AnsH.use (mP C (n:=1) (m:=4) (m2:=64*(4+4)) zF N zO (by simp) sb zO (fun x hx=>(R x hx).2) zO) ?_;rintro v4 d ⟨f,r⟩;have B:Kp H d:=A.trans r;have aa:=B.le;have w4:=B.wf;have y:Emp d (H.next+11) (H.next+18):=w.keep r;have n4:=y.1;have t:=r.get P;rw [S] at f;unfold qc at f;rw [U] at f;rcases f with ⟨-,f⟩ | ⟨p,rfl,⟨L,M,rfl,hc,hg⟩,-,-⟩
 ·omega
 have oc:=hc.one;have og:=hg.one;obtain ⟨c,k⟩:∃ c,c=((d.up 2).put (H.next+15) (.cells [.int .i64 0,.nilSl,.nilSl] ai true)).put (H.next+15) (.cells [.int .i64 ((1:Nat):Int),L,M] ai true):=⟨_,rfl⟩
 have z:=y.2 (H.next+15) zO zO;have s:Sub d c:=by rw [k]; exact ((Sub.bump d 2).put z _).put z _
 have u:=s.get _ _ t;have W:Kp H c:=by rw [k]; exact zK
 have ab:=W.le;have n5:c.next=d.next+2:=by rw [k]; rfl
 refine zW (cp hl i j @oD t) ?_;rw [<- k];refine ⟨⟨L,M,rfl,?_,?_⟩,zK⟩
 ·have m3:NoTy (t_api_Con :: conE.tys) c H.next:=NoTy.ty u zU
  exact SlV.monoT (E:=conE) zS (hc.mono s)
 ·have m3:NoTy (ah :: genE.tys) c H.next:=NoTy.ty u zU
  exact SlV.monoT (E:=genE) zS (hg.mono s)
def ES:∀ c∈[(([0,1]:List Int),false)],c.1.length=1+1/\Lin.Bd (2^4) c.1:=fun c hc=>by
 rw [Wl] at hc;subst hc;exact ⟨rfl,CO zU⟩
set_option maxHeartbeats 2000000 in
def Ar (C:Code tab) (L:Wf H) {g:List (Nat × List Int)} {K:List (List Int × Bool)} (I:Lin.gensP 1 [([0,1],false)]=g) (J:Lin.consP 1 g=K) (R:g.length<1024) (O:K.length<1024) :
  Ans tab (.fn io [.int .i64 0]) H fun v H'=>PolyV H' v 1 K g/\Kp H H':=by
 refine dg C.q10 zU fun T hl f=>?_;have D:IntKind.i64.wrap 0=0:=by rw [wrap_i64] <;> omega
 refine zW (aB hl f D) ?_;have e0:Emp (H.up 14) H.next (H.next+14):=Emp.start L
 refine AnsH.use (GL C (l:=[0,1]) zF (Ao (by refine uo ?_; rfl)) (by simp) (by simp)) ?_;rintro v3 H2 ⟨w,h⟩;obtain ⟨k2,_,Z⟩:=zT H zK h;have d0:H2.get H.next=some (.cells [.int .i64 0,.nilSl,.nilSl] ai true):=h.get (da)
 have e2:Emp H2 (H.next+4) (H.next+14):=(((e0.put (p:=H.next) (a':=H.next+1) zO zO).put zO zO).keep h)
 have S:=e2.1;have N:=w.one;refine zW (aB hl f (nE N)) ?_;obtain ⟨G3,c⟩:∃ G,G=H2.put (H.next+6) (.cells [v3,.bool false] t_api_Con true):=⟨_,rfl⟩
 rw [<- c];have q:Emp G3 (H.next+7) (H.next+14):=by rw [c]; exact e2.put zO zO
 have s3:Sub H2 G3:=by rw [c]; exact e2.sub zO zO
 have t:Kp H G3:=by rw [c]; exact zK
 have aa:=t.wf;have U:=q.1;have B:=s3.get _ _ d0;have A:SlV conE t_api_Con G3 (.own (H.next+6) 0 1 1 2 true) [([0,1],false)]:=Tl (by rw [c]; exact ap _ _ _) (w.mono s3);have F:=ri (n:=1) zO ES;refine AnsH.use (mP C (n:=1) (m:=4) (m2:=64*(4+4)) zF A zO (by simp) ES zO (fun x hx=>(F x hx).2) zO) ?_;rintro v4 b ⟨d,i⟩;have u:Kp H b:=t.trans i;have P:=u.le;have w4:=u.wf;have r:Emp b (H.next+7) (H.next+14):=q.keep i;have V:=r.1;have k:=i.get B;rw [I] at d;unfold qc at d;rw [J] at d;rcases d with ⟨-,d⟩ | ⟨p,rfl,⟨y,z,rfl,hc,hg⟩,-,-⟩
 ·omega
 have X:=hc.one;have Y:=hg.one;obtain ⟨a,e⟩:∃ a,a=((b.up 2).put (H.next+11) (.cells [.int .i64 0,.nilSl,.nilSl] ai true)).put (H.next+11) (.cells [.int .i64 ((1:Nat):Int),y,z] ai true):=⟨_,rfl⟩
 have s:=r.2 (H.next+11) zO zO;have j:Sub b a:=by rw [e]; exact ((Sub.bump b 2).put s _).put s _
 have o:=j.get _ _ k;have M:Kp H a:=by rw [e]; exact zK
 have Q:=M.le;have W:a.next=b.next+2:=by rw [e]; rfl
 refine zW (aV hl f @oD k) ?_;rw [<- e];refine ⟨⟨y,z,rfl,?_,?_⟩,zK⟩
 ·have m3:NoTy (t_api_Con :: conE.tys) a H.next:=NoTy.ty o zU
  exact SlV.monoT (E:=conE) zS (hc.mono j)
 ·have m3:NoTy (ah :: genE.tys) a H.next:=NoTy.ty o zU
  exact SlV.monoT (E:=genE) zS (hg.mono j)
def Rc (H:Heap) (v:AV) (d:Int):Prop :=
 (∃ a b,v=.tup [a,b,.bool false]/\TM a/\TM b) \/
 ∃ (n:Nat) (p q:AV) (K:List (List Int × Bool)) (G:List (Nat × List Int)) (K':List (List Int × Bool)) (G':List (Nat × List Int)),d=(n:Int)/\n<=3/\v=.tup [p,q,.bool true]/\PolyV H p n K G/\PolyV H q n K' G'/\PolyOK n 64 64 K G/\PolyOK n 64 64 K' G'/\K.length<=9/\K'.length<=9/\G.length<=9/\G'.length<=9
set_option maxHeartbeats 4000000 in
def HN (C:Code tab) (hw:Wf H) {s1 s2:AV} {d:Int} {l m:List vY} (hs:SlV conQE t_api_Con H s1 l) (gl:∀ r∈l,jg r.1) (aD:SlV conQE t_api_Con H s2 m) (gm:∀ r∈m,jg r.1) :
  Ans tab (.fn gf [.int .i64 d,s1,s2]) H fun v H'=>Rc H' v d/\Kp H H':=by
 refine mN C.q3 zU fun T hl a e f=>?_;refine zW (aV hl a e f) ?_;refine AnsH.eq (kM C (n:=6) zF (hs.mono (zG H)) zO) fun H2 ad=>?_;obtain ⟨k2,_,w2⟩:=zT H zK ad;have d0:H2.get H.next=some (.cells [.int .i64 0,.nilSl,.nilSl] ai true):=ad.get (da)
 have d1:H2.get (H.next+1)=some (.cells [.int .i64 0,.nilSl,.nilSl] ai true):=ad.get (da);have ba:=w2 _ _ d1;cases q1:fg 6 l with
 | true =>
  refine zW (gS hl a e f d0 d1 @oD) ?_;exact ⟨.inl ⟨_,_,rfl,qF,qF⟩,zK⟩
 | false =>
 refine zW (aV hl a e f) ?_;refine AnsH.eq (kM C (n:=6) zF ((aD.mono k2.sub).mono (zG H2)) zO) fun g aN=>?_;obtain ⟨k23,_,_⟩:=zT H2 zK aN;have L:Kp H g:=k2.trans k23;have a6:=L.le;have w3:=L.wf;have ab:=k23.get d0;have V:=k23.get d1;have bb:=w3 _ _ V;cases q2:fg 6 m with
 | true =>
  refine zW (gS hl a e f ab V @oD) ?_;exact ⟨.inl ⟨_,_,rfl,qF,qF⟩,zK⟩
 | false =>
 by_cases q3:3<d
 ·refine zW (jY hl a e f ab V q3 @oD) ?_;exact ⟨.inl ⟨_,_,rfl,qF,qF⟩,zK⟩
 refine zW (cp hl a e f q3) ?_;refine AnsH.use (Fx C zF ((hs.mono L.sub).mono (zG g)) gl q1 q3) ?_;rintro v h ⟨ae,p,am,rfl,⟨x,u,w,rfl,ou,ow⟩,ht⟩;obtain ⟨aY,_,_⟩:=zT g zK ae;have k4:Kp H h:=L.trans aY;have a7:=k4.le;have w4:=k4.wf;have n4:g.next+9<=h.next:=ae.le
 have f4:h.get (g.next+6)=none:=ae.free (show g.next+6<g.next+9 by omega) (w3.fresh (b:=g.next+6) zO);obtain ⟨G4,I⟩:∃ G4,G4=((h.up 9).put (g.next+6) (.cells [.int .i64 0,.nilSl,.nilSl] ai true)).put (g.next+6) (.cells [.int .i64 x,u,w] ai true):=⟨_,rfl⟩
 have s4:Sub h G4:=by rw [I]; exact ((Sub.bump h 9).put f4 _).put f4 _
 have af:Kp g G4:=by rw [I]; exact zK
 have bo:=af.wf;have bl:G4.next=h.next+9:=by rw [I]; rfl
 have dp:G4.get (g.next+6)=some (.cells [.int .i64 x,u,w] ai true):=by rw [I]; exact ap _ _ _
 have aL:G4.get (h.next+6)=none:=by rw [I,al zO,al zO]; exact w4.fresh (b:=h.next+6) zO
 refine zW (cp hl a e f @oD) ?_;rw [<- I];refine AnsH.use (Fx C zF ((aD.mono L.sub).mono af.sub) gm q2 q3) ?_;rintro v P ⟨J,p2,ao,rfl,⟨x2,u2,Z,rfl,aG,aI⟩,aW⟩;have k5:Kp g P:=af.trans J;have a8:=k5.le;have w5:=k5.wf;have a5:=J.le;have f5:P.get (h.next+6)=none:=J.free zO aL;have aK:=J.get dp;obtain ⟨i,Y⟩:∃ i,i=(P.put (h.next+6) (.cells [.int .i64 0,.nilSl,.nilSl] ai true)).put (h.next+6) (.cells [.int .i64 x2,u2,Z] ai true):=⟨_,rfl⟩
 have O:Sub P i:=by rw [Y]; exact (aX f5).put f5 _
 have N:Kp g i:=by rw [Y]; exact (k5.put zO zO).put zO (by rw [next_put]; omega)
 have aJ:=N.wf;have q:i.get (h.next+6)=some (.cells [.int .i64 x2,u2,Z] ai true):=by rw [Y]; exact ap _ _ _
 have o:=O.get _ _ aK;have R:=N.get ab;have U:=N.get V;have kA:Kp H i:=L.trans N;refine zW (eF hl a e f @oD @aC) ?_;rw [<- Y];refine O0 (fun T'=>T'.length=55/\aa T' 6=.ptr H.next 0/\aa T' 7=.ptr (H.next+1) 0/\aa T' 9=.ptr (g.next+6) 0/\aa T' 10=.int .i64 am/\aa T' 11=.ptr (h.next+6) 0/\aa T' 12=.int .i64 ao) (zV (aV hl a e f)) ?_;clear hl;rintro T' ⟨hl,B,D,t9,y,z,A⟩;have br:=N.le;have bh:=aJ _ _ q;have bg:=aJ _ _ o;refine aM ?_;by_cases e1:am=0
 ·by_cases e2:ao=0
  ·subst e1;subst e2;obtain ⟨K,G,n,rfl,n3,⟨vc,vg,aS,hc,hg⟩,ho,lK,lG⟩:=ht rfl;obtain ⟨K',G',n',aB,bi,⟨bm,bn,aU,ar,ay⟩,aR,bq,a0⟩:=aW rfl;have aB:n'=n:=zO;subst aB;cases aS;cases aU;have av:SlV conE t_api_Con i u K:=hc.mono (s4.trans (J.sub.trans O));have az:SlV genE ah i w G:=hg.mono (s4.trans (J.sub.trans O));have ax:=ar.mono O;have aA:=ay.mono O;refine zX (Mm hl a e f B D t9 y z A o q @aQ) ?_;refine AnsH.eq (xK C (n:=n') zF ⟨u,w,rfl,av.mono (zG i),az.mono (zG i)⟩) fun Q aO=>?_;obtain ⟨s,_,w6⟩:=zT i zK aO;have S:=s.get R;have M:=s.get U;have W:=s.get o;have X:=s.get q;have oc:=hc.one;have og:=hg.one;have aE:=ar.one;have aF:=ay.one;have kB:Kp H Q:=kA.trans s;have bc:=w6 _ _ M;cases hL:(pJ K G || decide (4<n')) with
   | true =>
    refine zX (JV hl a e f B D t9 y z A o q S M W X @aQ @oD) ?_;exact ⟨.inl ⟨_,_,rfl,⟨_,_,_,rfl,oc,og⟩,⟨_,_,_,rfl,aE,aF⟩⟩,zK⟩
   | false =>
   refine zX (GB hl a e f B D t9 y z A o q S M W X @aQ) ?_;refine AnsH.eq (xK C (n:=n') zF ⟨u2,Z,rfl,(ax.mono s.sub).mono (zG Q),(aA.mono s.sub).mono (zG Q)⟩) fun k aP=>?_;obtain ⟨aZ,_,_⟩:=zT Q zK aP;have j:Kp i k:=s.trans aZ;have a9:=j.le;have w7:=j.wf;have F:=j.get R;have t:=j.get U;have ag:=j.get o;have ak:=j.get q;have kC:Kp H k:=kA.trans j;have bd:=w7 _ _ t;cases aq:(pJ K' G' || decide (4<n')) with
   | true =>
    refine zX (Pk hl a e f B D t9 y z A o q S M W X F t ag ak @aQ @oD) ?_;exact ⟨.inl ⟨_,_,rfl,⟨_,_,_,rfl,oc,og⟩,⟨_,_,_,rfl,aE,aF⟩⟩,zK⟩
   | false =>
    rw [XT] at hL aq;obtain ⟨⟨a1,a2⟩,a3,a4⟩:=uX hL.1;obtain ⟨⟨b1,b2⟩,b3,b4⟩:=uX aq.1;have p1:PolyOK n' 64 64 K G:=⟨ho,zO,.inl zO,zO,fun c hc=>(a2 c hc).2,fun x hx=>(a4 x hx).2,zO,zO⟩
    have p2:PolyOK n' 64 64 K' G':=⟨aR,zO,.inl zO,zO,fun c hc=>(b2 c hc).2,fun x hx=>(b4 x hx).2,zO,zO⟩
    refine zX (Pk hl a e f B D t9 y z A o q S M W X F t ag ak @aQ @oD) ?_;refine ⟨.inr ⟨n',_,_,K,G,K',G',rfl,n3,rfl,⟨u,w,rfl,?_,?_⟩,⟨u2,Z,rfl,?_,?_⟩,p1,p2,a1,b1,a3,b3⟩,zK⟩
    ·have m3:NoTy (t_api_Con :: conE.tys) k H.next:=NoTy.ty F zU
     have m4:NoTy (t_api_Con :: conE.tys) k (H.next+1):=NoTy.ty t zU;exact SlV.monoT (E:=conE) zS (av.mono j.sub)
    ·have m3:NoTy (ah :: genE.tys) k H.next:=NoTy.ty F zU
     have m4:NoTy (ah :: genE.tys) k (H.next+1):=NoTy.ty t zU;exact SlV.monoT (E:=genE) zS (az.mono j.sub)
    ·have m3:NoTy (t_api_Con :: conE.tys) k H.next:=NoTy.ty F zU
     have m4:NoTy (t_api_Con :: conE.tys) k (H.next+1):=NoTy.ty t zU;exact SlV.monoT (E:=conE) zS (ax.mono j.sub)
    ·have m3:NoTy (ah :: genE.tys) k H.next:=NoTy.ty F zU
     have m4:NoTy (ah :: genE.tys) k (H.next+1):=NoTy.ty t zU;exact SlV.monoT (E:=genE) zS (aA.mono j.sub)
  ·subst e1;refine zX (GB hl a e f B D t9 y z A o q R U @aQ e2 @oD) ?_;exact ⟨.inl ⟨_,_,rfl,⟨_,_,_,rfl,ou,ow⟩,⟨_,_,_,rfl,aG,aI⟩⟩,zK⟩
 ·refine zX (GB hl a e f B D t9 y z A o q R U @aQ e1 @oD) ?_;exact ⟨.inl ⟨_,_,rfl,⟨_,_,_,rfl,ou,ow⟩,⟨_,_,_,rfl,aG,aI⟩⟩,zK⟩
end
end Go.Proofs.YtkmepoeklibegaaGreat.Ev
namespace Go.Proofs.YtkmepoeklibegaaGreat.Lin
open Ev
section
variable {n:Nat} {K K':List (V × Bool)} {G G':List (Nat × V)}
def B7 (o:Own n K G) (a:G≠[]):∀ r∈bw K,∀ g∈G,keepsP (r,false) g=true:=fun r hr =>
 (o.valid_iff a (c:=(r,false))).2 fun x hx=>⟨fun e=>(by cases e),((keepP_iff.1 (sin_keep.2 hx)).2.2 _ (Vl.2 ⟨r,hr,rfl⟩)).2 rfl⟩
def PD (o:Own n K G) (a:Own n K' G') (hne:G'≠[]):∀ r∈mU K G K' G',r.length=n+1/\∀ g∈G',keepsP (r,false) g=true:=fun r hr=>by
 have hs:∀ {K:List (V × Bool)} {G:List (Nat × V)},Own n K G->∀ r∈bw K,r.length=n+1:=fun o r hr=>EU o.rows (r,false) (Vl.2 ⟨r,hr,rfl⟩);rcases uu _ _ _ _ _ hr with h | h
 ·obtain ⟨h1,h2⟩:=Vx.1 h;exact ⟨hs o r h1,VJ.1 h2⟩
 ·exact ⟨hs a r h,B7 a hne r h⟩
def MI (o:Own n K G) (a:G≠[]):mU K G K G=bw K:=by
 have e:SZ K G=bw K:=Xp.2 fun r hr=>VJ.2 (B7 o a r hr);unfold mU;rw [e];exact Ez _ _ _ _ fun r hr=>hr
def wid_none (o:Own n K G) (a:Own n K' G') (b:G=[]) (c:inP G' K=true):consP n (G++G')=K/\gensP n (consP n (G++G'))=G:=by
 have e:G'=[]:=by
  refine VI fun hne=>?_;have h1:=((a.in_iff o).1 c).resolve_left hne;have h2:gensP n K'≠[]:=by rw [a.gens]; exact hne
  obtain ⟨x,hx,h0⟩:=(fj a.rows).1 h2;have h3:=(fj o.rows).2 ⟨x,h1 x hx,h0⟩;rw [o.gens] at h3;exact h3 b
 subst b;subst e;rw [Wv,o.cons,o.gens];exact ⟨rfl,rfl⟩
def wid_law (o:Own n K G) (d:Own n K' G') (a:G≠[]) {out:List V} (b:out=mU K G (consP n (G++G')) (gensP n (consP n (G++G')))) :
  gensP n (dY out)≠[]/\Own n (consP n (gensP n (dY out))) (gensP n (dY out))/\(consP n (gensP n (dY out))).length<=out.length/\(∀ r∈out,r.length=n+1) /\
  inP G (consP n (gensP n (dY out)))=true/\inP G' (consP n (gensP n (dY out)))=true/\inP (gensP n (consP n (G++G'))) (consP n (gensP n (dY out)))=true /\
  (inP G' K=true->consP n (gensP n (dY out))=K/\gensP n (dY out)=G):=by
 have e:=validG_app o.valid d.valid;have h:=own_span e;have hp:(G++G').any (fun x=>x.1 == 3)=true:=by rw [Yv,o.point a]; rfl
 have hne:=oF e hp;have ha:=PD o h hne;rw [<- b] at ha;obtain ⟨h1,h2,h3,f⟩:=RD o d a (fun r hr=>(ha r hr).1) (fun r hr=>(ha r hr).2);have hW:∀ c∈dY out,c.1.length=n+1:=fun c hc=>by
  obtain ⟨r,hr,rfl⟩:=Vl.1 hc;exact (ha r hr).1
 have hl:=Sc hW (fun c hc=>by obtain ⟨r,hr,rfl⟩:=Vl.1 hc; rfl) h1;have i:(dY out).length=out.length:=Vp ..;refine ⟨h1,own_of hW,zO,fun r hr=>(ha r hr).1,h2,h3,f,fun g=>?_⟩;obtain ⟨e1,e2⟩:=MJ o d a g;rw [e1,o.gens,MI o a] at b;rw [b];exact PX o a
end
def own_eq1 {l:List (V × Bool)} {G:List (Nat × V)} {K:List (V × Bool)} {n:Nat} (h:gensP n l=G) (h2:consP n G=K) (hl:l.all (fun c=>decide (c.1.length=n+1))=true):gensP n K=G:=by
 have:=(own_of (n:=n) (l:=l) fun c hc=>of_decide_eq_true (VJ.1 hl c hc)).gens
 rw [h,h2] at this;exact this
def wg01:gensP 1 [([0,1],false),([1,-1],false)]=[(3,[1,0]),(3,[1,1])]:=by
 have r:(gensU 2 [] [[1,0],[0,1],[1,-1]]).rays.map (restF (gensL 2 [] [[1,0],[0,1],[1,-1]]))=[[1,0],[1,1]]:=by decide +kernel
 have e:gensL 2 [] [[1,0],[0,1],[1,-1]]=[]:=by decide +kernel
 have g:gensR 2 [] [[1,0],[0,1],[1,-1]]=[[1,0],[1,1]]:=by
  unfold gensR;rw [r]; simp [List.mergeSort,List.MergeSort.Internal.splitInTwo,cmpV]
 have h1:eqsOf ([([0,1],false),([1,-1],false)]:List (V × Bool))=[]:=rfl;have h2:ineqsOf 1 ([([0,1],false),([1,-1],false)]:List (V × Bool))=[[1,0],[0,1],[1,-1]]:=rfl;unfold gensP;rw [h1,h2,e,g];rfl
def wg02:gensP 1 [([0,1],false),([2,-1],false)]=[(3,[1,0]),(3,[1,2])]:=by
 have r:(gensU 2 [] [[1,0],[0,1],[2,-1]]).rays.map (restF (gensL 2 [] [[1,0],[0,1],[2,-1]]))=[[1,0],[1,2]]:=by decide +kernel
 have e:gensL 2 [] [[1,0],[0,1],[2,-1]]=[]:=by decide +kernel
 have g:gensR 2 [] [[1,0],[0,1],[2,-1]]=[[1,0],[1,2]]:=by
  unfold gensR;rw [r]; simp [List.mergeSort,List.MergeSort.Internal.splitInTwo,cmpV]
 have h1:eqsOf ([([0,1],false),([2,-1],false)]:List (V × Bool))=[]:=rfl;have h2:ineqsOf 1 ([([0,1],false),([2,-1],false)]:List (V × Bool))=[[1,0],[0,1],[2,-1]]:=rfl;unfold gensP;rw [h1,h2,e,g];rfl
def wg00:gensP 1 [([0,1],false),([0,-1],false)]=[(3,[1,0])]:=by
 have r:(gensU 2 [] [[1,0],[0,1],[0,-1]]).rays.map (restF (gensL 2 [] [[1,0],[0,1],[0,-1]]))=[[1,0]]:=by decide +kernel
 have e:gensL 2 [] [[1,0],[0,1],[0,-1]]=[]:=by decide +kernel
 have g:gensR 2 [] [[1,0],[0,1],[0,-1]]=[[1,0]]:=by
  unfold gensR;rw [r]; simp [List.mergeSort,List.MergeSort.Internal.splitInTwo,cmpV]
 have h1:eqsOf ([([0,1],false),([0,-1],false)]:List (V × Bool))=[]:=rfl;have h2:ineqsOf 1 ([([0,1],false),([0,-1],false)]:List (V × Bool))=[[1,0],[0,1],[0,-1]]:=rfl;unfold gensP;rw [h1,h2,e,g];rfl
def wg11:gensP 1 [([-1,1],false),([1,-1],false)]=[(3,[1,1])]:=by
 have r:(gensU 2 [] [[1,0],[-1,1],[1,-1]]).rays.map (restF (gensL 2 [] [[1,0],[-1,1],[1,-1]]))=[[1,1]]:=by decide +kernel
 have e:gensL 2 [] [[1,0],[-1,1],[1,-1]]=[]:=by decide +kernel
 have g:gensR 2 [] [[1,0],[-1,1],[1,-1]]=[[1,1]]:=by
  unfold gensR;rw [r]; simp [List.mergeSort,List.MergeSort.Internal.splitInTwo,cmpV]
 have h1:eqsOf ([([-1,1],false),([1,-1],false)]:List (V × Bool))=[]:=rfl;have h2:ineqsOf 1 ([([-1,1],false),([1,-1],false)]:List (V × Bool))=[[1,0],[-1,1],[1,-1]]:=rfl;unfold gensP;rw [h1,h2,e,g];rfl
def won:gensP 1 [([0,1],false)]=[(2,[0,1]),(3,[1,0])]:=by
 have r:(gensU 2 [] [[1,0],[0,1]]).rays.map (restF (gensL 2 [] [[1,0],[0,1]]))=[[1,0],[0,1]]:=by decide +kernel
 have e:gensL 2 [] [[1,0],[0,1]]=[]:=by decide +kernel
 have g:gensR 2 [] [[1,0],[0,1]]=[[0,1],[1,0]]:=by
  unfold gensR;rw [r]; simp [List.mergeSort,List.MergeSort.Internal.splitInTwo,cmpV]
 have h1:eqsOf ([([0,1],false)]:List (V × Bool))=[]:=rfl;have h2:ineqsOf 1 ([([0,1],false)]:List (V × Bool))=[[1,0],[0,1]]:=rfl;unfold gensP;rw [h1,h2,e,g];rfl
def wk01:consP 1 [(3,[1,0]),(3,[1,1])]=[([0,1],false),([1,-1],false)]:=by
 have r:(gensU 2 [] [[1,0],[1,1]]).rays.map (restF (gensL 2 [] [[1,0],[1,1]]))=[[1,-1],[0,1]]:=by decide +kernel
 have e:gensL 2 [] [[1,0],[1,1]]=[]:=by decide +kernel
 have g:gensR 2 [] [[1,0],[1,1]]=[[0,1],[1,-1]]:=by
  unfold gensR;rw [r]; simp [List.mergeSort,List.MergeSort.Internal.splitInTwo,cmpV]
 have h1:linesOf ([(3,[1,0]),(3,[1,1])]:List (Nat × V))=[]:=rfl;have h2:raysOf ([(3,[1,0]),(3,[1,1])]:List (Nat × V))=[[1,0],[1,1]]:=rfl;unfold consP;rw [h1,h2,e,g];decide
def wk02:consP 1 [(3,[1,0]),(3,[1,2])]=[([0,1],false),([2,-1],false)]:=by
 have r:(gensU 2 [] [[1,0],[1,2]]).rays.map (restF (gensL 2 [] [[1,0],[1,2]]))=[[2,-1],[0,1]]:=by decide +kernel
 have e:gensL 2 [] [[1,0],[1,2]]=[]:=by decide +kernel
 have g:gensR 2 [] [[1,0],[1,2]]=[[0,1],[2,-1]]:=by
  unfold gensR;rw [r]; simp [List.mergeSort,List.MergeSort.Internal.splitInTwo,cmpV]
 have h1:linesOf ([(3,[1,0]),(3,[1,2])]:List (Nat × V))=[]:=rfl;have h2:raysOf ([(3,[1,0]),(3,[1,2])]:List (Nat × V))=[[1,0],[1,2]]:=rfl;unfold consP;rw [h1,h2,e,g];decide
def wk00:consP 1 [(3,[1,0])]=[([0,1],true)]:=by
 have r:(gensU 2 [] [[1,0]]).rays.map (restF (gensL 2 [] [[1,0]]))=[[1,0]]:=by decide +kernel
 have e:gensL 2 [] [[1,0]]=[[0,1]]:=by decide +kernel
 have g:gensR 2 [] [[1,0]]=[[1,0]]:=by
  unfold gensR;rw [r]; simp [List.mergeSort,List.MergeSort.Internal.splitInTwo,cmpV]
 have h1:linesOf ([(3,[1,0])]:List (Nat × V))=[]:=rfl;have h2:raysOf ([(3,[1,0])]:List (Nat × V))=[[1,0]]:=rfl;unfold consP;rw [h1,h2,e,g];decide
def wk11:consP 1 [(3,[1,1])]=[([-1,1],true)]:=by
 have r:(gensU 2 [] [[1,1]]).rays.map (restF (gensL 2 [] [[1,1]]))=[[1,0]]:=by decide +kernel
 have e:gensL 2 [] [[1,1]]=[[-1,1]]:=by decide +kernel
 have g:gensR 2 [] [[1,1]]=[[1,0]]:=by
  unfold gensR;rw [r]; simp [List.mergeSort,List.MergeSort.Internal.splitInTwo,cmpV]
 have h1:linesOf ([(3,[1,1])]:List (Nat × V))=[]:=rfl;have h2:raysOf ([(3,[1,1])]:List (Nat × V))=[[1,1]]:=rfl;unfold consP;rw [h1,h2,e,g];decide
def wkon:consP 1 [(2,[0,1]),(3,[1,0])]=[([0,1],false)]:=by
 have r:(gensU 2 [] [[0,1],[1,0]]).rays.map (restF (gensL 2 [] [[0,1],[1,0]]))=[[0,1],[1,0]]:=by decide +kernel
 have e:gensL 2 [] [[0,1],[1,0]]=[]:=by decide +kernel
 have g:gensR 2 [] [[0,1],[1,0]]=[[0,1],[1,0]]:=by
  unfold gensR;rw [r]; simp [List.mergeSort,List.MergeSort.Internal.splitInTwo,cmpV]
 have h1:linesOf ([(2,[0,1]),(3,[1,0])]:List (Nat × V))=[]:=rfl;have h2:raysOf ([(2,[0,1]),(3,[1,0])]:List (Nat × V))=[[0,1],[1,0]]:=rfl;unfold consP;rw [h1,h2,e,g];decide
def wkh:consP 1 [(3,[1,0]),(3,[1,1]),(3,[1,0]),(3,[1,2])]=[([0,1],false),([2,-1],false)]:=by
 have r:(gensU 2 [] [[1,0],[1,1],[1,0],[1,2]]).rays.map (restF (gensL 2 [] [[1,0],[1,1],[1,0],[1,2]]))=[[0,1],[2,-1]]:=by decide +kernel
 have e:gensL 2 [] [[1,0],[1,1],[1,0],[1,2]]=[]:=by decide +kernel
 have g:gensR 2 [] [[1,0],[1,1],[1,0],[1,2]]=[[0,1],[2,-1]]:=by
  unfold gensR;rw [r]; simp [List.mergeSort,List.MergeSort.Internal.splitInTwo,cmpV]
 have h1:linesOf ([(3,[1,0]),(3,[1,1]),(3,[1,0]),(3,[1,2])]:List (Nat × V))=[]:=rfl;have h2:raysOf ([(3,[1,0]),(3,[1,1]),(3,[1,0]),(3,[1,2])]:List (Nat × V))=[[1,0],[1,1],[1,0],[1,2]]:=rfl;unfold consP;rw [h1,h2,e,g];decide
def wL1:mU [([0,1],false),([1,-1],false)] [(3,[1,0]),(3,[1,1])] [([0,1],false),([2,-1],false)] [(3,[1,0]),(3,[1,2])]=[[0,1]]:=by decide +kernel
def wL2:mU [([0,1],true)] [(3,[1,0])] [([0,1],false),([1,-1],false)] [(3,[1,0]),(3,[1,1])]=[[0,1]]:=by decide +kernel
end Go.Proofs.YtkmepoeklibegaaGreat.Lin
namespace Go.Proofs.YtkmepoeklibegaaGreat.Ev
open Go Nn
section
variable {tab:Nat->Option au} {H:Heap}
end
end Go.Proofs.YtkmepoeklibegaaGreat.Ev
namespace Go.Proofs.YtkmepoeklibegaaGreat.Lin
end Go.Proofs.YtkmepoeklibegaaGreat.Lin
namespace Go.Proofs.YtkmepoeklibegaaGreat.Ev
open Go Nn
section
variable {tab:Nat->Option au} {H:Heap}
end
section
variable {tab:Nat->Option au} {H:Heap} {n x:Nat} {a:List Int} {K:List (List Int × Bool)} {G:List (Nat × List Int)}
end
end Go.Proofs.YtkmepoeklibegaaGreat.Ev
namespace Go.Proofs.YtkmepoeklibegaaGreat.Lin
def subN:Nat->Nat->Nat
 | _,0=>1
 | 0,_+1=>1
 | n+1,k+1=>subN n (k+1)+subN n k
def EL:∀ n k,1<=subN n k
 | _,0=>by unfold subN; exact Vo _
 | 0,_+1=>by unfold subN; exact Vo _
 | n+1,k+1=>by
  have:=EL n (k+1)
  unfold subN; omega
def subN_le {k:Nat}:∀ {n m:Nat},n<=m->subN n k<=subN m k
 | n,m,h=>by
  induction h with
  | refl=>exact Vo _
  | step _ a =>
   refine VB a ?_;cases k with
   | zero=>unfold subN; exact Vo _
   | succ k=>rw [subN]; exact VV _ _
def subN_less {n:Nat}:∀ {k j:Nat},k<=j->subN n k<=subN n j
 | k,j,h=>by
  induction n generalizing k j with
  | zero=>cases k <;> cases j <;> simp [subN]
  | succ n a =>
   cases k with
   | zero=>rw [subN]; exact EL _ _
   | succ k =>
    cases j with
    | zero=>omega
    | succ j=>rw [subN,subN]; exact Nat.add_le_add (a _ _ zO) (a _ _ zO)
def zq {α:Type} [DecidableEq α]:∀ (A:List α) (k:Nat) (l:List (List α)),l.Nodup->(∀ b∈l,b.length<=k/\b.Sublist A)->l.length<=subN A.length k
 | A,0,l,hn,h=>by
  have h0:∀ b∈l,b=[]:=fun b hb=>VZ (by have:=(h b hb).1; omega);unfold subN
  match l,hn,h0 with
  | [],_,_=>simp
  | [a],_,_=>simp
  | a :: b :: l,hn,h0 =>
   have e1:=h0 a (by simp);have e2:=h0 b (by simp);subst e1; subst e2;simp at hn
 | [],k+1,l,hn,h=>by
  have h0:∀ b∈l,b=[]:=fun b hb=>List.sublist_nil.1 (h b hb).2;show _<=1
  match l,hn,h0 with
  | [],_,_=>simp
  | [a],_,_=>simp
  | a :: b :: l,hn,h0 =>
   have e1:=h0 a (by simp);have e2:=h0 b (by simp);subst e1; subst e2;simp at hn
 | a :: A,k+1,l,hn,h=>by
  have h1:=zq A (k+1) (l.filter fun b=>b.isSublist A) (XQ _ hn) fun b hb=>by
   obtain ⟨hb,e⟩:=Vx.1 hb;exact ⟨(h b hb).1,ZG.1 e⟩
  have hc:∀ b∈l.filter fun b=>!b.isSublist A,∃ c,b=a :: c/\c.Sublist A/\c.length<=k:=fun b hb=>by
   obtain ⟨hb,e⟩:=Vx.1 hb;obtain ⟨h1,h2⟩:=h b hb;cases h2 with
   | cons _ h2=>rw [ZG.2 h2] at e; cases e
   | cons_cons _ h2=>exact ⟨_,rfl,h2,by simp at h1; omega⟩
  have h2:=zq A k ((l.filter fun b=>!b.isSublist A).map List.tail) (by
   refine WE.2 (XO (fun {x y} hx hy hne e=>hne ?_) (XQ _ hn));obtain ⟨c,rfl,-,-⟩:=hc x hx;obtain ⟨d,rfl,-,-⟩:=hc y hy;simp at e; rw [e]) fun b hb=>by
    obtain ⟨x,hx,rfl⟩:=Vl.1 hb;obtain ⟨c,rfl,h3,f⟩:=hc x hx;exact ⟨f,h3⟩
  rw [Vp] at h2;have h3:l.length=(l.filter fun b=>b.isSublist A).length+(l.filter fun b=>!b.isSublist A).length:=by
   rw [<- WS,<- WS,XG (p:=fun b:List α=>b.isSublist A)];congr 1;refine ZQ fun b _=>?_;cases b.isSublist A <;> simp
  rw [VX,subN];omega
def Iu:∀ (l F:List V),(fl F l).Sublist l
 | [],_=>List.Sublist.refl _
 | a :: l,F=>by
  unfold fl;split
  ·exact (Iu l F).cons a
  ·exact (Iu l _).cons_cons a
def DD.count4 {d:Nat} {E L:V->Prop} {c R:List V} (h:DD d E (· ∈ c) L R) (k:∀ i∈c,i.length=d):R.length<=subN c.length (d-1):=by
 obtain ⟨T,hT⟩:∃ T:V->List V,T=fun r=>c.filter fun i=>decide (dot i r=0):=⟨_,rfl⟩
 have f:∀ r i,i∈T r ↔ i∈c/\dot i r=0:=fun r i=>by rw [hT,Vx]; simp
 have g:∀ r,∀ i∈T r,i.length=d:=fun r i hi=>k i ((f r i).1 hi).1;have o:∀ r,(T r).Sublist c:=fun r=>by rw [hT]; exact Zm
 have hn:(R.map fun r=>fl [] (T r)).Nodup:=by
  have j:∀ r s:V,fl [] (T r)=fl [] (T s)->∀ i,i∈c->dot i r=0->dot i s=0:=fun r s e i hi n=>by
   have h1:Spn d (· ∈ fl [] (T r)) i:=((Eh (g r)).2 i).2 (dI (k i hi) ((f r i).2 ⟨hi,n⟩));rw [dot_comm];refine Con.dot_zero (fun l hl=>g r l (lH _ _ l hl)) (fun r h=>h.elim) (fun l hl=>?_) (fun r h=>h.elim) h1;have h2:l∈fl [] (T s):=by rw [<- e]; exact hl
   rw [dot_comm]; exact ((f s l).1 (lH _ _ l h2)).2
  exact WE.2 (h.apart.imp fun hne e=>hne fun i hi=>⟨j _ _ e i hi,j _ _ e.symm i hi⟩)
 have:=zq c (d-1) _ hn fun b hb=>by
  obtain ⟨r,hr,rfl⟩:=Vl.1 hb;obtain ⟨i,hi,m⟩:=h.off r hr;have h1:=Gj (g r) (h.lenR r hr) (fun a ha=>((f r a).1 ha).2) m;exact ⟨zO,(Iu _ _).trans (o r)⟩
 simpa using this
section
variable {n x:Nat} {a r:V} {K K':List (V × Bool)} {G G':List (Nat × V)}
end
end Go.Proofs.YtkmepoeklibegaaGreat.Lin
namespace Go.Proofs.YtkmepoeklibegaaGreat.Ev
open Go Nn
section
variable {n:Nat} {K K':List (List Int × Bool)} {G G':List (Nat × List Int)}
def FV {L:List (Nat × List Int)} (b:Lin.ValidG n L) (hn:n<=3) (hL:L.length<=18):(Lin.consP n L).length<=992:=by
 have e1:∀ a∈Lin.linesOf L,a.length=n+1:=fun a ha=>(b _ (Lin.mem_lines.1 ha)).1;have e2:∀ a∈Lin.raysOf L,a.length=n+1:=fun a ha=>by obtain ⟨k,-,h⟩:=Lin.mem_rays.1 ha; exact (b _ h).1
 have t:=Lin.gens_told e1 e2;have h1:=t.dd.count4 e2;have h2:=ech_len t.form;have h3:=Dn L;have c:Lin.subN (Lin.raysOf L).length (n+1-1)<=Lin.subN 18 3:=VB (Lin.subN_le zO) (Lin.subN_less zO);have h5:Lin.subN 18 3=988:=by decide
 unfold Lin.consP;split
 ·rw [VC,Vp,Vp]
  have:=Wh (fun r:Lin.V=>!decide (r=Lin.unitC n 1)) (Lin.gensR (n+1) (Lin.linesOf L) (Lin.raysOf L))
  omega
 ·show 1<=_;omega
def yN (h:PolyOK n 64 64 K G) (h':PolyOK n 64 64 K' G') (hn:n<=3) (f:G.length<=9) (g:G'.length<=9):PolyOK n (16*(16*(64+4)+4)) (16*(64+4)) (Lin.consP n (G++G')) (Lin.gensP n (Lin.consP n (G++G')))/\(Lin.consP n (G++G')).length<=992:=by
 have a:=Lin.validG_app h.own.valid h'.own.valid;have e:∀ y∈G++G',y.2.length=n+1/\Lin.Bd (2^64) y.2:=fun y hy=>⟨(a y hy).1,(VE.1 hy).elim (h.bG y) (h'.bG y)⟩
 have b:=Cw (m:=64) hn e;have d:=Cn (m:=16*(64+4)) hn b;have l1:=Lin.span_len a;have l2:=FV a hn (by rw [VC]; omega);rw [VC] at l1;exact ⟨⟨Lin.own_span a,zO,.inr ⟨zO,zO⟩,zO,fun c hc=>(b c hc).2,fun x hx=>(d x hx).2,zO,zO⟩,l2⟩
def PolyOK.upf {e f f':Nat} (h:PolyOK n e f K G) (a:f<=f') (h3:f'<=300000):PolyOK n e f' K G:=⟨h.own,h.dim,h.few,h.many,fun c hc=>Gi (h.bK c hc) a,h.bG,h.e3,h3⟩
def RE {q f f':Nat} {b:List (List Int × Bool)} {d:List (Nat × List Int)} (a:f<=q) (i:f'<=q) (hr:∀ c∈K,c.1.length=n+1) (hb:∀ c∈K,Lin.Bd (2^f) c.1) (j:∀ c∈b,c.1.length=n+1) (g:∀ c∈b,Lin.Bd (2^f') c.1):∀ r∈mU K G b d,r.length=n+1/\Lin.Bd (2^q) r:=fun r h=>by
 have hs:∀ {K:List (List Int × Bool)} {f:Nat},f<=q->(∀ c∈K,c.1.length=n+1)->(∀ c∈K,Lin.Bd (2^f) c.1)->∀ r∈bw K,r.length=n+1/\Lin.Bd (2^q) r:=fun a h1 h2 r hr=>by
  obtain ⟨c,hc,e⟩:=mem_sin.1 hr;rcases e with rfl | ⟨-,rfl⟩
  ·exact ⟨h1 c hc,Gi (h2 c hc) a⟩
  ·exact ⟨Lin.scl_length (h1 c hc),Lin.scl_bd (Gi (h2 c hc) a)⟩
 rcases uu _ _ _ _ _ h with h | h
 ·exact hs a hr hb r (Vx.1 h).1
 ·exact hs i j g r h
structure Ug (n:Nat) (K:List (List Int × Bool)) (G G':List (Nat × List Int)) (Kw:List (List Int × Bool)) (Gw:List (Nat × List Int)):Prop where
 hasP:Lin.inP G Kw=true
 hasQ:Lin.inP G' Kw=true
 hasH:Lin.inP (Lin.gensP n (Lin.consP n (G++G'))) Kw=true
 same:Lin.inP G' K=true->Kw=K/\Gw=G
 told:G≠[]->Gw=Lin.gensP n (dY (mU K G (Lin.consP n (G++G')) (Lin.gensP n (Lin.consP n (G++G')))))
 none:G=[]->Kw=Lin.consP n (G++G')/\Gw=Lin.gensP n (Lin.consP n (G++G'))
section
variable {tab:Nat->Option au} {H:Heap}
def Ke (C:Code tab) (A:Wf H) {v w:AV} (hp:PolyV H v n K G) (u:PolyV H w n K' G') (b:PolyOK n 64 64 K G) (e:PolyOK n 64 64 K' G') (hn:n<=3) (D:G.length<=9) (E:G'.length<=9) :
  Ans tab (.fn iv [v,w]) H fun x H'=>(x=.tup [wG,.int .i64 4]\/∃ p Kw Gw,x=.tup [p,.int .i64 0]/\PolyV H' p n Kw Gw/\PolyOK n (16*(16*(64+4)+4)) (16*(16*(16*(64+4)+4)+4)) Kw Gw/\Ug n K G G' Kw Gw)/\Kp H H':=by
 obtain ⟨a,J⟩:=yN b e hn D E;obtain ⟨out,g⟩:∃ X,X=mU K G (Lin.consP n (G++G')) (Lin.gensP n (Lin.consP n (G++G'))):=⟨_,rfl⟩
 have y:∀ r∈out,r.length=n+1/\Lin.Bd (2^(16*(64+4))) r:=by
  rw [g];exact RE (q:=16*(64+4)) (f:=64) (f':=16*(64+4)) zO (Vo _) b.own.rows b.bK a.own.rows a.bK
 have z:∀ c∈dY out,c.1.length=n+1/\Lin.Bd (2^(16*(64+4))) c.1:=fun c hc=>by
  obtain ⟨r,hr,rfl⟩:=Vl.1 hc;exact y r hr
 have h:=Cn (m:=16*(64+4)) hn z;have B:=Cw (m:=16*(16*(64+4)+4)) hn h;refine (xG C (m:=64) (m2:=16*(64+4)) (m3:=16*(16*(64+4)+4)) (m4:=16*(16*(64+4)+4)) A hp u b e zO zO zO zO a.bK zO a.bG zO (.inl zO) a (fun _=>by rw [<- g]; exact fun x hx=>(h x hx).2) zO zU).mono ?_;rintro x H' ⟨hx,t⟩;refine ⟨?_,t⟩;unfold Iy at hx;by_cases d:G=[]
 ·rw [if_pos d] at hx;obtain ⟨p,rfl,i⟩:=hx;refine .inr ⟨p,_,_,rfl,i,a.upf zO zO,?_⟩;have h1:=Lin.hull_has b.own e.own;exact ⟨h1.1,h1.2,(a.own.in_iff a.own).2 (.inr fun x hx=>hx),fun s=>Lin.wid_none b.own e.own d s,fun q=>absurd d q,fun _=>⟨rfl,rfl⟩⟩
 ·rw [if_neg d,<- g] at hx;by_cases j:60<out.length
  ·rw [if_pos j] at hx;exact .inl hx
  ·rw [if_neg j] at hx;obtain ⟨h1,h2,h3,-,h5,k,l,o⟩:=Lin.wid_law b.own e.own d g;rcases hx with ⟨rfl,-⟩ | ⟨p,rfl,i,F,I⟩
   ·exact .inl rfl
   ·exact .inr ⟨p,_,_,rfl,i,⟨h2,zO,.inl zO,zO,fun c hc=>(B c hc).2,fun x hx=>(h x hx).2,zO,zO⟩,h5,k,l,o,fun _=>by rw [g],fun q=>absurd q d⟩
end
end
def Q2:PolyOK 1 4 4 [([0,1],false),([1,-1],false)] [(3,[1,0]),(3,[1,1])]:=ok1 Lin.wg01 Lin.wk01 zU
def Q0:PolyOK 1 4 4 [([0,1],false),([2,-1],false)] [(3,[1,0]),(3,[1,2])]:=ok1 Lin.wg02 Lin.wk02 zU
def Tf:PolyOK 1 4 4 [([0,1],true)] [(3,[1,0])]:=ok1 (Lin.own_eq1 Lin.wg00 Lin.wk00 rfl) Lin.wk00 zU
def Te:PolyOK 1 4 4 [([-1,1],true)] [(3,[1,1])]:=ok1 (Lin.own_eq1 Lin.wg11 Lin.wk11 rfl) Lin.wk11 zU
def okon:PolyOK 1 4 4 [([0,1],false)] [(2,[0,1]),(3,[1,0])]:=ok1 Lin.won Lin.wkon zU
section
variable {tab:Nat->Option au} {H:Heap}
def Ew (C:Code tab) (n:Wf H) {v w:AV} {K K' a Kw:List (List Int × Bool)} {G G' b Gw:List (Nat × List Int)} {out:List (List Int)} (hp:PolyV H v 1 K G) (l:PolyV H w 1 K' G') (j:PolyOK 1 4 4 K G) (k:PolyOK 1 4 4 K' G') (c:PolyOK 1 4 4 a b) (e:PolyOK 1 4 4 Kw Gw) (h:G≠[]) (hl:G.length+G'.length<=60) (e1:Lin.consP 1 (G++G')=a) (e2:Lin.gensP 1 a=b) (e3:mU K G a b=out) (lo:out.length<=60) (d:Lin.gensP 1 (dY out)=Gw) (o:a.length<=1022) :
  Ans tab (.fn iv [v,w]) H fun x H'=>(∃ f g,x=.tup [.agg [.int .i64 1,f,g],.int .i64 0]/\SlV conE t_api_Con H' f Kw/\SlV genE ah H' g Gw)/\Kp H H':=by
 subst e2;subst e1;refine (xG C (m:=4) (m2:=4) (m3:=4) (m4:=4) n hp l j k hl zO zO zO c.bK zO c.bG zO (.inl o) c (fun _=>by rw [e3,d]; exact e.bG) zO zU).mono ?_;rintro x H' ⟨hx,i⟩;refine ⟨?_,i⟩;unfold Iy at hx;rw [if_neg h,e3,if_neg zO,d] at hx;exact Ti hx e
set_option maxHeartbeats 4000000 in
def Fw (C:Code tab) (hw:Wf H):Ans tab (.fn fE []) H fun v H'=>v=.bool true/\Kp H H':=by
 refine Ua C.q2 fun T hl=>?_;refine zW hl ?_;refine AnsH.use (kg C (a:=0) (b:=1) zF zU zU Lin.wg01 Lin.wk01 zU zU) ?_;rintro _ H2 ⟨⟨W,vg,rfl,hc,hg⟩,O⟩;obtain ⟨k2,_,w2⟩:=zT H zK O;have oc:=hc.one;have og:=hg.one;refine zW hl ?_;refine AnsH.use (kg C (a:=0) (b:=2) zF zU zU Lin.wg02 Lin.wk02 zU zU) ?_;rintro _ H3 ⟨⟨X,ab,rfl,j,k⟩,s⟩;have S:Kp H H3:=k2.trans (Kp.trans zK s);have a5:=S.le;have w3:=S.wf;have aS:=j.one;have aU:=k.one;refine zW hl ?_;refine AnsH.use (Ew C zF ⟨W,vg,rfl,hc.mono (Kp.sub (H:=H2) (Kp.trans zK s)),hg.mono (Kp.sub (H:=H2) (Kp.trans zK s))⟩ ⟨X,ab,rfl,j,k⟩ Q2 Q0 Q0 okon zU zU Lin.wkh Lin.wg02 Lin.wL1 zU Lin.won zU) ?_;rintro _ c ⟨⟨va,V,rfl,ha,hb⟩,P⟩;have k4:Kp H c:=S.trans P;have a6:=k4.le;have w4:=k4.wf;have oa:=ha.one;have ob:=hb.one;have n2:H.next+10<=H2.next:=O.le
 have n3:H2.next<=H3.next:=s.le
 have n4:=P.le;have f4:c.get (H.next+7)=none:=P.free zO (s.free (show _<H2.next by omega) (O.free (show _<H.next+10 by omega) (hw.fresh (b:=H.next+7) zO)));obtain ⟨G4,i⟩:∃ G4,G4=((c.up 9).put (H.next+7) (.cells [.int .i64 0,.nilSl,.nilSl] ai true)).put (H.next+7) (.cells [.int .i64 1,va,V] ai true):=⟨_,rfl⟩
 have s4:Sub c G4:=by rw [i]; exact ((Sub.bump c 9).put f4 _).put f4 _
 have ao:Kp H G4:=by rw [i]; exact zK
 have aZ:=ao.wf;have dA:G4.get (H.next+7)=some (.cells [.int .i64 1,va,V] ai true):=by rw [i]; exact ap _ _ _
 have aA:=ha.mono s4;have aE:=hb.mono s4;refine zW (aB hl @oD @aC) ?_;rw [<- i];have a8:G4.next=c.next+9:=by rw [i]; rfl
 have ay:G4.get (c.next+6)=none:=by rw [i,al zO,al zO]; exact w4.fresh (b:=c.next+6) zO
 clear i ha hb hc hg j k;obtain ⟨A,hA⟩:∃ A,A=H.next+7:=⟨_,rfl⟩
 rw [<- hA] at dA ⊢;refine AnsH.use (kg C (a:=0) (b:=0) aZ zU zU Lin.wg00 Lin.wk00 zU zU) ?_;rintro _ H5 ⟨⟨W,vg,rfl,hc,hg⟩,Q⟩;have w5:=Q.wf;have a3:=Q.le;have oc:=hc.one;have og:=hg.one;refine zW hl ?_;refine AnsH.use (kg C (a:=1) (b:=1) w5 zU zU Lin.wg11 Lin.wk11 zU zU) ?_;rintro _ H6 ⟨⟨X,ab,rfl,j,k⟩,t⟩;have w6:=t.wf;have a4:=t.le;have aS:=j.one;have aU:=k.one;refine zW hl ?_;refine AnsH.use (Ew C w6 ⟨W,vg,rfl,hc.mono t.sub,hg.mono t.sub⟩ ⟨X,ab,rfl,j,k⟩ Tf Te Q2 okon zU zU Lin.wk01 Lin.wg01 Lin.wL2 zU Lin.won zU) ?_;rintro _ D ⟨⟨Y,Z,rfl,he,N⟩,aO⟩;have f:Kp G4 D:=(Q.trans t).trans aO;have a7:=f.le;have w7:=f.wf;have oe:=he.one;have of:=N.one;have n7:=f.le;have f7:D.get (c.next+6)=none:=f.free zO ay;obtain ⟨h,q⟩:∃ h,h=(D.put (c.next+6) (.cells [.int .i64 0,.nilSl,.nilSl] ai true)).put (c.next+6) (.cells [.int .i64 1,Y,Z] ai true):=⟨_,rfl⟩
 have w:Sub D h:=by rw [q]; exact (aX f7).put f7 _
 have aq:Kp H h:=by
  have a2:=ao.trans f;rw [q]; exact zK
 have bi:=aq.wf;have d:h.get (c.next+6)=some (.cells [.int .i64 1,Y,Z] ai true):=by rw [q]; exact ap _ _ _
 have e:=w.get _ _ (f.get dA);have aD:=aA.mono (f.sub.trans w);have aF:=aE.mono (f.sub.trans w);have aI:=he.mono w;have aJ:=N.mono w;refine zW (aB hl @oD @aC) ?_;rw [<- q];obtain ⟨B,hB⟩:∃ B,B=c.next+6:=⟨_,rfl⟩
 rw [<- hB] at d ⊢;clear q he N hc hg j k;refine O0 (fun T'=>T'.length=33/\aa T' 1=.ptr A 0/\aa T' 2=.int .i64 0/\aa T' 3=.ptr B 0/\aa T' 4=.int .i64 0) (zV hl) ?_;clear hl;rintro T ⟨hl,t1,x,t3,t4⟩;have on:=Ar (tab:=tab) (g:=[(2,[0,1]),(3,[1,0])]) (K:=[([0,1],false)]) C (H:=h.up 17) zF Lin.won Lin.wkon zU zU;have J:(∀ r∈([([0,1],false)]:List (List Int × Bool)),r.1.length<1099511627776/\∀ z∈r.1,eR z)/\∀ r∈([(2,[0,1]),(3,[1,0])]:List (Nat × List Int)),r.2.length<1099511627776/\∀ z∈r.2,eR z:=⟨fun r hr=>⟨by rw [okon.own.rows r hr]; omega,fun z R=>(ft (okon.bK r hr) z R).sm zO⟩,fun r hr=>⟨by rw [(okon.own.valid r hr).1]; omega,fun z R=>(ft (okon.bG r hr) z R).sm zO⟩⟩
 refine aM ?_;refine zD hl ?_;refine AnsH.use on ?_;rintro _ H8 ⟨⟨v8,g8,rfl,aG,ak⟩,aP⟩;obtain ⟨U,_,w8⟩:=zT h zK aP;have ba:=aG.one;have bd:=ak.one;have o:=U.get e;have p:=U.get d;have y:bz [AV.int .i64 ((1:Nat):Int),v8,g8] 2 none=some g8:=rfl;have u:_=some (AV.int .i64 2):=ak.lenV;refine zX (By hl t1 x t3 t4 e d o p u @aQ y) ?_;refine AnsH.use (Ar (tab:=tab) (g:=[(2,[0,1]),(3,[1,0])]) (K:=[([0,1],false)]) C (H:=H8) w8 Lin.won Lin.wkon zU zU) ?_;rintro _ H9 ⟨⟨v9,g9,rfl,ag,am⟩,aR⟩;have m:=U.trans aR;have w9:=m.wf;have bb:=ag.one;have bg:=am.one;have E:=m.get e;have F:=m.get d;refine zX (Ml hl t1 x t3 t4 e d o p E F u @aQ y) ?_;refine AnsH.eq (Fv C (n:=1) (n':=1) w9 ⟨va,V,rfl,aD.mono m.sub,aF.mono m.sub⟩ ⟨v9,g9,rfl,ag,am⟩ zU J.1 zU J.2) fun ar aK=>?_;have G:=m.trans aK;have aW:=G.wf;have L:=G.get e;have M:=G.get d;have tt:decide ((1:Nat)=1/\([([0,1],false)]:List (List Int × Bool))=[([0,1],false)]/\([(2,[0,1]),(3,[1,0])]:List (Nat × List Int))=[(2,[0,1]),(3,[1,0])])=true:=by decide
 rw [tt];refine zX (ST hl t1 x t3 t4 e d o p E F L M u @aQ y) ?_;refine AnsH.use (Ar (tab:=tab) (g:=[(2,[0,1]),(3,[1,0])]) (K:=[([0,1],false)]) C (H:=ar) aW Lin.won Lin.wkon zU zU) ?_;rintro _ a0 ⟨⟨aV,az,rfl,af,ah⟩,aL⟩;have l:=G.trans aL;have aY:=l.wf;have a9:=af.one;have bc:=ah.one;have ad:=l.get e;have ae:=l.get d;refine zX (JV hl t1 x t3 t4 e d o p E F L M ad ae u @aQ y) ?_;refine AnsH.eq (Fv C (n:=1) (n':=1) aY ⟨Y,Z,rfl,aI.mono l.sub,aJ.mono l.sub⟩ ⟨aV,az,rfl,af,ah⟩ zU J.1 zU J.2) fun a1 aN=>?_;have I:=l.trans aN;have bh:=I.wf;have av:=I.get e;have ax:=I.get d;rw [tt];refine zX (SS hl t1 x t3 t4 e d o p E F L M ad ae av ax u @aQ y) ?_;exact aq.trans I
end
section
variable {tab:Nat->Option au} {H:Heap} {s1 s2:AV}
def K8 {H:Heap} {v:AV} {d:Int} (h:Rc H v d):∃ x u w f e w' b,v=.tup [.agg [.int .i64 x,u,w],.agg [.int .i64 f,e,w'],.bool b]/\One u/\One w/\One e/\One w':=by
 rcases h with ⟨a,b,rfl,⟨x,u,w,rfl,h1,h2⟩,⟨f,e,w',rfl,h3,c⟩⟩ | ⟨n,p,q,K,G,K',G',-,-,rfl,⟨g,j,rfl,h1,h2⟩,⟨i,k,rfl,h3,c⟩,-⟩
 ·exact ⟨_,_,_,_,_,_,_,rfl,h1,h2,h3,c⟩
 ·exact ⟨_,_,_,_,_,_,_,rfl,h1.one,h2.one,h3.one,c.one⟩
set_option maxHeartbeats 4000000 in
def law25_WidenHas (C:Code tab) (hw:Wf H) {d:Int} {l m:List vY} (bR:SlV conQE t_api_Con H s1 l) (bT:SlV conQE t_api_Con H s2 m) (gl:∀ x∈l,jg x.1) (gm:∀ x∈m,jg x.1) (_ : -9223372036854775808<=d/\d<9223372036854775808) :
  Ans tab (.fn ee [.int .i64 d,s1,s2]) H fun v H'=>v=.bool true/\Kp H H':=by
 refine BM C.q0 rfl rfl zU fun T hl g=>?_;have hl:T.length=116:=hl;have aD:c_facetroomlaw25_WidenHas.results=[(6,none)]:=rfl;have g0:aa T 0=.int .i64 d:=g 0 (by simp);have g1:aa T 1=s1:=g 1 (by simp);have g2:aa T 2=s2:=g 2 (by simp);clear g;refine bi ?_;refine zW (aA hl @aC) ?_;refine bi ?_;refine zW hl ?_;refine AnsH.eq (Fw C zF) fun H2 bQ=>?_;obtain ⟨k2,_,w2⟩:=zT H zK bQ;refine zW (aA hl @aC) ?_;refine bi ?_;refine zW (aV hl g0 g1 g2) ?_;refine AnsH.use (HN C zF ((bR.mono k2.sub).mono (zG H2)) gl ((bT.mono k2.sub).mono (zG H2)) gm) ?_;rintro v3 H3 ⟨bt,bs⟩;obtain ⟨x,u,w,x',u',w',b,bU,ou,ow,cA,cB⟩:=K8 bt;obtain ⟨k3,_,w3⟩:=zT H2 zK bs;have e3:Emp H3 H2.next (H2.next+13):=(Emp.start w2 (k:=13)).keep bs
 have n3:=e3.1;have fA:=e3.2 (H2.next+8) zO zO;have fB:=e3.2 (H2.next+9) zO zO;obtain ⟨G3,V⟩:∃ G3,G3=(((H3.put (H2.next+8) (.cells [.int .i64 0,.nilSl,.nilSl] ai true)).put (H2.next+9) (.cells [.int .i64 0,.nilSl,.nilSl] ai true)).put (H2.next+8) (.cells [.int .i64 x,u,w] ai true)).put (H2.next+9) (.cells [.int .i64 x',u',w'] ai true):=⟨_,rfl⟩
 have bu:Kp H2 G3:=by rw [V]; exact zK
 have aY:Sub H3 G3:=by rw [V]; exact (((aX fA).put fB _).put fA _).put fB _
 have cN:=bu.wf;have a7:G3.get (H2.next+8)=some (.cells [.int .i64 x,u,w] ai true):=by rw [V,al zO,ap]
 have a9:G3.get (H2.next+9)=some (.cells [.int .i64 x',u',w'] ai true):=by rw [V,ap]
 have kH:Kp H G3:=k2.trans bu;subst bU;refine zW (eF hl g0 g1 g2 @oD @aC) ?_;rw [<- V];clear V;obtain ⟨A,hA⟩:∃ A,A=H2.next+8:=⟨_,rfl⟩
 obtain ⟨B,hB⟩:∃ B,B=H2.next+9:=⟨_,rfl⟩
 rw [<- hA,<- hB];rw [<- hA] at a7;rw [<- hB] at a9;refine ot (fun T'=>T'.length=116/\aa T' 7=.bool true/\aa T' 8=.ptr A 0/\aa T' 9=.ptr B 0/\aa T' 10=.bool b) (zV hl) ?_;clear hl g0 g1 g2 hA hB;rintro T ⟨hl,u7,a,e,bb⟩;refine bi ?_;cases b with
 | false =>
  refine zW (cp hl u7 bb @uB aD) ?_;exact zK
 | true =>
 rcases bt with ⟨_,_,he,-⟩ | ⟨n,p,q,K,G,K',G',rfl,az,he,⟨vc,vg,rfl,hc,hg⟩,⟨cF,cG,rfl,bh,bo⟩,ok,P,lK,cq,lG,aK⟩
 ·cases he
 cases he;refine zW (aV hl u7 bb @aC) ?_;obtain ⟨h,ax⟩:∃ h,h=G3.up 6:=⟨_,rfl⟩
 rw [<- ax];have ab:Sub G3 h:=by rw [ax]; exact Sub.bump _ 6
 have ah:Kp H h:=by rw [ax]; exact kH.up _
 have cm:=ah.wf;clear ax;have ak:=ab.get _ _ a7;have am:=ab.get _ _ a9;have bG:PolyV h (.agg [.int .i64 (n:Int),u,w]) n K G:=⟨u,w,rfl,hc.mono (aY.trans ab),hg.mono (aY.trans ab)⟩
 have bJ:PolyV h (.agg [.int .i64 (n:Int),u',w']) n K' G':=⟨u',w',rfl,bh.mono (aY.trans ab),bo.mono (aY.trans ab)⟩
 clear u7 bb hc hg bh bo a7 a9;have cz:=(yN ok P az lG aK).1;refine ot (fun T'=>T'.length=116/\aa T' 8=.ptr A 0/\aa T' 9=.ptr B 0) (zV (aB hl a e)) ?_;clear hl a e;rintro T ⟨hl,a,e⟩;refine bi ?_;refine zW (cp hl a e ak am) ?_;refine AnsH.use (Ke C (n:=n) zF (bG.mono (zG h)) (bJ.mono (zG h)) ok P az lG aK) ?_;rintro v6 H6 ⟨hm,i⟩;have aG:Kp h H6:=Kp.trans zK i;have w6:=aG.wf;have cw:h.next+9<=H6.next:=i.le
 have ct:=ah.le;have fr:H6.get (h.next+6)=none:=i.free (show h.next+6<h.next+9 by omega) (cm.fresh (b:=h.next+6) zO);have j:=aG.get ak;have o:=aG.get am;rcases hm with rfl | ⟨p,Kw,Gw,rfl,⟨vW,gW,rfl,bn,br⟩,a6,wr⟩
 ·refine zW (lh hl a e ak am j o @oD @aC) ?_;refine bi ?_;refine zW (aB hl @uB aD) ?_;have b1:=ah.trans aG;exact zK
 have oW:=bn.one;have cy:=br.one;obtain ⟨I,ag⟩:∃ I,I=(H6.put (h.next+6) (.cells [.int .i64 0,.nilSl,.nilSl] ai true)).put (h.next+6) (.cells [.int .i64 (n:Int),vW,gW] ai true):=⟨_,rfl⟩
 have bB:Sub H6 I:=by rw [ag]; exact (aX fr).put fr _
 have a3:Kp h I:=by rw [ag]; exact zK
 have b1:Kp H I:=ah.trans a3;have cP:=a3.wf;have bz:I.get (h.next+6)=some (.cells [.int .i64 (n:Int),vW,gW] ai true):=by rw [ag,ap]
 obtain ⟨W,hW⟩:∃ W,W=h.next+6:=⟨_,rfl⟩
 refine zW (lh hl a e ak am j o @oD @aC) ?_;rw [<- ag,<- hW];rw [<- hW] at bz;refine ot (fun T'=>T'.length=116/\aa T' 8=.ptr A 0/\aa T' 9=.ptr B 0/\aa T' 11=.ptr W 0/\aa T' 12=.int .i64 0) (zV (aB hl a e)) ?_;clear hl a e ag;rintro T ⟨hl,a,e,f,bC⟩;refine bi ?_;refine zW (aB hl bC @aC) ?_;obtain ⟨E,ay⟩:∃ E,E=I.up 2:=⟨_,rfl⟩
 rw [<- ay];have Y:Kp h E:=by rw [ay]; exact a3.up _
 have cu:=Y.le;have ba:Sub I E:=by rw [ay]; exact Sub.bump _ _
 have bv:Kp H E:=ah.trans Y;have cQ:=bv.wf;clear ay;have aN:=Y.get ak;have b7:=Y.get am;have aS:=ba.get _ _ bz;have bH:=bG.mono Y.sub;have cg:=bJ.mono Y.sub;have bO:PolyV E (.agg [.int .i64 (n:Int),vW,gW]) n Kw Gw:=⟨vW,gW,rfl,bn.mono (bB.trans ba),br.mono (bB.trans ba)⟩
 refine ot (fun T'=>T'.length=116/\aa T' 8=.ptr A 0/\aa T' 9=.ptr B 0/\aa T' 11=.ptr W 0) (zV (aV hl a e f)) ?_;clear hl a e f bC;rintro T ⟨hl,a,e,f⟩;refine bi ?_;refine zW (cp hl a f aN aS) ?_;refine AnsH.eq (yM C (n:=n) zF (bH.mono (zG E)) (bO.mono (zG E)) ok a6) fun H8 i=>?_;have aI:Kp E H8:=Kp.trans zK i;have w8:=aI.wf;rw [wr.hasP];have j:=aI.get aN;have o:=aI.get aS;refine zW (jY hl a f aN aS j o @aC) ?_;obtain ⟨R,a1⟩:∃ X,X=H8:=⟨_,rfl⟩
 rw [<- a1];have M:Kp E R:=by rw [a1]; exact aI
 have b2:Kp H R:=bv.trans M;have cR:=M.wf;have b6:=M.get aN;have ce:=bH.mono M.sub;have aP:=M.get b7;have bK:=cg.mono M.sub;have aU:=M.get aS;have bP:=bO.mono M.sub;refine ot (fun T'=>T'.length=116/\aa T' 8=.ptr A 0/\aa T' 9=.ptr B 0/\aa T' 11=.ptr W 0/\aa T' 13=.bool true/\aa T' 14=.int .i64 0) (zV (aV hl a e f)) ?_;clear hl a e f a1 j o;rintro T ⟨hl,a,e,f,s,t⟩;refine bi ?_;refine zW (cp hl e f aP aU) ?_;refine AnsH.eq (yM C (n:=n) zF (bK.mono (zG R)) (bP.mono (zG R)) P a6) fun H9 i=>?_;have aJ:Kp R H9:=Kp.trans zK i;have w9:=aJ.wf;rw [wr.hasQ];have j:=aJ.get aP;have o:=aJ.get aU;refine zW (jY hl e f aP aU j o @aC) ?_;obtain ⟨S,a2⟩:∃ X,X=H9:=⟨_,rfl⟩
 rw [<- a2];have N:Kp R S:=by rw [a2]; exact aJ
 have b3:Kp H S:=b2.trans N;have cS:=N.wf;have aO:=N.get b6;have bI:=ce.mono N.sub;have aQ:=N.get aP;have bL:=bK.mono N.sub;have ca:=N.get aU;have ck:=bP.mono N.sub;refine ot (fun T'=>T'.length=116/\aa T' 8=.ptr A 0/\aa T' 9=.ptr B 0/\aa T' 11=.ptr W 0/\aa T' 13=.bool true/\aa T' 14=.int .i64 0/\aa T' 15=.bool true/\aa T' 16=.int .i64 0) (zV (eF hl a e f s t)) ?_;clear hl a e f s t a2 j o;rintro T ⟨hl,a,e,f,s,t,z,D⟩;obtain ⟨c,bl⟩:∃ c,c=Lin.inP G' K:=⟨_,rfl⟩
 refine bi ?_;refine zW (cp hl e a aQ aO) ?_;refine AnsH.eq (yM C (n:=n) zF (bL.mono (zG S)) (bI.mono (zG S)) P ok) fun bc i=>?_;have aE:Kp S bc:=Kp.trans zK i;have cH:=aE.wf;rw [<- bl];have j:=aE.get aQ;have o:=aE.get aO;refine zW (jY hl e a aQ aO j o @aC) ?_;obtain ⟨r,aZ⟩:∃ X,X=bc:=⟨_,rfl⟩
 rw [<- aZ];have J:Kp S r:=by rw [aZ]; exact aE
 have bW:Kp H r:=b3.trans J;have cl:=J.wf;have aM:=J.get aO;have bF:=bI.mono J.sub;have a8:=J.get aQ;have cf:=bL.mono J.sub;have b8:=J.get ca;have ch:=ck.mono J.sub;refine ot (fun T'=>T'.length=116/\aa T' 8=.ptr A 0/\aa T' 9=.ptr B 0/\aa T' 11=.ptr W 0/\aa T' 13=.bool true/\aa T' 14=.int .i64 0/\aa T' 15=.bool true/\aa T' 16=.int .i64 0/\aa T' 17=.bool c/\aa T' 18=.int .i64 0) (zV (jY hl a e f s t z D)) ?_;clear hl a e f s t z D aZ j o;rintro T ⟨hl,a,e,f,s,t,z,D,y,O⟩;have aL:=(yN ok P az lG aK).1;have cs:=(yN ok P az lG aK).2;refine bi ?_;refine zW (cp hl a e aM a8) ?_;refine AnsH.use (B9 C (n:=n) (m:=64) (m2:=16*(64+4)) (m3:=16*(16*(64+4)+4)) zF (bF.mono (zG r)) (cf.mono (zG r)) ok P zO zO zO zO aL.bK zO aL.bG zO (.inl zO)) ?_;rintro cD ae ⟨hm,i⟩;obtain ⟨vU,gU,rfl,bm,bq⟩:=IP hm aL;clear hm;have oU:=bm.one;have cx:=bq.one;have a4:Kp r ae:=Kp.trans zK i;have cI:=a4.wf;have cv:r.next+9<=ae.next:=i.le
 have bg:ae.get (r.next+6)=none:=i.free (show r.next+6<r.next+9 by omega) (cl.fresh (b:=r.next+6) zO);obtain ⟨F,af⟩:∃ X,X=(ae.put (r.next+6) (.cells [.int .i64 0,.nilSl,.nilSl] ai true)).put (r.next+6) (.cells [.int .i64 (n:Int),vU,gU] ai true):=⟨_,rfl⟩
 have bA:Sub ae F:=by rw [af]; exact (aX bg).put bg _
 have Z:Kp r F:=by rw [af]; exact zK
 have bY:Kp H F:=bW.trans Z;have cK:=Z.wf;have ao:F.get (r.next+6)=some (.cells [.int .i64 (n:Int),vU,gU] ai true):=by rw [af,ap]
 have bM:PolyV F (.agg [.int .i64 (n:Int),vU,gU]) n _ _:=⟨vU,gU,rfl,bm.mono bA,bq.mono bA⟩
 have b4:=Z.get aM;have aR:=Z.get b8;have cb:=bF.mono Z.sub;have bN:=ch.mono Z.sub;have j:=a4.get aM;have o:=a4.get a8;obtain ⟨U,hU⟩:∃ U,U=r.next+6:=⟨_,rfl⟩
 refine zW (lh hl a e aM a8 j o @oD @aC) ?_;rw [<- af,<- hU];rw [<- hU] at ao;refine ot (fun T'=>T'.length=116/\aa T' 8=.ptr A 0/\aa T' 9=.ptr B 0/\aa T' 11=.ptr W 0/\aa T' 13=.bool true/\aa T' 14=.int .i64 0/\aa T' 15=.bool true/\aa T' 16=.int .i64 0/\aa T' 17=.bool c/\aa T' 18=.int .i64 0/\aa T' 19=.ptr U 0/\aa T' 20=.int .i64 0) (zV (ur hl a e f s t z D y O)) ?_;clear hl a e f s t z D y O af j o;rintro T ⟨hl,a,e,f,s,t,z,D,y,O,Q,aq⟩;refine bi ?_;refine zW (cp hl Q f ao aR) ?_;refine AnsH.eq (yM C (n:=n) zF (bM.mono (zG F)) (bN.mono (zG F)) aL a6) fun bd i=>?_;have aF:Kp F bd:=Kp.trans zK i;have cJ:=aF.wf;rw [wr.hasH];have j:=aF.get ao;have o:=aF.get aR;refine zW (jY hl Q f ao aR j o @aC) ?_;obtain ⟨ar,a0⟩:∃ X,X=bd:=⟨_,rfl⟩
 rw [<- a0];have L:Kp F ar:=by rw [a0]; exact aF
 have bZ:Kp H ar:=bY.trans L;have cL:=L.wf;have b5:=L.get b4;have cc:=cb.mono L.sub;have b9:=L.get aR;have ci:=bN.mono L.sub;have cC:=L.get ao;have cE:=bM.mono L.sub;refine ot (fun T'=>T'.length=116/\aa T' 8=.ptr A 0/\aa T' 9=.ptr B 0/\aa T' 11=.ptr W 0/\aa T' 13=.bool true/\aa T' 14=.int .i64 0/\aa T' 15=.bool true/\aa T' 16=.int .i64 0/\aa T' 17=.bool c/\aa T' 18=.int .i64 0/\aa T' 19=.ptr U 0/\aa T' 20=.int .i64 0/\aa T' 21=.bool true/\aa T' 22=.int .i64 0) (zV (By hl a e f s t z D y O Q aq)) ?_;clear hl a e f s t z D y O Q aq a0 j o;rintro T ⟨hl,a,e,f,s,t,z,D,y,O,Q,aq,bD,bE⟩;refine bi ?_;refine zW (Pl hl a e f s t z D y O Q aq bD bE @aC) ?_;obtain ⟨ad,av⟩:∃ X,X=ar.up 30:=⟨_,rfl⟩
 rw [<- av];have aW:Sub ar ad:=by rw [av]; exact Sub.bump _ _
 have a5:Kp H ad:=by rw [av]; exact bZ.up _
 have cM:=a5.wf;clear av;have bw:=aW.get _ _ b5;have bx:=aW.get _ _ b9;have cd:=cc.mono aW;have cj:=ci.mono aW;refine ot (fun T'=>T'.length=116/\aa T' 8=.ptr A 0/\aa T' 11=.ptr W 0/\aa T' 17=.bool c) (zV (aV hl a f y)) ?_;clear hl a e f s t z D y O Q aq bD bE;rintro T ⟨hl,a,f,y⟩;refine bi ?_;cases c with
 | false =>
  refine zW (cp hl a f y @aC) ?_;refine WC.wb ?_;refine zW (aA hl aD) ?_;exact a5.up _
 | true =>
  obtain ⟨e1,e2⟩:=wr.same bl.symm;subst e1;subst e2;refine zW (eF hl a f y bw bx) ?_;have cr:=ok.lenK;have co:=ok.many;refine AnsH.eq (zN C (n:=n) (n':=n) zF (cj.mono (zG ad)) (cd.mono (zG ad)) zO ok.smK zO ok.smG) fun cn i=>?_;obtain ⟨bV,_,_⟩:=zT ad zK i;have b0:=a5.trans bV;rw [decide_eq_true ⟨rfl,rfl,rfl⟩];refine zW (gS hl a f y bw bx @aC) ?_;refine WC.wb ?_;refine zW (aA hl aD) ?_;exact b0
end
end Go.Proofs.YtkmepoeklibegaaGreat.Ev
namespace Go.Proofs.YtkmepoeklibegaaGreat.Lin
open Ev
def Vc {d:Nat} {A Z:List V} (hA:Ech d A) (c:∀ z∈Z,z.length=d) (h:∀ v:V,v.length=d->(∀ z∈Z,dot z v=0)->∀ a∈A,dot a v=0) {v:V} (i:v.length=d) (l:∀ a∈A,dot a v=0) {z0:V} (f:z0∈Z) (hn:dot z0 v≠0):A.length<Z.length:=by
 have h1:A.length<=((Z.erase z0).map fun z=>mix (dot z0 v) z (-(dot z v)) z0).length:=by
  refine SB hA (fun z b=>?_) fun u g m a ha=>?_
  ·obtain ⟨y,hy,rfl⟩:=Vl.1 b;exact mix_length (c y (Z5 hy)) (c z0 f)
  ·have h0:=c z0 f;have k:∀ z∈Z,dot z0 v*dot z u-dot z v*dot z0 u=0:=fun z b=>by
    by_cases e:z=z0
    ·subst e; omega
    ·have:=m _ (Vl.2 ⟨z,(Zh e).2 b,rfl⟩)
     rw [dot_comm,aJ _ _ _ ((c z b).trans h0.symm),dot_comm u z,dot_comm u z0,X9] at this;omega
   have j:=h (mix (dot z0 v) u (-(dot z0 u)) v) (mix_length g i) (fun z b=>by
    rw [aJ _ _ _ (g.trans i.symm),X9,Zq (dot z0 u)]
    have:=k z b
    omega) a ha
   rw [aJ _ _ _ (g.trans i.symm),l a ha] at j;have j:dot z0 v*dot a u=0:=zO;exact (VH.1 j).resolve_left hn
 rw [Vp,YN f] at h1
 have:=Y1 f
 omega
def eqN (K:List (V × Bool)):Nat:=(K.filter fun c=>c.2).length
def inN (K:List (V × Bool)):Nat:=(K.filter fun c=>!c.2).length
section
variable {n:Nat} {K:List (V × Bool)} {G:List (Nat × V)}
def U0 (o:Own n K G):∀ a∈linesOf G,a.length=n+1:=fun a ha=>(o.valid _ (mem_lines.1 ha)).1
def UX (o:Own n K G):∀ a∈raysOf G,a.length=n+1:=fun a ha=>by obtain ⟨k,-,h⟩:=mem_rays.1 ha; exact (o.valid _ h).1
def UU (o:Own n K G):yG (n+1) (· ∈ linesOf G) (· ∈ raysOf G) (gensL (n+1) (linesOf G) (raysOf G)) (gensR (n+1) (linesOf G) (raysOf G)):=gens_told (U0 o) (UX o)
def UM (n:Nat) (G:List (Nat × V)):List V:=(gensR (n+1) (linesOf G) (raysOf G)).filter fun r=>!decide (r=unitC n 1)
def UQ (o:Own n K G) (a:G≠[]):K=(gensL (n+1) (linesOf G) (raysOf G)).map (fun r=>(r,true))++(UM n G).map fun r=>(r,false):=by
 rw [<- o.cons];unfold consP;rw [if_pos (o.point a)];rfl
def U9 (o:Own n K G) (a:G≠[]):∃ r∈raysOf G,0<hd1 r:=by
 have:=o.point a
 rw [VY] at this;obtain ⟨⟨k,r⟩,hx,e⟩:=this;have e:k=3:=by simpa using e
 subst e;exact ⟨r,mem_rays.2 ⟨3,by decide,hx⟩,(o.valid _ hx).2.1 rfl⟩
def U8 (A B:List V):(((A.map fun r=>(r,true))++B.map fun r=>(r,false)).filter fun c=>c.2)=A.map fun r=>(r,true):=by
 rw [Wa,Xp.2,X0.2,Wv]
 ·intro c hc;obtain ⟨r,-,rfl⟩:=Vl.1 hc
  simp
 ·intro c hc;obtain ⟨r,-,rfl⟩:=Vl.1 hc;rfl
def U7 (A B:List V):(((A.map fun r=>(r,true))++B.map fun r=>(r,false)).filter fun c=>!c.2)=B.map fun r=>(r,false):=by
 rw [Wa,X0.2,Xp.2,Xv]
 ·intro c hc;obtain ⟨r,-,rfl⟩:=Vl.1 hc;rfl
 ·intro c hc;obtain ⟨r,-,rfl⟩:=Vl.1 hc
  simp
def U2 (o:Own n K G) (a:G≠[]):eqN K=(gensL (n+1) (linesOf G) (raysOf G)).length:=by
 unfold eqN
 conv=>lhs; rw [UQ o a]
 rw [U8,Vp]
def U4 (o:Own n K G) (a:G≠[]):inN K=(UM n G).length:=by
 unfold inN
 conv=>lhs; rw [UQ o a]
 rw [U7,Vp]
def Ve (o:Own n K G) (c:G≠[]):eqN K<=n:=by
 rw [U2 o c];have t:=UU o;obtain ⟨r0,f,h0⟩:=U9 o c;have d:=UX o r0 f
 have:=Vc (Z:=(List.range (n+1)).map (eV (n+1))) t.form (fun z b=>by obtain ⟨p,-,rfl⟩:=Vl.1 b; exact On _ _) (fun v h b a ha=>by
  have g:∀ i,at_ v i=0:=fun i=>by
   by_cases hi:i<n+1
   ·have:=b _ (Vl.2 ⟨i,Wt.2 hi,rfl⟩)
    rwa [dot_comm,Ot _ _ _ h hi] at this
   ·simp [at_,Vh,VS (show v.length<=i by omega)]
  have:=yT a v 0
  rw [dot_comm,yT v a 0 fun j _=>g j,g 0,Yu]) d (fun a ha=>by rw [dot_comm]; exact t.dd.lineI a ha r0 f) (z0:=eV (n+1) 0) (Vl.2 ⟨0,Wt.2 zO,rfl⟩) (by
   rw [dot_comm,Ot _ _ _ d zO];have e:at_ r0 0=hd1 r0:=by cases r0 <;> rfl
   omega)
 rw [Vp,List.length_range] at this;omega
def U3 {out:List V} (hr:∀ r∈out,r.length=n+1) (hne:gensP n (dY out)≠[]):yG (n+1) (· ∈ eqsOf (dY out)) (· ∈ unitC n 1 :: out) (linesOf (gensP n (dY out))) (raysOf (gensP n (dY out))):=by
 have hW:∀ c∈dY out,c.1.length=n+1:=fun c hc=>by
  obtain ⟨r,b,rfl⟩:=Vl.1 hc;exact hr r b
 obtain ⟨p1,p2,-⟩:=mL (jV hne);have a:ineqsOf n (dY out)=unitC n 1 :: out:=by
  unfold ineqsOf;rw [Xp.2 fun c hc=>by obtain ⟨r,-,rfl⟩:=Vl.1 hc; rfl];unfold dY;rw [Xu];congr 1;exact YR _
 have t1:=gens_told (eqs_len hW) (ineqs_len hW);rw [<- p1,<- p2,a] at t1;exact t1
def Va {out:List V} (hr:∀ r∈out,r.length=n+1) (hne:gensP n (dY out)≠[]) {b:V} (hb:b∈UM n (gensP n (dY out))):∃ i∈out,∀ s∈raysOf (gensP n (dY out)),dot s i=0 ↔ dot s b=0:=by
 have hW:∀ c∈dY out,c.1.length=n+1:=fun c hc=>by
  obtain ⟨r,z,rfl⟩:=Vl.1 hc;exact hr r z
 have t1:=U3 hr hne;have u:=own_of hW;have d:=UU u;obtain ⟨r0,o,h0⟩:=U9 u hne;obtain ⟨f,g⟩:=Vx.1 hb;have g:b≠unitC n 1:=by simpa using g
 have w:∀ a∈unitC n 1 :: out,a.length=n+1:=fun a ha=>(VK.1 ha).elim (fun e=>by rw [e,unitC_len]) (hr a);obtain ⟨i,hi,p⟩:=Ju (eqs_len hW) w t1.dd d.dd f;refine ⟨i,(VK.1 hi).resolve_left fun e=>g ?_,p⟩;subst e;have t:=d.dd.keep b f;have l:Keep (n+1) (· ∈ linesOf (gensP n (dY out))) (· ∈ raysOf (gensP n (dY out))) (unitC n 1):=⟨by rw [unitC_len],fun x hx=>by rw [dot_comm]; exact t1.dd.lineI x hx _ (Vt ..),fun s hs=>by rw [dot_comm]; exact (t1.dd.keep s hs).ge _ (Vt ..)⟩
 obtain ⟨k,c,y,hc,q⟩:=d.dd.ext b f _ l fun s hs h0=>(p s hs).2 h0;have v:0<c:=by
  rcases ZF hc with h1 | h1
  ·exact h1
  ·exfalso
   subst h1
   have:=Con.dot_zero (a:=r0) d.dd.lenL (fun r h=>h.elim) (fun x hx=>d.dd.lineI x hx r0 o) (fun r h=>h.elim) q
   rw [aJ _ _ _ (l.len.trans t.len.symm),dot_comm r0,eI] at this;simp only [Int.one_mul,Int.neg_zero,Yu,Int.add_zero] at this;rcases VH.1 this with h1 | h1 <;> omega
 refine (qD d.form l.len t.len (fun a ha=>OT n 1 fun hp=>?_) (fun a ha=>d.rest b f a ha) (BH n) (d.cont b f) y v q).symm;obtain ⟨q1,q2,q3⟩:=d.form.pos ha;rw [hp] at q1 q2;have A:=d.dd.lenL a ha;obtain ⟨-,-,q4⟩:=pivot_some.1 q1;have hd:=d.dd.lineI a ha r0 o;rw [dot_comm,yT _ _ 0 fun j hj=>?_] at hd
 ·have e:at_ r0 0=hd1 r0:=by cases r0 <;> rfl
  rw [e] at hd;rcases VH.1 hd with h1 | h1 <;> omega
 ·by_cases m:j<a.length
  ·exact q4 j m (by unfold before; simp [hj])
  ·simp [at_,Vh,VS (Xm m)]
set_option maxHeartbeats 1000000 in
def U6 (o:Own n K G) (y:G≠[]) {out:List V} (hr:∀ r∈out,r.length=n+1) (hne:gensP n (dY out)≠[]) (z:inP G (consP n (gensP n (dY out)))=true) (m:∀ r∈out,∀ g∈G,keepsP (r,false) g=true) (hm:∀ r∈out,∃ s∈bw K,UL r G=UL s G) :
  (consP n (gensP n (dY out))=K/\gensP n (dY out)=G)\/eqN (consP n (gensP n (dY out)))<eqN K\/eqN (consP n (gensP n (dY out)))=eqN K/\inN (consP n (gensP n (dY out)))<inN K:=by
 have hW:∀ c∈dY out,c.1.length=n+1:=fun c hc=>by
  obtain ⟨r,aq,rfl⟩:=Vl.1 hc;exact hr r aq
 have t1:=U3 hr hne;have f:=own_of hW;have j:=UU f;have p:=UU o;have H:=UQ o y;have D:=UQ f hne;have e1:=U2 o y;have e2:=U2 f hne;have i1:=U4 o y;have i2:=U4 f hne;rw [e1,e2,i1,i2];have I:∀ {b:V},b∈UM n (gensP n (dY out))->_:=fun {b} hb=>Va hr hne hb;obtain ⟨Gw,ab⟩:∃ X,X=gensP n (dY out):=⟨_,rfl⟩
 obtain ⟨Kw,ad⟩:∃ X,X=consP n Gw:=⟨_,rfl⟩
 rw [<- ab] at t1 f j D z I hne ⊢;rw [<- ad] at f D z ⊢;obtain ⟨A,hA⟩:∃ X,X=gensL (n+1) (linesOf G) (raysOf G):=⟨_,rfl⟩
 obtain ⟨w,aa⟩:∃ X,X=gensL (n+1) (linesOf Gw) (raysOf Gw):=⟨_,rfl⟩
 rw [<- hA] at p H ⊢;rw [<- aa] at j D ⊢;have Y:∀ {K':List (V × Bool)} {c:V × Bool} {g:Nat × V},inP G K'=true->g∈G->c∈K'->keepsP c g=true:=fun h hg hc=>inP_iff.1 h _ hg _ hc;have ax:inP G K=true:=(o.in_iff o).2 (.inr fun x hx=>hx);have gl:∀ {x:V},x∈linesOf G->(1,x)∈G:=fun h=>mem_lines.1 h;have aB:∀ a∈w,∀ g∈G,dot a g.2=0:=fun a ha g hg=>by
  have:=keepsP_true.1 (Y z hg (c:=(a,true)) (by rw [D]; exact WH _ (Vl.2 ⟨a,ha,rfl⟩)))
  rwa [if_pos (.inl rfl)] at this
 have Z:∀ x:V,x.length=n+1->(∀ g∈G,dot x g.2=0)->Spn (n+1) (· ∈ A) x:=fun x hx h=>p.dd.lines x hx (fun e he=>by rw [dot_comm]; exact h _ (gl he)) fun i hi=>by
  obtain ⟨k,-,d⟩:=mem_rays.1 hi;rw [dot_comm]; exact h _ d
 have F:∀ {x v:V},Spn (n+1) (· ∈ A) x->(∀ a∈A,dot a v=0)->dot v x=0:=fun h m=>Con.dot_zero p.dd.lenL (fun r h=>h.elim) (fun l hl=>by rw [dot_comm]; exact m l hl) (fun r h=>h.elim) h;have J:∀ v:V,v.length=n+1->(∀ a∈A,dot a v=0)->∀ a∈w,dot a v=0:=fun v _ m a ha=>by
  rw [dot_comm];exact F (Z a (j.dd.lenL a ha) (aB a ha)) m
 by_cases t:∀ v:V,v.length=n+1->(∀ a∈w,dot a v=0)->∀ a∈A,dot a v=0
 ·have l1:=SB j.form p.form.len J;have l2:=SB p.form j.form.len t;have lR:=UX f;have lL:=U0 f;have u:∀ s∈raysOf Gw,∀ a∈A,dot a s=0:=fun s hs=>t s (lR s hs) fun a ha=>by rw [dot_comm]; exact j.dd.lineI a ha s hs
  have L:∀ s∈linesOf Gw,∀ a∈A,dot a s=0:=fun s hs=>t s (lL s hs) fun a ha=>by rw [dot_comm]; exact j.dd.lineE a ha s hs
  let good:V->Bool:=fun r=>(raysOf Gw).all (fun s=>decide (0<=dot s r)) && (linesOf Gw).all fun s=>decide (dot s r=0)
  have Q:∀ r,good r=true ↔ (∀ s∈raysOf Gw,0<=dot s r)/\∀ s∈linesOf Gw,dot s r=0:=fun r=>by simp [good,VJ]
  have ak:∀ b∈UM n Gw,∃ r∈(UM n G).filter good,∀ s∈raysOf Gw,dot s r=0 ↔ dot s b=0:=fun b hb=>by
   obtain ⟨i,hi,W⟩:=I hb;obtain ⟨s0,U,ao⟩:=j.dd.off b (Vx.1 hb).1;have R:¬ ∀ s∈raysOf Gw,dot s i=0:=fun h=>ao ((W s0 U).1 (h s0 U));have E:=hr i hi;have ki:Keep (n+1) (· ∈ linesOf G) (· ∈ raysOf G) i:=⟨E,fun e he=>by
    have:=keepsP_true.1 (m i hi _ (gl he))
    rw [if_pos (.inr rfl)] at this;rw [dot_comm]; exact this,fun s hs=>by
    obtain ⟨k,al,d⟩:=mem_rays.1 hs
    have:=keepsP_true.1 (m i hi _ d)
    rw [if_neg (by simp [al])] at this;rw [dot_comm]; exact this⟩
   have ap:¬ ∀ g∈G,dot i g.2=0:=fun h=>R fun s hs=>F (Z i E h) (u s hs);obtain ⟨r,av,B⟩:=hm i hi;have B:∀ g∈G,dot i g.2=0 ↔ dot r g.2=0:=fun g hg=>by
    have:=List.map_inj_left.1 B g hg
    rw [decide_eq_decide] at this;exact this
   obtain ⟨c,hc,e⟩:=mem_sin.1 av;have N:c.2=false:=by
    rw [<- XA];intro ai;refine ap fun g hg=>(B g hg).2 ?_
    have:=keepsP_true.1 (Y ax hg hc)
    rw [if_pos (.inl ai)] at this;rcases e with rfl | ⟨-,rfl⟩
    ·exact this
    ·rw [cR,this]; rfl
   have er:r=c.1:=e.resolve_right fun q=>by rw [N] at q; exact absurd q.1 (by decide)
   have T:r∈UM n G:=by
    rw [H] at hc;rcases VE.1 hc with h | h
    ·obtain ⟨a,-,rfl⟩:=Vl.1 h;cases N
    ·obtain ⟨a,ha,rfl⟩:=Vl.1 h;rw [er]; exact ha
   have S:=(Vx.1 T).1;have ar:=p.dd.lenR r S;obtain ⟨k,cc,d,ah,ay⟩:=p.dd.ext r S i ki fun s hs h0=>by
    obtain ⟨k,-,d⟩:=mem_rays.1 hs;rw [dot_comm] at h0 ⊢;exact (B _ d).2 h0
   have C:∀ v:V,(∀ a∈A,dot a v=0)->k*dot v i=cc*dot v r:=fun v m=>by
    have:=F ay m
    rw [aJ _ _ _ (E.trans ar.symm),X9] at this;omega
   have ag:0<cc:=by
    rcases ZF ah with h | h
    ·exact h
    ·exfalso
     refine R fun s hs=>?_
     have:=C s (u s hs)
     rw [<- h,Yu] at this;rcases VH.1 this with h1 | h1
     ·omega
     ·exact h1
   refine ⟨r,Vx.2 ⟨T,(Q r).2 ⟨fun s hs=>?_,fun s hs=>?_⟩⟩,fun s hs=>?_⟩
   ·have h1:=C s (u s hs);have h2:0<=dot s i:=by rw [dot_comm]; exact (t1.dd.keep s hs).ge i (Vn _ hi)
    have h3:0<=k*dot s i:=V8 zO h2;rw [h1] at h3;exact W6 h3 ag
   ·have h1:=C s (L s hs);have h2:dot s i=0:=by rw [dot_comm]; exact t1.dd.lineI s hs i (Vn _ hi)
    rw [h2,YI] at h1;rcases VH.1 h1.symm with h | h
    ·omega
    ·exact h
   ·rw [<- W s hs];have h1:=C s (u s hs);constructor
    ·intro h;rw [h,YI] at h1;rcases VH.1 h1 with h | h
     ·omega
     ·exact h
    ·intro h;rw [h,YI] at h1;rcases VH.1 h1.symm with h | h
     ·omega
     ·exact h
  have am:(UM n Gw).length<=((UM n G).filter good).length:=DP (P:=fun b r=>∀ s∈raysOf Gw,dot s r=0 ↔ dot s b=0) _ _ ((told_nodup j).filter _) ak fun b hb b' ae i q1 q2=>by
   apply VI
   intro hne;obtain ⟨s,hs,h3,h4⟩:=zk j (Vx.1 ae).1 (Vx.1 hb).1 hne;exact h4 ((q1 s hs).1 ((q2 s hs).2 h3))
  by_cases M:∀ r∈UM n G,good r=true
  ·left
   have af:inP Gw K=true:=inP_iff.2 fun g hg c hc=>by
    rw [keepsP_true];rw [H] at hc;rcases VE.1 hc with h | h
    ·obtain ⟨a,ha,rfl⟩:=Vl.1 h;rw [if_pos (.inl rfl)];by_cases d:g.1=1
     ·exact L _ (mem_lines.2 (by rw [<- d]; exact hg)) a ha
     ·exact u _ (mem_rays.2 ⟨g.1,d,hg⟩) a ha
    ·obtain ⟨a,ha,rfl⟩:=Vl.1 h;have O:=(Q a).1 (M a ha);by_cases d:g.1=1
     ·rw [if_pos (.inr d),dot_comm];exact O.2 _ (mem_lines.2 (by rw [<- d]; exact hg))
     ·rw [if_neg (by simp [d]),dot_comm];exact O.1 _ (mem_rays.2 ⟨g.1,d,hg⟩)
   have h1:=((f.in_iff o).1 af).resolve_left hne;have h2:=((o.in_iff f).1 z).resolve_left y;exact f.same o fun x=>⟨h1 x,h2 x⟩
  ·right; right
   refine ⟨zO,Wp am ?_⟩;refine VI fun aD=>M fun r hr=>?_;have aC:=Wh good (UM n G);exact Xp.1 (Zm.eq_of_length zO) r hr
 ·right; left
  have t:∃ v:V,v.length=n+1/\(∀ a∈w,dot a v=0)/\∃ a∈A,dot a v≠0:=VI fun h=>t fun v m h0 a ha=>VI fun hn=>h ⟨v,m,h0,a,ha,hn⟩;obtain ⟨v,aA,az,a,ha,hn⟩:=t;exact Vc j.form p.form.len J aA az ha hn
end
def sizeP (n:Nat) (K:List (V × Bool)) (G:List (Nat × V)):Nat × Nat:=if G=[] then (n+1,0) else (eqN K,inN K)
def UZ (M:List (List Bool)) (G:List (Nat × List Int)):∀ (l:List (List Int)) (acc:List (List Int)) (r:List Int),r∈l.foldl (lq M G) acc->r∈acc\/UL r G∈M
 | [],acc,r,h=>.inl h
 | a :: l,acc,r,h=>by
  rw [Wn] at h;rcases UZ M G l _ r h with h | h
  ·unfold lq at h;split at h
   ·rename_i b;rcases VE.1 h with h | h
    ·exact .inl h
    ·rw [Wl] at h; subst h; exact .inr b.1
   ·exact .inl h
  ·exact .inr h
section
variable {n:Nat} {K K' Kw:List (V × Bool)} {G G' Gw:List (Nat × V)}
def U5 {b:List (V × Bool)} {a:List (Nat × V)}:∀ r∈mU K G b a,∃ s∈bw K,UL r G=UL s G:=fun r hr=>by
 rcases UZ _ _ _ _ _ hr with h | h
 ·exact ⟨r,(Vx.1 h).1,rfl⟩
 ·obtain ⟨s,hs,e⟩:=Vl.1 h;exact ⟨s,hs,e.symm⟩
def wid_ends (o:Own n K G) (f:Own n K' G') (i:Own n Kw Gw) (h1:G≠[]->Gw=gensP n (dY (mU K G (consP n (G++G')) (gensP n (consP n (G++G')))))) (h2:G=[]->Gw=gensP n (consP n (G++G'))) :
  (Kw=K/\Gw=G)\/(sizeP n Kw Gw).1<(sizeP n K G).1\/(sizeP n Kw Gw).1=(sizeP n K G).1/\(sizeP n Kw Gw).2<(sizeP n K G).2:=by
 by_cases a:G=[]
 ·have e:=h2 a;unfold sizeP;rw [if_pos a];by_cases d:Gw=[]
  ·left
   exact ⟨by rw [<- i.cons,<- o.cons,d,a],by rw [d,a]⟩
  ·right; left
   rw [if_neg d]
   have:=Ve i d
   show eqN Kw<n+1;omega
 ·have e:=h1 a;obtain ⟨out,b⟩:∃ X,X=mU K G (consP n (G++G')) (gensP n (consP n (G++G'))):=⟨_,rfl⟩
  rw [<- b] at e;obtain ⟨j,s,t,l,m,-,-,-⟩:=wid_law o f a b;have k:=validG_app o.valid f.valid;have h:=own_span k;have hp:(G++G').any (fun x=>x.1 == 3)=true:=by rw [Yv,o.point a]; rfl
  have hne:=oF k hp;have ha:=PD o h hne;rw [<- b] at ha;have p:∀ r∈out,∀ g∈G,keepsP (r,false) g=true:=fun r hr=>by
   refine (o.valid_iff a (c:=(r,false))).2 fun x hx=>?_;exact (h.valid_iff hne (c:=(r,false))).1 (ha r hr).2 x (((o.in_iff h).1 (hull_has o f).1).resolve_left a x hx)
  have:=U6 o a l j m p (by rw [b]; exact U5)
  have q:consP n (gensP n (dY out))=Kw:=by rw [<- e]; exact i.cons
  rw [q,<- e] at this;unfold sizeP;rw [if_neg a,if_neg (by rw [e]; exact j)];exact this
end
end Go.Proofs.YtkmepoeklibegaaGreat.Lin
namespace Go.Proofs.YtkmepoeklibegaaGreat.Ev
open Go Nn
def Vb {K:List (List Int × Bool)} {j:Nat} (hj:j<K.length):Lin.eqN (K.take (j+1))=Lin.eqN (K.take j)+(if K[j].2 then 1 else 0)/\Lin.inN (K.take (j+1))=Lin.inN (K.take j)+(if K[j].2 then 0 else 1):=by
 unfold Lin.eqN Lin.inN;rw [Vr hj,Wa,Wa,VC,VC];cases h:K[j].2 <;> simp [h]
def Vd (K:List (List Int × Bool)):Lin.eqN K<=K.length/\Lin.inN K<=K.length:=⟨Wh _ _,Wh _ _⟩
section
variable {tab:Nat->Option au} {H:Heap}
set_option maxHeartbeats 1000000 in
def UW (C:Code tab) (S:Wf H) {v:AV} {n e f:Nat} {K:List (List Int × Bool)} {G:List (Nat × List Int)} (hp:PolyV H v n K G) (p:PolyOK n e f K G) :
  Ans tab (.fn UN [v]) H fun x H'=>x=.tup [.int .i64 ((Lin.sizeP n K G).1:Int),.int .i64 ((Lin.sizeP n K G).2:Int),.int .i64 0]/\Kp H H':=by
 obtain ⟨i,I,rfl,hc,hg⟩:=hp;have O:=hc.one;have P:=hg.one;have R:=p.dim;have Q:=p.lenK;refine dg C.q8 zU fun T hl c=>?_;refine zW (aB hl c (mX O P)) ?_;refine AnsH.eq (Hn C (n:=n) zF ⟨i,I,rfl,hc.mono (zG H),hg.mono (zG H)⟩ p) fun H2 B=>?_;obtain ⟨k2,_,W⟩:=zT H zK B;have d0:H2.get H.next=some (.cells [.int .i64 (n:Int),i,I] ai true):=B.get (da)
 have D:(G=[]) ↔ ((G.length:Int)=0):=by cases G <;> simp <;> omega
 have L:IntKind.i64.wrap ((n:Int)+1)=(n:Int)+1:=by rw [wrap_i64] <;> omega
 by_cases o:(G.length:Int)=0
 ·refine zW (eF hl c d0 hg.lenV o L) ?_;refine ⟨?_,zK⟩;unfold Lin.sizeP;rw [if_pos (D.2 o)];rfl
 ·refine zW (eF hl c d0 hg.lenV o hc.lenV) ?_;refine am H2 [2,3] (fun j vs _=>vs=[.int .i64 (Lin.eqN (K.take j):Int),.int .i64 (Lin.inN (K.take j):Int)]) (a:=0) (N:=K.length) rfl (by refine zW (aA hl c) ?_; rfl) (zV (aA hl c)) (Vz _) zO (by simp only [Vg,hl]; rfl) rfl (fun j vs H' m h=>h) zK (by
   show [aa _ 2,aa _ 3]=_;refine zW (aA hl c) ?_;rfl) ?_ ?_
  ·intro j T1 s _ hj g z r k b;have w1:=k.wf;have U:=k.le;have F:aa T1 20=i:=(r.at_ 20 zU).trans (zV (aA hl c));have b:[aa T1 2,aa T1 3]=[.int .i64 (Lin.eqN (K.take j):Int),.int .i64 (Lin.inN (K.take j):Int)]:=b
   injection b with l b
   injection b with t3 _
   have E:=hc.mono (k2.trans k).sub;obtain ⟨_,⟨w,rfl,M⟩,-,-,d⟩:=E.at (Vk hj);have A:cL 2 i (.int .i64 (j:Int))=some (aq i (j*2)):=E.idx .i64 j hj;have d:aW s (some 2) (aq i (j*2))=some (.agg [w,.bool (K[j]).2]):=d;have V:=M.one;have t:=(Ldd.of w1 d).put;obtain ⟨q1,q2⟩:=Vb hj;have J:=Vd (K.take j);rw [VN] at J;have u:IntKind.i64.wrap ((Lin.eqN (K.take j):Int)+1)=(Lin.eqN (K.take j):Int)+1:=by rw [wrap_i64] <;> omega
   have y:IntKind.i64.wrap ((Lin.inN (K.take j):Int)+1)=(Lin.inN (K.take j):Int)+1:=by rw [wrap_i64] <;> omega
   simp only [Vg,hl] at g;cases hb:(K[j]).2 with
   | true =>
    rw [hb] at d q1 q2;refine zW (ur g F l t3 z A d t u y) ?_;exact ⟨zK,by rw [q1,q2]; simp⟩
   | false =>
    rw [hb] at d q1 q2;refine zW (ur g F l t3 z A d t u y) ?_;exact ⟨zK,by rw [q1,q2]; simp⟩
  ·intro T1 s g r k b;have b:[aa T1 2,aa T1 3]=[.int .i64 (Lin.eqN (K.take K.length):Int),.int .i64 (Lin.inN (K.take K.length):Int)]:=b
   injection b with l b
   injection b with t3 _
   rw [VO] at l t3;have t4:aa T1 4=.int .i64 0:=(r.at_ 4 zU).trans (zV (aA hl c));simp only [Vg,hl] at g;refine zW (aV g l t3 t4) ?_;refine ⟨?_,k2.trans k⟩;unfold Lin.sizeP;rw [if_neg fun q=>o (D.1 q)]
end
section
variable {tab:Nat->Option au} {H:Heap} {s1 s2:AV}
set_option maxHeartbeats 4000000 in
def law25_WidenEnds (C:Code tab) (hw:Wf H) {d:Int} {l m:List vY} (a2:SlV conQE t_api_Con H s1 l) (a3:SlV conQE t_api_Con H s2 m) (gl:∀ x∈l,jg x.1) (gm:∀ x∈m,jg x.1) (_ : -9223372036854775808<=d/\d<9223372036854775808) :
  Ans tab (.fn UK [.int .i64 d,s1,s2]) H fun v H'=>v=.bool true/\Kp H H':=by
 refine BM C.q1 rfl rfl zU fun T hl g=>?_;have hl:T.length=79:=hl;have M:c_facetroomlaw25_WidenEnds.results=[(6,none)]:=rfl;have g0:aa T 0=.int .i64 d:=g 0 (by simp);have g1:aa T 1=s1:=g 1 (by simp);have g2:aa T 2=s2:=g 2 (by simp);clear g;refine bi ?_;refine zW (aA hl @aC) ?_;refine bi ?_;refine zW hl ?_;refine AnsH.eq (Fw C zF) fun H2 a0=>?_;obtain ⟨k2,_,w2⟩:=zT H zK a0;refine zW (aA hl @aC) ?_;refine bi ?_;refine zW (aV hl g0 g1 g2) ?_;refine AnsH.use (HN C zF ((a2.mono k2.sub).mono (zG H2)) gl ((a3.mono k2.sub).mono (zG H2)) gm) ?_;rintro v3 H3 ⟨aF,aE⟩;obtain ⟨x,u,w,x',u',w',b,a4,ou,ow,bs,bt⟩:=K8 aF;obtain ⟨k3,_,w3⟩:=zT H2 zK aE;have e3:Emp H3 H2.next (H2.next+13):=(Emp.start w2 (k:=13)).keep aE
 have n3:=e3.1;have fA:=e3.2 (H2.next+8) zO zO;have fB:=e3.2 (H2.next+9) zO zO;obtain ⟨G3,z⟩:∃ G3,G3=(((H3.put (H2.next+8) (.cells [.int .i64 0,.nilSl,.nilSl] ai true)).put (H2.next+9) (.cells [.int .i64 0,.nilSl,.nilSl] ai true)).put (H2.next+8) (.cells [.int .i64 x,u,w] ai true)).put (H2.next+9) (.cells [.int .i64 x',u',w'] ai true):=⟨_,rfl⟩
 have aK:Kp H2 G3:=by rw [z]; exact zK
 have ae:Sub H3 G3:=by rw [z]; exact (((aX fA).put fB _).put fA _).put fB _
 have bA:=aK.wf;have am:G3.get (H2.next+8)=some (.cells [.int .i64 x,u,w] ai true):=by rw [z,al zO,ap]
 have aq:G3.get (H2.next+9)=some (.cells [.int .i64 x',u',w'] ai true):=by rw [z,ap]
 have kH:Kp H G3:=k2.trans aK;subst a4;refine zW (eF hl g0 g1 g2 @oD @aC) ?_;rw [<- z];clear z;obtain ⟨A,hA⟩:∃ A,A=H2.next+8:=⟨_,rfl⟩
 obtain ⟨B,hB⟩:∃ B,B=H2.next+9:=⟨_,rfl⟩
 rw [<- hA,<- hB];rw [<- hA] at am;rw [<- hB] at aq;refine ot (fun T'=>T'.length=79/\aa T' 7=.bool true/\aa T' 8=.ptr A 0/\aa T' 9=.ptr B 0/\aa T' 10=.bool b) (zV hl) ?_;clear hl g0 g1 g2 hA hB;rintro T ⟨hl,u7,a,f,av⟩;refine bi ?_;cases b with
 | false =>
  refine zW (cp hl u7 av @uB M) ?_;exact zK
 | true =>
 rcases aF with ⟨_,_,he,-⟩ | ⟨n,p,q,K,G,K',G',rfl,a1,he,⟨vc,vg,rfl,hc,hg⟩,⟨bw,bx,rfl,ax,az⟩,ok,aM,lK,bg,lG,a9⟩
 ·cases he
 cases he;refine zW (aV hl u7 av @aC) ?_;obtain ⟨c,V⟩:∃ c,c=G3.up 6:=⟨_,rfl⟩
 rw [<- V];have F:Sub G3 c:=by rw [V]; exact Sub.bump _ 6
 have N:Kp H c:=by rw [V]; exact kH.up _
 have bc:=N.wf;clear V;have O:=F.get _ _ am;have P:=F.get _ _ aq;have aU:PolyV c (.agg [.int .i64 (n:Int),u,w]) n K G:=⟨u,w,rfl,hc.mono (ae.trans F),hg.mono (ae.trans F)⟩
 have aY:PolyV c (.agg [.int .i64 (n:Int),u',w']) n K' G':=⟨u',w',rfl,ax.mono (ae.trans F),az.mono (ae.trans F)⟩
 clear u7 av hc hg ax az am aq;refine ot (fun T'=>T'.length=79/\aa T' 8=.ptr A 0/\aa T' 9=.ptr B 0) (zV (aB hl a f)) ?_;clear hl a f;rintro T ⟨hl,a,f⟩;refine bi ?_;refine zW (cp hl a f O P) ?_;refine AnsH.use (Ke C (n:=n) zF (aU.mono (zG c)) (aY.mono (zG c)) ok aM a1 lG a9) ?_;rintro v6 J ⟨hm,i⟩;have Z:Kp c J:=Kp.trans zK i;have w6:=Z.wf;have bq:c.next+9<=J.next:=i.le
 have bm:=N.le;have fr:J.get (c.next+6)=none:=i.free (show c.next+6<c.next+9 by omega) (bc.fresh (b:=c.next+6) zO);have qa:=Z.get O;have qb:=Z.get P;rcases hm with rfl | ⟨p,Kw,Gw,rfl,⟨vW,S,rfl,ay,aD⟩,E,wr⟩
 ·refine zW (lh hl a f O P qa qb @oD @aC) ?_;refine bi ?_;refine zW (aB hl @uB M) ?_;have a8:=N.trans Z;exact zK
 have oW:=ay.one;have br:=aD.one;obtain ⟨r,L⟩:∃ r,r=(J.put (c.next+6) (.cells [.int .i64 0,.nilSl,.nilSl] ai true)).put (c.next+6) (.cells [.int .i64 (n:Int),vW,S] ai true):=⟨_,rfl⟩
 have aQ:Sub J r:=by rw [L]; exact (aX fr).put fr _
 have ah:Kp c r:=by rw [L]; exact zK
 have a8:Kp H r:=N.trans ah;have bB:=ah.wf;have aN:r.get (c.next+6)=some (.cells [.int .i64 (n:Int),vW,S] ai true):=by rw [L,ap]
 obtain ⟨W,hW⟩:∃ W,W=c.next+6:=⟨_,rfl⟩
 refine zW (lh hl a f O P qa qb @oD @aC) ?_;rw [<- L,<- hW];rw [<- hW] at aN;refine ot (fun T'=>T'.length=79/\aa T' 8=.ptr A 0/\aa T' 9=.ptr B 0/\aa T' 11=.ptr W 0/\aa T' 12=.int .i64 0) (zV (aB hl a f)) ?_;clear hl a f L;rintro T ⟨hl,a,f,e,aR⟩;refine bi ?_;refine zW (aB hl aR @aC) ?_;obtain ⟨h,Y⟩:∃ h,h=r.up 2:=⟨_,rfl⟩
 rw [<- Y];have D:Kp c h:=by rw [Y]; exact ah.up _
 have bn:=D.le;have ar:Sub r h:=by rw [Y]; exact Sub.bump _ _
 have aL:Kp H h:=N.trans D;have bC:=aL.wf;clear Y;have ao:=D.get O;have bu:=D.get P;have aO:=ar.get _ _ aN;have aW:=aU.mono D.sub;have bv:=aY.mono D.sub;have aZ:PolyV h (.agg [.int .i64 (n:Int),vW,S]) n Kw Gw:=⟨vW,S,rfl,ay.mono (aQ.trans ar),aD.mono (aQ.trans ar)⟩
 refine ot (fun T'=>T'.length=79/\aa T' 8=.ptr A 0/\aa T' 9=.ptr B 0/\aa T' 11=.ptr W 0) (zV (aV hl a f e)) ?_;clear hl a f e aR;rintro T ⟨hl,a,f,e⟩;have U:=Lin.wid_ends ok.own aM.own E.own wr.told fun q=>(wr.none q).2;obtain ⟨sp,aG⟩:∃ X,X=Lin.sizeP n K G:=⟨_,rfl⟩
 obtain ⟨t,aI⟩:∃ X,X=Lin.sizeP n Kw Gw:=⟨_,rfl⟩
 rw [<- aG,<- aI] at U;refine bi ?_;refine zW (aB hl a ao) ?_;refine AnsH.eq (UW C (n:=n) zF (aW.mono (zG h)) ok) fun G8 i=>?_;obtain ⟨ag,_,bD⟩:=zT h zK i;rw [<- aG];refine zW (aV hl a ao @aC) ?_;refine ot (fun T'=>T'.length=79/\aa T' 8=.ptr A 0/\aa T' 11=.ptr W 0/\aa T' 13=.int .i64 (sp.1:Int)/\aa T' 14=.int .i64 (sp.2:Int)/\aa T' 15=.int .i64 0) (zV (aB hl a e)) ?_;clear hl a f e;rintro T ⟨hl,a,e,j,o,Q⟩;have aP:=ag.get aO;refine bi ?_;refine zW (aB hl e aP) ?_;refine AnsH.eq (UW C (n:=n) zF ((aZ.mono ag.sub).mono (zG G8)) E) fun G9 i=>?_;obtain ⟨aJ,_,_⟩:=zT G8 zK i;have a6:=ag.trans aJ;have bE:=aJ.wf;rw [<- aI];refine zW (aV hl e aP @aC) ?_;refine ot (fun T'=>T'.length=79/\aa T' 8=.ptr A 0/\aa T' 11=.ptr W 0/\aa T' 13=.int .i64 (sp.1:Int)/\aa T' 14=.int .i64 (sp.2:Int)/\aa T' 15=.int .i64 0/\aa T' 16=.int .i64 (t.1:Int)/\aa T' 17=.int .i64 (t.2:Int)/\aa T' 18=.int .i64 0) (zV (eF hl a e j o Q)) ?_;clear hl a e j o Q;rintro T ⟨hl,a,e,j,o,Q,y,I,aS⟩;refine bi ?_;refine zW (aV hl Q aS @aC) ?_;obtain ⟨R,af⟩:∃ X,X=G9.up 6:=⟨_,rfl⟩
 rw [<- af];have s:Kp h R:=by rw [af]; exact a6.up _
 have bo:=s.le;have bz:=s.wf;clear af;have a7:=aL.trans s;have ab:=s.get ao;have ad:=s.get aO;have ba:=aW.mono s.sub;have bb:=aZ.mono s.sub;refine ot (fun T'=>T'.length=79/\aa T' 8=.ptr A 0/\aa T' 11=.ptr W 0/\aa T' 13=.int .i64 (sp.1:Int)/\aa T' 14=.int .i64 (sp.2:Int)/\aa T' 16=.int .i64 (t.1:Int)/\aa T' 17=.int .i64 (t.2:Int)) (zV (gS hl a e j o y I)) ?_;clear hl a e j o Q y I aS;rintro T ⟨hl,a,e,j,o,y,I⟩;have bh:=E.lenK;have bl:=E.many;refine bi ?_;refine zW (cp hl a e ab ad) ?_;refine AnsH.eq (zN C (n:=n) (n':=n) zF (bb.mono (zG R)) (ba.mono (zG R)) zO E.smK zO E.smG) fun bd i=>?_;obtain ⟨a5,_,_⟩:=zT R zK i;have ak:=a7.trans a5;by_cases hs:n=n/\Kw=K/\Gw=G
 ·rw [decide_eq_true hs];refine zW (ur hl a e j o y I ab ad @aC) ?_;refine WC.wb ?_;refine zW (aA hl M) ?_;exact ak
 ·rw [decide_eq_false hs];have U:=U.resolve_left fun q=>hs ⟨rfl,q⟩;by_cases h1:(t.1:Int)<(sp.1:Int)
  ·refine zW (sG hl a e j o y I ab ad @aC h1) ?_;refine WC.wb ?_;refine zW (aA hl M) ?_;exact ak
  ·have h2:=U.resolve_left fun q=>h1 zO;have h3:(t.1:Int)=(sp.1:Int):=zO;have h4:(t.2:Int)<(sp.2:Int):=zO;have h1:¬ (sp.1:Int)<(sp.1:Int):=zO;rw [h3] at y;refine zW (By hl a e j o y I ab ad @aC h1 h4) ?_;refine WC.wb ?_;refine zW (aA hl M) ?_;exact ak
end
end Go.Proofs.YtkmepoeklibegaaGreat.Ev
namespace Go.Proofs.YtkmepoeklibegaaGreat.Ev
open Go Go.WideShapes Nn
section
variable {HT:Type} {enc:TypeId × Value->HT} {P:Program} {w:World} {base base':Nat} {sp:Nat->Bool} {held:Bool} {μ:Mu} {F:Nat->Prop} {H:Heap}
end
open Go
def NP {P:Program}:IA P eZ:=trivial
def P9 {P:Program} {w:World} (a:GlobW w):HR P (fun _=>none) (fun c=>c<w.heap.size) (Heap.nil 0) w:=by
 have h:=Nf (P:=P) a;refine ⟨h.dom,fun c hc=>hc,fun b e hb=>?_,h.inj,fun g cs hg=>(h.gl g cs hg).mono (fun _ _ h=>h) (fun c hc=>h.fb c hc) fun _ _=>rfl⟩;rw [Tr.nil_get] at hb; cases hb
def open_calls {P:Program} (i:P.follows .mixedOrders=true) {tab:Nat->Option au} (j:JO P tab) {f:Nat} {afn:au} (g:tab f=some afn) (d:afn.ext=none) {args:List AV} {vs:List Value} {w:World} (p:GlobW w)
  (hl:LR (fun _=>none) (fun c=>c<w.heap.size) w args vs) (h:Ans tab (.fn f args) (Heap.nil 0) fun v _=>v=.bool true) :
  Calls P f vs.toArray w fun e w'=>e=.returned (.bool true)/\w'.os=w.os/\w'.output=w.output/\w.heap.size<=w'.heap.size/\∀ c,c<w.heap.size->w'.heap[c]? = w.heap[c]?:=by
 obtain ⟨v,H',⟨N,q⟩,rfl⟩:=h;have h1:=q (N+1) (N+1) zO zO;simp only [lu,jx,g,d] at h1;obtain ⟨-,t⟩:=j f afn g;obtain ⟨fn,r,hc⟩:=t fun e h=>by rw [d] at h; cases h
 obtain ⟨l,m,n,o,-⟩:=Ed hc d;have hH:=P9 (P:=P) p;have s:=qB (zJ NP i j N) i r l m n o h1 hl hH 0 (fence:=Fence.wide) (rd:=false) (.inl ⟨rfl,rfl⟩);refine (s.calls fun k=>room_wide k).mono fun e w' ⟨u,he,μ',x,_,a⟩=>?_;cases x;refine ⟨he,a.os,a.out,a.size,fun c hc=>a.keep c hc fun b L ⟨e,h,_⟩=>?_⟩;rw [Tr.nil_get] at h; cases h
def Oa {w w':World} (h1:w'.os=w.os) (h2:w'.output=w.output) (h:∀ c,c<w.heap.size->w'.heap[c]? = w.heap[c]?) (a:MemPlace->Prop):w.keptBut w' a:=by
 refine ⟨h1,h2,fun i hi=>?_⟩;rw [h i hi];split
 ·rename_i e1 e2;cases e1.symm.trans e2;exact ⟨rfl,rfl,rfl,fun _ _=>rfl⟩
 ·rename_i e1 e2;cases e1.symm.trans e2;exact .inr ⟨rfl,rfl⟩
 ·rfl
section
open Go.ChangeShapes Go.WideShapes Go.ChangeAt Go.RowKit
variable {HT:Type} {enc:TypeId × Value->HT} {P:Program}
def stays {t:TypeId} (hl:laidOutB P=true) (hr:P.readableRec t=true) (e:t<P.types.size) {W W':World} {sp:Nat->Bool} {v:Value} {d:DataW HT} {ps:List MemPlace}
  (h:DataW.Trod enc P W 0 (fun _=>true) true t v d ps) (a:∀ c,c<W.heap.size->W'.heap[c]? = W.heap[c]?) (hlt:∀ x∈ps,x.block<W.heap.size) (hs:∀ p∈ps,sp p.block=true):DataW.Trod enc P W' 0 sp true t v d ps :=
 WideElems.Trod_stays hl hr e h (fun p hp=>by
  have hb:=a p.block (hlt p hp);cases p with
  | cell b o=>exact World.cell?_of_block (w:=W) hb
  | map b=>exact hb) hs
def post_kept {f:Func} {s:ChangeSpec} {apart fresh k i:Bool} {W W':World} {args:Array Value} {v:Value} {ds gs:List (DataW HT)} {before:List MemPlace}
  (hW:DataW.Whole enc P f.params.toList s.vars apart W args.toList ds gs before)
  (g:∀ (b:Nat) (sp:Nat->Bool) (hd:Bool),DataW.TrodAll enc P W' b sp hd f.resultTypes.toList (v.resultList f.resultTypes.size) (s.fn HT (ds++gs)).results [])
  (hargs:∀ sp:Nat->Bool,(∀ p∈before,sp p.block=true)->DataW.TrodAll enc P W' 0 sp true f.params.toList args.toList (s.fn HT (ds++gs)).args before)
  (h:∀ sp:Nat->Bool,DataW.TrodVars enc P W' sp s.vars (s.fn HT (ds++gs)).vars [])
  (h1:W'.os=W.os) (h2:W'.output=W.output) (a:∀ c,c<W.heap.size->W'.heap[c]? = W.heap[c]?)
  (l:∀ (j:Nat) (t:TypeId) (r:Value),f.resultTypes[j]? = some t->(v.resultList f.resultTypes.size)[j]? = some r->Value.okWide P W' .any 0 t r) :
  s.post enc P f apart fresh k i W args v W':=by
 have m:∀ p∈before,(fun b=>decide (b<W.heap.size)) p.block=true:=fun p hp=>by simpa using hW.lt p hp
 have hlt:∀ p∈before,p.block<W.heap.size:=fun p hp=>hW.lt p hp;refine ⟨ds,gs,before,[],before,[],hW,g _ _ _,hargs _ m,h _,Oa h1 h2 a _,fun _=>?_⟩;obtain ⟨_,_,_,_,e,n,hn⟩:=hW;refine ⟨l,_,_,([]++before)++[],⟨[]++before,[],trodAll_append (hargs _ (fun _ _=>rfl)) (g _ _ _),h _,rfl,?_,?_⟩,?_⟩
 ·intro b off hp;have d:MemPlace.cell b off∈before:=by simpa using hp
  have hb:=hlt _ d;rw [World.frozen?_of_block (w:=W) (a b hb)];exact n b off d
 ·intro ha
  have:=hn ha
  simpa using this
 ·intro p hp _
  simpa using hp
end
end Go.Proofs.YtkmepoeklibegaaGreat.Ev
namespace Go.Proofs.YtkmepoeklibegaaGreat.Ins153
open Go Go.RowKit Go.Lib Go.Proofs
variable {P:Program}
theorem tS:Tryz.prog.underlying 95=some (.slice 49):=by kernel_rfl
theorem iE:(Tryz.prog.info? 49).map (fun i=>(i.zero,i.size,i.bytes))=some (some (Value.slice none 0 0),1,24):=by kernel_rfl
def zE:∀ w,(Go.sizeOf 49).run Tryz.prog w=.ok 1 w:=fun w=>by
 obtain ⟨a,hi,h0,h1,h2⟩:=info_parts iE;simp [Go.sizeOf,typeInfo,hi,h1]
theorem tI:Tryz.prog.underlying 3=some (.int .i64):=by kernel_rfl
theorem DA:Tryz.prog.follows .mixedOrders=true:=by kernel_rfl
def CX (w:World) {o:Oper} {a:Act} {K:Act->World->Prop} {Q:Exit->Act->World->Prop} (d s:Operand) (t b:TypeId)
  (e:o.op=.call { callee:=.builtin .copy,args:=#[d,s],argTypes:=#[t,b] }) (v u:Value) (hd:a.eval d=v) (hs:a.eval s=u) {c:Value} {w':World}
  (hr:(Builtin.copy_ #[t,b] o.type #[v,u]).run P w=.ok c w') (h:K (a.put o.dst c) w'):o.wp P a w K Q:=by
 unfold Oper.wp execOp;simp only [e,resolve,invoke,builtin,Sem.run_bind,Sem.run_pure,Result.andThen_ok,List.map_toArray,Vq,Vw,hd,hs,hr];exact h
def jI (w:World) {ops:Array Oper} {rest:List Oper} {o:Oper} {a:Act} {Q:Exit->Act->World->Prop} (f:o.guard=none) (d s:Operand) (t b:TypeId)
  (g:o.op=.call { callee:=.builtin .copy,args:=#[d,s],argTypes:=#[t,b] }) (v u:Value) (hd:a.eval d=v) (hs:a.eval s=u) {c:Value} {w':World}
  (hr:(Builtin.copy_ #[t,b] o.type #[v,u]).run P w=.ok c w') (h:wpList P ops Q rest (a.put o.dst c) w'):wpList P ops Q (o :: rest) a w :=
 wpList_plain f fun _ e=>CX w d s t b g v u hd hs hr (e _ _ h)
def qx {ops:Array Oper} {o:Oper} {a:Act} {w:World} {K:Act->World->Prop} {Q:Exit->Act->World->Prop} {E:Prop}
  (hg:o.guard=none) (d x:Operand) (b c:TypeId) (g:o.op=Op.call { callee:=Callee.builtin Builtin.copy,args:=#[d,x],argTypes:=#[b,c] })
  (v u:Value) (hd:a.eval d=v) (hx:a.eval x=u) {e:Value} {w':World} (hr:(Builtin.copy_ #[b,c] o.type #[v,u]).run P w=.ok e w') (f:K (a.put o.dst e) w') :
  if Region.wanted o (yielded ops a.tmps)=true then Oper.wp P o a w K Q else E:=by
 have h:Region.wanted o (yielded ops a.tmps)=true:=by simp [Region.wanted,hg]
 rw [if_pos h];unfold Oper.wp;simp [execOp,g,resolve,invoke,builtin,hd,hx,hr,Result.andThen];exact f
def pZ (b:Nat) (vs:List Value) (o:Nat) (w:World) (h:∀ j,j<vs.length->(w.cell? ⟨b,o+j,none⟩).isSome=true) (k:Nat) (a:(w.cell? ⟨b,k,none⟩).isSome=true):((w.setCells b o vs).cell? ⟨b,k,none⟩).isSome=true:=by
 by_cases c:o<=k/\k<o+vs.length
 ·have:=World.cell?_setCells_in b vs o w h (k-o) zO
  rw [show o+(k-o)=k by omega] at this;rw [this]; rfl
 ·rw [World.cell?_setCells_out b vs o w ⟨b,k,none⟩ (fun _ _=>by show k<o\/o+vs.length<=k; omega)];exact a
set_option maxHeartbeats 4000000 in
set_option maxRecDepth 100000 in
def shift (b off n c i a f m o:Nat) (cs vs:List Value) (w:World) (hi:i<n) (hm:0<m) (ae:n+m<=c) (ab:n+m<=9223372036854775807) (B:a≠b)
  (hcl:cs.length=n) (U:vs.length=m)
  (I:∀ j v,cs[j]? = some v->w.cell? ⟨b,off+j,none⟩=some v) (q:∀ j,j<n+m->(w.cell? ⟨b,off+j,none⟩).isSome=true) (z:∀ j,j<n+m->w.frozen? ⟨b,off+j,none⟩=false)
  (V:∀ j v,vs[j]? = some v->w.cell? ⟨a,f+j,none⟩=some v) (E:∀ v∈cs,v.oneCell'=true) (F:∀ v∈vs,v.oneCell'=true)
  (C D:TypeId) (r s:Nat) (Q:w.shape? a=some (C,r)) (R:w.shape? b=some (D,s)) (O:s≠0) (K:w.frozen? ⟨a,f,none⟩=false) (L:w.frozen? ⟨a,r,none⟩=false) :
  Calls Tryz.prog 153 #[.slice (some ⟨b,off,none⟩) n c,.int .i64 i,.slice (some ⟨a,f,none⟩) m o] w fun e w' =>
   e=.returned (.slice (some ⟨b,off,none⟩) (n+m) c)/\w'=(w.drew.setCells b (off+(i+m)) (cs.drop i)).setCells b (off+i) vs:=by
 have ah:¬ ((m:Int)=0):=zO;have ai:¬ ((i:Int)=(n:Int)):=zO;have A:(Tryz.prog.info? 49).map (·.size)=some 1:=by
  obtain ⟨i0,M,h0,h1,h2⟩:=info_parts iE;rw [M]; simp [h1]
 have P:∀ lb p,(callFunc 171 #[.slice (some ⟨a,f,none⟩) m o,.slice (some ⟨b,off+(i+m),none⟩) lb p]).run Tryz.prog w=.ok (.value (.bool false)) w:=fun lb p=>by
  rw [run_callFunc_extern Tryz.func171 (by kernel_rfl) (by kernel_rfl) (by kernel_rfl) (e:=Extern.SlicesOverlaps.overlaps #[95,95] #[4]) (by kernel_rfl),
   Lib.run_overlaps_apart w 95 4 49 tS 1 zE ⟨a,f,none⟩ ⟨b,off+(i+m),none⟩ m o lb p B C D r s Q R O K L]
  rfl
 have J:(cs.drop i).length=n-i:=by rw [WN,hcl]
 have ag:IntKind.i64.wrap ((i:Int)+(m:Int))=(i:Int)+(m:Int):=by rw [IntKind.wrap_i64]; omega
 have X:(0:Int)<=(i:Int)+(m:Int):=zO;have ad:i<=n:=zO;have af:((i:Int)+(m:Int)).toNat=i+m:=zO;have Y:¬ (c=i+m):=zO;have Z:(i:Int)<=(n:Int)+(m:Int):=zO;have aa:¬ (c=i):=zO;have y:∀ ty d t,(Builtin.copy_ #[95,95] ty #[.slice (some ⟨b,off+(i+m),none⟩) (n+m-(i+m)) d,.slice (some ⟨b,off+i,none⟩) (n+m-i) t]).run Tryz.prog w.drew=.ok (goInt (cs.drop i).length) (w.drew.setCells b (off+(i+m)) (cs.drop i)):=fun ty d t =>
  run_copy_cells w.drew _ _ ty 49 b (off+(i+m)) (n+m-(i+m)) d ⟨b,off+i,none⟩ (n+m-i) t (cs.drop i) tS A (by rw [J]; simp only [Nat.min_def]; split <;> omega)
   (fun j v hj=>by rw [Addr.add_lit,Wx]; exact I (i+j) v (by rwa [VM] at hj))
   (fun j hj=>by rw [Wx]; exact q _ zO) (fun j hj=>by rw [Wx]; exact z _ zO) (fun v T=>E v (X8 T))
 obtain ⟨g,l⟩:∃ g,g=w.drew.setCells b (off+(i+m)) (cs.drop i):=⟨_,rfl⟩
 have S:∀ k,k<n+m->(g.cell? ⟨b,off+k,none⟩).isSome=true:=fun k N=>by
  rw [l];exact pZ b _ _ _ (fun j hj=>by rw [Wx]; exact q _ zO) _ (q k N)
 have H:∀ (W:World),(∀ x,W.cell? x=g.cell? x)->(∀ x,W.frozen? x=g.frozen? x)->∀ ty d,(Builtin.copy_ #[95,95] ty #[.slice (some ⟨b,off+i,none⟩) (n+m-i) d,.slice (some ⟨a,f,none⟩) m o]).run Tryz.prog W=.ok (goInt vs.length) (W.setCells b (off+i) vs):=fun W u G ty d =>
  run_copy_cells W _ _ ty 49 b (off+i) (n+m-i) d ⟨a,f,none⟩ m o vs tS A (by rw [U]; simp only [Nat.min_def]; split <;> omega)
   (fun j v hj=>by
    rw [Addr.add_lit,u,l,World.cell?_setCells_out b _ _ _ _ (fun h _=>absurd h B)];exact V j v hj)
   (fun j hj=>by rw [u,Wx]; exact S _ zO) (fun j hj=>by rw [G,l,World.frozen?_setCells,Wx]; exact z _ zO) F
 rw [<- l] at y;have mixed:=DA
 go_enter Tryz.func153,Tryz.ntmps153
 go_wp2_with (simp only [P])
 go_region_law_o (refine qx rfl _ _ 95 95 rfl _ _ (by simp [Act.eval,Act.put]) (by simp [Act.eval,Act.put]) (y _ _ _) ?_)
 go_wp2_with (at_builtin; refine jI _ rfl _ _ 95 95 rfl _ _ rfl rfl (H _ (fun _=>rfl) (fun _=>rfl) _ _) ?_)
 go_ret
 first | exact ⟨rfl,rfl⟩ | exact ⟨rfl,by rw [l]⟩
set_option maxHeartbeats 4000000 in
set_option maxRecDepth 100000 in
def end_room (b off n c a d m f:Nat) (vs:List Value) (w:World) (hm:0<m) (k:n+m<=c) (q:n+m<=9223372036854775807)
  (g:vs.length=m) (l:∀ j,j<m->(w.cell? ⟨b,off+n+j,none⟩).isSome=true) (i:∀ j,j<m->w.frozen? ⟨b,off+n+j,none⟩=false)
  (p:∀ j v,vs[j]? = some v->w.cell? ⟨a,d+j,none⟩=some v) (h:∀ v∈vs,v.oneCell'=true) :
  Calls Tryz.prog 153 #[.slice (some ⟨b,off,none⟩) n c,.int .i64 n,.slice (some ⟨a,d,none⟩) m f] w fun e w' =>
   e=.returned (.slice (some ⟨b,off,none⟩) (n+m) c)/\w'=w.setCells b (off+n) vs:=by
 have r:¬ ((m:Int)=0):=zO;have o:Src Tryz.prog 1 95 (.slice (some ⟨a,d,none⟩) m f) m vs w:=Src.ofSlice w tS ⟨a,d,none⟩ m f vs zO (fun j u hj=>by rw [Addr.add_lit]; exact p j u hj) h;have mixed:=DA
 go_enter Tryz.func153,Tryz.ntmps153
 go_wp2_with (at_builtin; refine wpList_append_room1 _ rfl _ _ 95 95 rfl 49 _ _ tS iE b off n c rfl _ rfl m vs o k (by rw [g]; exact l) (by rw [g]; exact i) ?_)
 go_ret
 exact ⟨rfl,rfl⟩
set_option maxHeartbeats 4000000 in
set_option maxRecDepth 100000 in
def end_grow (base:Option Addr) (n c b d m f:Nat) (cs vs:List Value) (w:World) (hm:0<m) (D:n<=c) (i:c<n+m) (p:(n+m)*24<=140737488355328)
  (hcl:cs.length=n) (E:vs.length=m) (h:base=none->n=0)
  (q:∀ a,base=some a->∀ j v,cs[j]? = some v->w.cell? (a.add j)=some v)
  (x:∀ j v,vs[j]? = some v->w.cell? ⟨b,d+j,none⟩=some v) (o:∀ v∈vs,v.oneCell'=true) :
  Calls Tryz.prog 153 #[.slice base n c,.int .i64 n,.slice (some ⟨b,d,none⟩) m f] w fun e w' =>
   e=.returned (.slice (some ⟨w.heap.size,0,none⟩) (n+m) (grownCap w (n+m) c 49)) /\
   w'=w.drew.alloc (.cells ((cs++vs).toArray++Builtin.zeroCells (Value.slice none 0 0).cells (grownCap w (n+m) c 49-(n+m))) 49):=by
 obtain ⟨g,r,y,l,z⟩:=info_parts iE;have F:¬ ((m:Int)=0):=zO;have t:Src Tryz.prog g.size 95 (.slice (some ⟨b,d,none⟩) m f) m vs w:=by
  rw [l];exact Src.ofSlice w tS ⟨b,d,none⟩ m f vs zO (fun j u hj=>by rw [Addr.add_lit]; exact x j u hj) o
 have s:(Builtin.firstCells g.size n (.slice base n c)).run Tryz.prog w.drew=.ok cs.toArray w.drew:=by
  rw [l];cases base with
  | none =>
   have h0:=h rfl;subst h0;rw [WL.1 hcl];exact run_firstCells_none w.drew 1 0 0 c
  | some a=>exact run_firstCells_some w.drew 1 n a n c cs zO (fun j v hj=>q a rfl j v hj)
 have k:∀ ty,(Builtin.append_ #[95,95] ty #[.slice base n c,.slice (some ⟨b,d,none⟩) m f]).run Tryz.prog w=_:=fun ty =>
  run_append_grow_src w 95 95 ty 49 g _ tS r y base n c cs s _ m vs t i zO (by rw [z]; exact growslice_fits i p)
 have mixed:=DA
 go_enter Tryz.func153,Tryz.ntmps153
 cases base with
 | none =>
  have h0:=h rfl;subst h0
  go_wp2_with (at_builtin; refine Lib.wpList_append_run _ rfl _ _ _ _ rfl _ _ rfl rfl _ _ (k _) ?_)
  go_ret
  exact ⟨rfl,rfl⟩
 | some a =>
  obtain ⟨A,B,C⟩:=a
  go_wp2_with (at_builtin; refine Lib.wpList_append_run _ rfl _ _ _ _ rfl _ _ rfl rfl _ _ (k _) ?_)
  all_goals (go_ret; exact ⟨rfl,rfl⟩)
set_option maxHeartbeats 4000000 in
set_option maxRecDepth 100000 in
def grow (b off n c i f q m B:Nat) (cs vs:List Value) (w:World) (hi:i<n) (hm:0<m) (ar:n<=c) (ad:c<n+m) (Y:(n+m)*24<=140737488355328)
  (hcl:cs.length=n) (ae:vs.length=m)
  (y:∀ j v,cs[j]? = some v->w.cell? ⟨b,off+j,none⟩=some v)
  (J:∀ j v,vs[j]? = some v->w.cell? ⟨f,q+j,none⟩=some v) (N:∀ v∈cs,v.oneCell'=true) (O:∀ v∈vs,v.oneCell'=true) :
  Calls Tryz.prog 153 #[.slice (some ⟨b,off,none⟩) n c,.int .i64 i,.slice (some ⟨f,q,none⟩) m B] w fun e w' =>
   e=.returned (.slice (some ⟨w.heap.size,0,none⟩) (n+m) (grownCap w (n+m) c 49)) /\
   w'=(((w.alloc (.cells ((cs.take i).toArray++Builtin.zeroCells (Value.slice none 0 0).cells (n+m-i)++Builtin.zeroCells (Value.slice none 0 0).cells (grownCap w (n+m) c 49-(n+m))) 49)).drew.setCells w.heap.size i vs).drew).setCells w.heap.size (i+m) (cs.drop i):=by
 obtain ⟨M,E,ag,L,K⟩:=info_parts iE;have ay:¬ ((m:Int)=0):=zO;have az:¬ ((i:Int)=(n:Int)):=zO;have aA:(c:Int)<(n:Int)+(m:Int):=zO;have I:(Tryz.prog.info? 49).map (·.size)=some 1:=by rw [E]; simp [L]
 have Z:b<w.heap.size:=block_lt_of_cell (y 0 _ (Vk zO));have af:f<w.heap.size:=block_lt_of_cell (J 0 _ (Vk zO));have F:(n:Int)+(m:Int)-(i:Int)=((n+m-i:Nat):Int):=zO;have z:i+(n+m-i)=n+m:=zO;have H:(Builtin.firstCells M.size i (.slice (some ⟨b,off,none⟩) i c)).run Tryz.prog w.drew=.ok (cs.take i).toArray w.drew:=by
  rw [L];exact run_firstCells_some w.drew 1 i ⟨b,off,none⟩ i c (cs.take i) (by rw [VN]; omega) (fun j v hj=>by
   rw [Addr.add_lit];rw [VL] at hj;split at hj
   ·exact y j v hj
   ·cases hj)
 have p:∀ ty,(Builtin.append_ #[95,3] ty #[.slice (some ⟨b,off,none⟩) i c,.int .i64 ((n:Int)+(m:Int)-(i:Int))]).run Tryz.prog w =
   .ok (.slice (some ⟨w.heap.size,0,none⟩) (n+m) (grownCap w (n+m) c 49)) (w.drew.alloc (.cells ((cs.take i).toArray++Builtin.zeroCells (Value.slice none 0 0).cells (n+m-i)++Builtin.zeroCells (Value.slice none 0 0).cells (grownCap w (n+m) c 49-(n+m))) 49)):=fun ty=>by
  have h:=Lib.run_append_grow_zeros w 95 3 ty 49 M _ .i64 .i64 tS tI E ag (some ⟨b,off,none⟩) i c (cs.take i) H (n+m-i) zO zO zO zO (by rw [K]; omega) (by rw [K,z]; exact growslice_fits ad Y);rw [z] at h;rw [F];exact h
 obtain ⟨G,o⟩:∃ G,G=grownCap w (n+m) c 49:=⟨_,rfl⟩
 obtain ⟨a,s⟩:∃ a:Array Value,a=(cs.take i).toArray++Builtin.zeroCells (Value.slice none 0 0).cells (n+m-i)++Builtin.zeroCells (Value.slice none 0 0).cells (G-(n+m)):=⟨_,rfl⟩
 rw [<- o] at p ⊢;rw [<- s] at p ⊢;have V:n+m<=a.size:=by
  rw [s];simp [Builtin.zeroCells,Value.cells];omega
 obtain ⟨d,k⟩:∃ d,d=w.drew.alloc (.cells a 49):=⟨_,rfl⟩
 rw [<- k] at p;have r:∀ j,j<n+m->(d.cell? ⟨w.heap.size,j,none⟩).isSome=true:=fun j hj=>by
  rw [k,World.cell?_alloc_at (w:=w.drew) a _ w.heap.size j rfl,WM zO]; rfl
 have C:∀ j,d.frozen? ⟨w.heap.size,j,none⟩=false:=fun j=>by rw [k]; exact World.frozen?_alloc_at (w:=w.drew) a _ w.heap.size j rfl
 have T:∀ j v,w.cell? ⟨b,j,none⟩=some v->d.cell? ⟨b,j,none⟩=some v:=fun j v h=>by rw [k,World.cell?_alloc_past (w:=w.drew) _ b j Z]; exact h
 have U:∀ j v,w.cell? ⟨f,j,none⟩=some v->d.cell? ⟨f,j,none⟩=some v:=fun j v h=>by rw [k,World.cell?_alloc_past (w:=w.drew) _ f j af]; exact h
 have aa:∀ (W:World),(∀ x,W.cell? x=d.cell? x)->(∀ x,W.frozen? x=d.frozen? x)->∀ ty g,(Builtin.copy_ #[95,95] ty #[.slice (some ⟨w.heap.size,i,none⟩) (n+m-i) g,.slice (some ⟨f,q,none⟩) m B]).run Tryz.prog W=.ok (goInt vs.length) (W.setCells w.heap.size i vs):=fun W l u ty g =>
  run_copy_cells W _ _ ty 49 w.heap.size i (n+m-i) g ⟨f,q,none⟩ m B vs tS I (by rw [ae]; simp only [Nat.min_def]; split <;> omega)
   (fun j v hj=>by rw [Addr.add_lit,l]; exact U _ v (J j v hj))
   (fun j hj=>by rw [l]; exact r _ zO) (fun j hj=>by rw [u]; exact C _) O
 have al:n+m<=G:=by rw [o]; exact grownCap_ge w _ _ _
 have ah:G<=9223372036854775807:=by
  have:=grownCap_le_maxLen w (n+m) c 49 (by unfold maxLen; omega)
  rw [<- o] at this;unfold maxLen at this;omega
 have ai:¬ (G=i):=zO;have ak:¬ (G=i+m):=zO;have ap:¬ (c=i):=zO;have X:b≠w.heap.size:=zO;have ab:(cs.drop i).length=n-i:=by rw [WN,hcl]
 have D:∀ (W:World),(∀ x,W.cell? x=(d.setCells w.heap.size i vs).cell? x)->(∀ x,W.frozen? x=(d.setCells w.heap.size i vs).frozen? x)->∀ ty g A,(Builtin.copy_ #[95,95] ty #[.slice (some ⟨w.heap.size,i+m,none⟩) (n+m-(i+m)) g,.slice (some ⟨b,off+i,none⟩) (n-i) A]).run Tryz.prog W=.ok (goInt (cs.drop i).length) (W.setCells w.heap.size (i+m) (cs.drop i)):=fun W l u ty g A =>
  run_copy_cells W _ _ ty 49 w.heap.size (i+m) (n+m-(i+m)) g ⟨b,off+i,none⟩ (n-i) A (cs.drop i) tS I (by rw [ab]; simp only [Nat.min_def]; split <;> omega)
   (fun j v hj=>by
    rw [Addr.add_lit,l,World.cell?_setCells_out _ _ _ _ _ (fun h _=>absurd h X),Wx];exact T _ v (y (i+j) v (by rwa [VM] at hj)))
   (fun j hj=>by rw [l]; exact pZ _ _ _ _ (fun t ht=>r _ zO) _ (r _ zO))
   (fun j hj=>by rw [u,World.frozen?_setCells]; exact C _) (fun v hv=>N v (X8 hv))
 subst k;have P:∀ x,((w.alloc (.cells a 49)).drew).cell? x=(w.drew.alloc (.cells a 49)).cell? x:=fun x=>rfl;have Q:∀ x,((w.alloc (.cells a 49)).drew).frozen? x=(w.drew.alloc (.cells a 49)).frozen? x:=fun x=>rfl;have R:∀ x,(((w.alloc (.cells a 49)).drew.setCells w.heap.size i vs).drew).cell? x=((w.drew.alloc (.cells a 49)).setCells w.heap.size i vs).cell? x:=fun x=>rfl;have S:∀ x,(((w.alloc (.cells a 49)).drew.setCells w.heap.size i vs).drew).frozen? x=((w.drew.alloc (.cells a 49)).setCells w.heap.size i vs).frozen? x:=fun x=>rfl;have ax:IntKind.i64.wrap ((i:Int)+(m:Int))=(i:Int)+(m:Int):=by rw [IntKind.wrap_i64]; omega
 have am:(0:Int)<=(i:Int)+(m:Int):=zO;have aq:i<=n:=zO;have av:((i:Int)+(m:Int)).toNat=i+m:=zO;have ao:(i:Int)<=(n:Int):=zO;clear F z H s o V;have mixed:=DA
 go_enter Tryz.func153,Tryz.ntmps153
 go_wp2_with (first
  | (at_builtin; refine Lib.wpList_append_run _ rfl _ _ _ _ rfl _ _ rfl rfl _ _ (p _) ?_)
  | (at_builtin; refine jI _ rfl _ _ 95 95 rfl _ _ rfl rfl (aa _ P Q _ _) ?_)
  | (at_builtin; refine jI _ rfl _ _ 95 95 rfl _ _ rfl rfl (D _ (fun _=>rfl) (fun _=>rfl) _ _ _) ?_))
 go_region_law_o (refine qx rfl _ _ 95 95 rfl (.slice (some ⟨w.heap.size,i+m,none⟩) (n+m-(i+m)) (G-(i+m))) (.slice (some ⟨b,off+i,none⟩) (n-i) (c-i)) (by simp [Act.eval,Act.put]) (by simp [Act.eval,Act.put]) (D _ R S 3 (G-(i+m)) (c-i)) ?_)
 go_wp2
 go_ret
 exact ⟨rfl,rfl⟩
end Go.Proofs.YtkmepoeklibegaaGreat.Ins153
namespace Go.Proofs.YtkmepoeklibegaaGreat.Ev.Ok153
open Go Go.Proofs.YtkmepoeklibegaaGreat.Ev
def sL (A:Array Value):Nat->List Value->Array Value
 | _,[]=>A
 | o,v :: r=>sL (A.setIfInBounds o v) (o+1) r
def iO:∀ (vs:List Value) (o:Nat) (A:Array Value),(sL A o vs).size=A.size
 | [],o,A=>rfl
 | v :: r,o,A=>by rw [sL,iO r]; simp
def oJ:∀ (vs:List Value) (o:Nat) (A:Array Value) (j:Nat),j<A.size->(sL A o vs)[j]? = if o<=j/\j<o+vs.length then vs[j-o]? else A[j]?
 | [],o,A,j,hj=>by rw [sL,if_neg (by simp only [Xi]; omega)]
 | v :: r,o,A,j,hj=>by
  rw [sL,oJ r (o+1) _ j (by simpa using hj)];by_cases h1:o+1<=j/\j<o+1+r.length
  ·rw [if_pos h1,if_pos (by simp; omega),show j-o=(j-(o+1))+1 by omega,WQ]
  ·rw [if_neg h1];by_cases h2:j=o
   ·subst h2;rw [if_pos (by simp),YE,WP,Array.getElem?_setIfInBounds_self_of_lt hj]
   ·rw [if_neg (by simp; omega),Array.getElem?_setIfInBounds_ne zO]
def nf (b:Nat):∀ (vs:List Value) (o:Nat) (w:World) (arr:Array Value) (ty:TypeId) (fr:Nat × Nat),w.heap[b]? = some (.cells arr ty fr) ->
  (w.setCells b o vs).heap[b]? = some (.cells (sL arr o vs) ty fr)/\(∀ c,c≠b->(w.setCells b o vs).heap[c]? = w.heap[c]?)/\(w.setCells b o vs).heap.size=w.heap.size /\
   Tp w (w.setCells b o vs)/\(w.setCells b o vs).os=w.os/\(w.setCells b o vs).output=w.output
 | [],o,w,arr,ty,fr,h=>⟨h,fun _ _=>rfl,rfl,Tp.same rfl rfl,rfl,rfl⟩
 | v :: r,o,w,arr,ty,fr,h=>by
  have h1:(w.setCell ⟨b,o,none⟩ v).heap[b]? = some (.cells (arr.setIfInBounds o v) ty fr):=by
   simp [World.setCell,Xr,h]
  obtain ⟨k1,k2,a,d,e,f⟩:=nf b r (o+1) (w.setCell ⟨b,o,none⟩ v) _ ty fr h1;refine ⟨k1,fun c hc=>(k2 c hc).trans ?_,a.trans ?_,(Tp.same rfl rfl).trans d,e,f⟩
  ·simp [World.setCell,Xr,Ne.symm hc]
  ·simp [World.setCell]
def mS (w:World) (ty:TypeId):∀ (vs:List Value) (o:Nat) (A:Array Value),(w.alloc (.cells A ty)).setCells w.heap.size o vs=w.alloc (.cells (sL A o vs) ty)
 | [],o,A=>rfl
 | v :: r,o,A=>by
  have h1:(w.alloc (.cells A ty)).setCell ⟨w.heap.size,o,none⟩ v=w.alloc (.cells (A.setIfInBounds o v) ty):=by
   simp only [World.setCell,World.alloc];congr 1
   apply Zu
   intro j;rw [Xr];by_cases hj:w.heap.size=j
   ·subst hj; simp
   ·rw [if_neg hj,Ye,Ye,if_neg (Ne.symm hj),if_neg (Ne.symm hj)]
  rw [World.setCells,h1,mS w ty r (o+1) _]; rfl
section
variable {P:Program} {μ:Mu} {F:Nat->Prop} {H:Heap} {w:World}
def Ax {μ':Mu} {H':Heap} {w':World} (h:Stp (fun x=>x=H.next) P μ F { H with next:=H.next+1 } w μ' F H' w'):Stp sF P μ F H w μ' F H' w' :=
 ⟨h.mu,h.fr,h.size,h.keep,h.rw,VB (VV _ _) h.next,fun b hb _ hn=>h.new b (VF hb (VV _ _)) zO hn,h.rng,
  fun b e hb hl _=>h.old b e hb (VF hl (VV _ _)) zO,h.alv,h.tape,h.os,h.out⟩
def Jk {ty:Nat} {cs:List AV} {V:List Value} {A:Array Value} {w1:World} {k cap':Nat} {a:Heap} (hH:HR P μ F a w) (o:a.next=H.next+1) (e:μ H.next=none) (hs:sizeOf? P ty=some 1)
  (hl:LR μ F w cs V) (f:V.length=k) (hA:∀ j,j<k->A[j]? = V[j]?) (d:k<=cap') (m:A.size=cap')
  (h1:w1.heap=w.heap) (n:Tp w w1) (g:w1.os=w.os) (l:w1.output=w.output) :
  ∃ μ',VR μ' F (w1.alloc (.cells A ty)) (.own H.next 0 k k 1 false) (.slice (some ⟨w.heap.size,0,none⟩) k cap')/\HR P μ' F (a.put H.next (.cells cs ty true)) (w1.alloc (.cells A ty)) /\
   Stp (fun x=>x=H.next) P μ F a w μ' F (a.put H.next (.cells cs ty true)) (w1.alloc (.cells A ty)):=by
 have hcl:cs.length=k:=hl.1.trans f;obtain ⟨q1,q2⟩:=lU (I:=fun x=>x=H.next) hH e zO rfl (sz:=1) (arr:=A) (cs:=cs) hs zO
  (fun i c v hc b=>by
   have hi:i<k:=by rw [<- hcl]; exact (VA.1 hc).1
   rw [hA i hi] at b;exact hl.2 i c v hc b) w1 h1 n g l
 exact ⟨_,.own H.next 0 k k 1 false _ cap' (upd_same _ _) rfl (Vo _) d (fun h=>by cases h) (by simp [m]),q1,q2⟩
def Qs {b ty:Nat} {L:Bx} {a cs:List AV} {V:List Value} {A:Array Value} {w':World} {k cap:Nat} (hH:HR P μ F H w) (hb:H.get b=some (.cells a ty true)) (hL:μ b=some L) (o:L.sz=1)
  (hl:LR μ F w cs V) (s:V.length=k) (hA:∀ j,j<k->A[j]? = V[j]?) (q:k<=cap) (B:A.size=L.N) (N:cap<=L.N)
  (D:w'.heap[L.blk]? = some (.cells A ty (0,0))) (u:∀ c,c≠L.blk->w'.heap[c]? = w.heap[c]?) (z:w'.heap.size=w.heap.size) (C:Tp w w') (t:w'.os=w.os) (y:w'.output=w.output) :
  ∃ μ',VR μ' F w' (.own H.next 0 k k 1 false) (.slice (some ⟨L.blk,0,none⟩) k cap)/\HR P μ' F (({ H with next:=H.next+1 }.kill b).put H.next (.cells cs ty true)) w' /\
   Stp sF P μ F H w μ' F (({ H with next:=H.next+1 }.kill b).put H.next (.cells cs ty true)) w':=by
 have hcl:cs.length=k:=hl.1.trans s;have r:μ H.next=none:=jT hH (Vo _)
 have n:=hH.bump 1;have p:({ H with next:=H.next+1 }:Heap).get b=some (.cells a ty true):=hb;obtain ⟨arr,fr,E,G,g,J,K,l,M⟩:=fU hH hb hL;obtain ⟨p1,p2⟩:=iL (I:=fun x=>x=H.next) (e:=.cells cs ty true) n p rfl hL w' u z C t y
  (fun m=>⟨A,(0,0),D,B,g,zO,fun i c v hc d=>by
   have hi:i<k:=by rw [<- hcl]; exact (VA.1 hc).1
   rw [hA i hi] at d;exact (hl.2 i c v hc d).mono (fun _ _ h=>h) (fun _ h=>h) m,fun _=>⟨(l rfl).1,rfl⟩,fun h=>by cases h⟩) rfl
 obtain ⟨q4,q5⟩:=uF (I:=fun x=>x=H.next) p1 (b:=b) (id:=H.next) (L:=L) (by rw [Heap.get_put,if_pos rfl]) hL r (by show H.next<H.next+1; omega) rfl;refine ⟨μ.upd H.next L,.own H.next 0 k k 1 false L cap (upd_same _ _) o (Vo _) q (fun h=>by cases h) (by simp; omega),?_,?_⟩
 ·refine q4.congr rfl fun x=>?_;simp only [Heap.get_put,Heap.get_kill];split
  ·rfl
  ·split
   ·rfl
   ·rename_i hx; rfl
 ·refine Ax ((p2.trans q5).congr rfl fun x e he=>⟨e,?_,rfl⟩);simp only [Heap.get_put,Heap.get_kill] at he ⊢;split at he
  ·rename_i hx; rw [if_pos hx]; exact he
  ·rename_i hx;rw [if_neg hx];split at he
   ·cases he
   ·rename_i f; rw [if_neg f,if_neg f]; exact he
end
def uU {vs:List Value} {w:World} {F:Fence} {rd:Bool} {n:Nat} {R:Value->World->Prop} (a:FenceOK F rd) (h:Calls Tryz.prog 153 vs.toArray w fun e w'=>∃ u,e=.returned u/\R u w'):Runs F n Tryz.prog ((callFunc 153 vs.toArray).run Tryz.prog w) R:=by
 rw [sq (P:=Tryz.prog) (f:=153) Tryz.func153 (by kernel_rfl) (of_decide_eq_true (by kernel_rfl))];unfold Runs;simp only;have key:CallsIn Fence.wide n Tryz.prog 153 vs.toArray w fun e w'=>∃ u,e=.returned u/\R u w':=callsIn_wide.2 h;rcases a with ⟨_,rfl⟩ | ⟨_,l,rfl⟩
 ·exact key
 ·exact key
def uK {w:World} {b:Nat} {arr:Array Value} {ty:TypeId} (h:w.heap[b]? = some (.cells arr ty (0,0))) (o:Nat):w.frozen? ⟨b,o,none⟩=false:=by
 simp [World.frozen?,h]
def Qt {H H':Heap} {size bytes ty:Nat} {args:List AV} {v:AV} (h:u3 H (.insert size bytes ty) args=some (v,H')) :
  (∃ d f m e g Ie a,args=[.nilSl,.int .i64 (.ofNat 0),.own d f m e g Ie]/\aG H size m (.own d f m e g Ie)=some a/\0<m/\m*bytes<=2^46/\m<2^62/\a.all AV.one=true /\
   v=.own H.next 0 m m size false/\H'=({ H with next:=H.next+1 }:Heap).put H.next (.cells a ty true)) \/
  (∃ b n c ex i d f m e g Ie a cs q ty2,args=[.own b 0 n c size ex,.int .i64 (.ofNat i),.own d f m e g Ie]/\aG H size m (.own d f m e g Ie)=some a/\H.get b=some (.cells cs ty true)/\H.get d=some (.cells q ty2 true) /\
   b≠d/\0<m/\i<=n/\cs.length=n*size/\(n+m)*bytes<=2^46/\n+m<2^62/\a.all AV.one=true/\cs.all AV.one=true /\
   v=.own H.next 0 (n+m) (n+m) size false/\H'=(({ H with next:=H.next+1 }:Heap).kill b).put H.next (.cells (cs.take (i*size)++a++cs.drop (i*size)) ty true)):=by
 unfold u3 at h;split at h
 all_goals first | contradiction | skip
 ·rename_i heq;cases heq;split at h
  ·rename_i a r;split at h
   ·rename_i hc;obtain ⟨j,k,l,o,p⟩:=hc;cases h;subst j;exact .inl ⟨_,_,_,_,_,_,a,rfl,r,k,l,o,p,rfl,rfl⟩
   ·cases h
  ·cases h
 ·rename_i heq;cases heq;split at h
  ·rename_i a cs z q ty2 r hb y;split at h
   ·rename_i hc;obtain ⟨j,k,l,o,p,u,w,x,c9,s,t⟩:=hc;cases h;subst j;subst k;subst c9;exact .inr ⟨_,_,_,_,_,_,_,_,_,_,_,a,cs,q,ty2,rfl,r,hb,y,l,o,p,u,w,x,s,t,rfl,rfl⟩
   ·cases h
  ·cases h
 all_goals (cases h)
def Fz {P:Program} {μ:Mu} {F:Nat->Prop} {H:Heap} {w:World} {f a m p t:Nat} {Ie:Bool} {s:List AV} {z:Value} (hH:HR P μ F H w) (C:VR μ F w (.own f a m p t Ie) z) (e:aG H 1 m (.own f a m p t Ie)=some s) :
  ∃ d n b ty2 g o l,μ f=some d/\z=.slice (some ⟨d.blk,a,none⟩) m n/\H.get f=some (.cells o ty2 l)/\w.heap[d.blk]? = some (.cells b ty2 g)/\a+m<=b.size/\(l=true->g=(0,0)) /\
   ((b.toList.drop a).take m).length=m/\LR μ F w s ((b.toList.drop a).take m)/\∀ j u,((b.toList.drop a).take m)[j]? = some u->w.cell? ⟨d.blk,a+j,none⟩=some u:=by
 cases C with
 | own _ _ _ _ _ _ d n k1 k2 J K L M =>
 simp only [aG] at e;split at e
 ·rename_i o ty2 l r;split at e
  ·rename_i y;obtain ⟨e1,e2,e3⟩:=y;cases e;obtain ⟨b,g,q,D,E,G,v,x,I⟩:=fU hH r k1;have B:((b.toList.drop a).take m).length=m:=by simp; omega
   refine ⟨d,n,b,ty2,g,o,l,k1,rfl,r,q,zO,fun h=>(x h).2,B,⟨by simp; omega,fun i c u hi k=>?_⟩,fun j u hj=>?_⟩
   ·rw [VL] at hi k;rw [WT] at hi;split at hi
    ·rename_i A;rw [if_pos A] at k;rw [VM] at hi k;exact v _ c u hi (by simpa using k)
    ·cases hi
   ·rw [pM q];rw [VL] at hj;split at hj
    ·rw [VM] at hj; simpa using hj
    ·cases hj
  ·cases e
 ·cases e
def P8 {μ:Mu} {F:Nat->Prop} {w:World} {b n c sz:Nat} {ex:Bool} {x:Value} (h:VR μ F w (.own b 0 n c sz ex) x):∃ L cap,μ b=some L/\L.sz=sz/\n<=c/\c<=cap/\cap*sz<=L.N/\x=.slice (some ⟨L.blk,0,none⟩) n cap:=by
 cases h with
 | own _ _ _ _ _ _ L cap k1 k2 a d e f=>exact ⟨L,cap,k1,k2,a,d,zO,rfl⟩
def zn {μ:Mu} {F:Nat->Prop} {w:World} {vs:List Value} {a b c:AV} (h:LR μ F w [a,b,c] vs):∃ x y z,vs=[x,y,z]/\VR μ F w a x/\VR μ F w b y/\VR μ F w c z:=by
 have hl:=h.1
 match vs,hl with
 | [x,y,z],_=>exact ⟨x,y,z,rfl,h.head,h.tail.head,h.tail.tail.head⟩
set_option maxRecDepth 100000 in
def extOK_insert:ExtOK Tryz.prog 153 (.insert 1 24 49):=by
 intro H args v H' h μ F w vs fence rd nn G hH hl;have af:sizeOf? Tryz.prog 49=some 1:=by
  obtain ⟨i0,hi,h0,h1,h2⟩:=info_parts Ins153.iE;simp [sizeOf?,hi,h1]
 have ae:μ H.next=none:=jT hH (Vo _)
 have J:∀ k,(Builtin.zeroCells (Value.slice none 0 0).cells k).size=k:=fun k=>by rw [yI]; simp [Value.cells]
 rcases Qt h with ⟨b2,f,m,c2,ao,Ie,R,rfl,W,h1,h2,h3,T,rfl,rfl⟩ | ⟨b,n,c,ex,i,b2,f,m,c2,ao,Ie,R,cs,ah,ty2,rfl,W,hb,ad,h1,h2,h3,T,h5,h6,M,h8,rfl,rfl⟩
 ·obtain ⟨x,y,z,rfl,hx,hy,Z⟩:=zn hl;cases hx;cases hy;obtain ⟨o,s,q,ty2,ai,ah,am,k1,rfl,k3,K,g2,-,r,p,t⟩:=Fz hH Z W;refine uU G ((Ins153.end_grow none 0 0 o.blk f m s [] ((q.toList.drop f).take m) w h1 (Vo _) zO zO rfl r (fun _=>rfl) (fun a h=>by cases h) t (p.one T)).mono fun e w' ⟨he,g⟩=>?_);subst g;rw [V3] at he;have hge:=Go.grownCap_ge w m 0 49;simp only [V3,Xv];obtain ⟨μ',q1,q2,q3⟩:=Jk (P:=Tryz.prog) (H:=H) (A:=((q.toList.drop f).take m).toArray++Builtin.zeroCells (Value.slice none 0 0).cells (grownCap w m 0 49-m)) (w1:=w.drew) (k:=m) (cap':=grownCap w m 0 49) (hH.bump 1) rfl ae af p r
   (fun j hj=>by rw [WO (by simp [r]; omega)]; simp) hge (by simp only [XD,XV,r,J]; omega) rfl Tp.draw rfl rfl
  exact ⟨_,he,μ',q1,q2,Ax q3⟩
 ·obtain ⟨x,y,z,rfl,hx,hy,Z⟩:=zn hl;obtain ⟨L,cap,r1,r2,r3,r4,r5,rfl⟩:=P8 hx;cases hy;obtain ⟨o,s,q,aq,ai,ap,am,k1,rfl,k3,K,g2,ak,r,p,t⟩:=Fz hH Z W;rw [ad] at k3;cases k3;have al:=ak rfl;subst al;obtain ⟨arr,fr,p1,p2,p3,p4,p5,p6,p7⟩:=fU hH hb r1;obtain ⟨-,rfl⟩:=p6 rfl;rw [WT] at T r5;have hne:o.blk≠L.blk:=fun e=>h1 (hH.inj b b2 _ _ L o hb ad r1 k1 e.symm);have Y:(arr.toList.take n).length=n:=by simp; omega
  have O:LR μ F w cs (arr.toList.take n):=by
   refine ⟨by simp; omega,fun i c u hi Q=>?_⟩;rw [VL] at Q;split at Q
   ·exact p5 i c u hi (by simpa using Q)
   ·cases Q
  have U:∀ j u,(arr.toList.take n)[j]? = some u->w.cell? ⟨L.blk,0+j,none⟩=some u:=fun j u hj=>by
   rw [pM p1,V3];rw [VL] at hj;split at hj
   ·simpa using hj
   ·cases hj
  have hV:LR μ F w (cs.take (i*1)++R++cs.drop (i*1)) ((arr.toList.take n).take i++(q.toList.drop f).take m++(arr.toList.take n).drop i):=by
   rw [WT];exact ((O.take i).append p).append (O.drop i)
  have aa:((arr.toList.take n).take i++(q.toList.drop f).take m++(arr.toList.take n).drop i).length=n+m:=by
   simp only [VC,VN,WN,r,Y]
   have:=Y
   rw [VN] at this;omega
  generalize hC:arr.toList.take n=C at *
  generalize hD:(q.toList.drop f).take m=D at *
  have d:=Y;have l:=r;have ab:∀ j,j<n->arr[j]? = C[j]?:=fun j hj=>by rw [<- hC,VL,if_pos hj]; simp
  have N:∀ j,j<n+m->(C.take i++D++C.drop i)[j]? = if j<i then C[j]? else if j<i+m then D[j-i]? else C[j-m]?:=by
   intro j hj;have e1:(C.take i).length=i:=by rw [VN]; omega
   by_cases q1:j<i
   ·rw [if_pos q1,VT (by rw [VC,e1]; omega),VT zO,VL,if_pos q1]
   ·rw [if_neg q1];by_cases q2:j<i+m
    ·rw [if_pos q2,VT (by rw [VC,e1]; omega),We zO,e1]
    ·rw [if_neg q2,We (by rw [VC,e1]; omega),VC,e1,VM];congr 1; omega
  have ag:∀ j,j<cap->(w.cell? ⟨L.blk,0+j,none⟩).isSome=true:=fun j hj=>by
   rw [pM p1,V3,WM zO]; rfl
  by_cases X:n+m<=cap
  ·
   have fin:∀ (A:Array Value) (w':World),A.size=L.N->(∀ j,j<n+m->A[j]? = (C.take i++D++C.drop i)[j]?)->w'.heap[L.blk]? = some (.cells A 49 (0,0))->(∀ c,c≠L.blk->w'.heap[c]? = w.heap[c]?)->w'.heap.size=w.heap.size->Tp w w'->w'.os=w.os->w'.output=w.output ->
     ∃ μ',iu sF Tryz.prog μ F H w (.own H.next 0 (n+m) (n+m) 1 false) (({ H with next:=H.next+1 }:Heap).kill b |>.put H.next (.cells (cs.take (i*1)++R++cs.drop (i*1)) 49 true)) (.slice (some ⟨L.blk,0,none⟩) (n+m) cap) w' μ':=by
    intro A w' B E a3 a4 a5 S a7 a8;obtain ⟨μ',q1,q2,q3⟩:=Qs (P:=Tryz.prog) (A:=A) (w':=w') (k:=n+m) (cap:=cap) hH hb r1 r2 hV aa E X B r5 a3 a4 a5 S a7 a8;exact ⟨μ',q1,q2,q3⟩
   by_cases V:i=n
   ·subst V;refine uU G ((Ins153.end_room L.blk 0 i cap o.blk f m s D w h2 X zO l (fun j hj=>by rw [Wx]; exact ag _ zO) (fun j _=>uK p1 _) t (p.one M)).mono fun e w' ⟨he,g⟩=>?_);subst g;obtain ⟨s1,s2,s3,s4,s5,s6⟩:=nf L.blk D (0+i) w arr 49 (0,0) p1;obtain ⟨μ',hd⟩:=fin _ _ ((iO _ _ _).trans p2) (fun j hj=>by
     rw [oJ _ _ _ _ zO,N j hj,l,V3];by_cases q1:j<i
     ·rw [if_neg zO,if_pos q1,ab j q1]
     ·rw [if_pos zO,if_neg q1,if_pos zO]) s1 s2 s3 s4 s5 s6
    exact ⟨_,he,μ',hd⟩
   ·refine uU G ((Ins153.shift L.blk 0 n cap i o.blk f m s C D w zO h2 X zO hne d l U (fun j hj=>ag j zO) (fun j _=>uK p1 _) t (O.one h8) (p.one M)
     ty2 49 q.size arr.size (by simp [World.shape?,K]) (by simp [World.shape?,p1]) zO (uK K _) (uK K _)).mono fun e w' ⟨he,g⟩=>?_)
    subst g;obtain ⟨s1,s2,s3,s4,s5,s6⟩:=nf L.blk (C.drop i) (0+(i+m)) w.drew arr 49 (0,0) p1;obtain ⟨t1,t2,t3,t4,t5,t6⟩:=nf L.blk D (0+i) _ _ 49 (0,0) s1;obtain ⟨μ',hd⟩:=fin _ _ (by rw [iO,iO]; exact p2) (fun j hj=>by
     rw [oJ _ _ _ _ (by rw [iO]; omega),oJ _ _ _ _ zO,N j hj,l,V3,V3,WN,d];by_cases q1:j<i
     ·rw [if_neg zO,if_neg zO,if_pos q1,ab j zO]
     ·by_cases q2:j<i+m
      ·rw [if_pos zO,if_neg q1,if_pos q2]
      ·rw [if_neg zO,if_pos zO,if_neg q1,if_neg q2,VM];congr 1; omega) t1 (fun c hc=>(t2 c hc).trans (s2 c hc)) (t3.trans s3) ((Tp.draw.trans s4).trans t4) (t5.trans s5) (t6.trans s6)
    exact ⟨_,he,μ',hd⟩
  ·
   have hge:=Go.grownCap_ge w (n+m) cap 49;obtain ⟨z1,z2⟩:=tU (I:=fun x=>x=H.next) (hH.bump 1) b;have fin:∀ (A:Array Value) (w1:World),A.size=grownCap w (n+m) cap 49->(∀ j,j<n+m->A[j]? = (C.take i++D++C.drop i)[j]?)->w1.heap=w.heap->Tp w w1->w1.os=w.os->w1.output=w.output ->
     ∃ μ',iu sF Tryz.prog μ F H w (.own H.next 0 (n+m) (n+m) 1 false) (({ H with next:=H.next+1 }:Heap).kill b |>.put H.next (.cells (cs.take (i*1)++R++cs.drop (i*1)) 49 true)) (.slice (some ⟨w.heap.size,0,none⟩) (n+m) (grownCap w (n+m) cap 49)) (w1.alloc (.cells A 49)) μ':=by
    intro A w1 B E a3 a4 a5 S;obtain ⟨μ',q1,q2,q3⟩:=Jk (P:=Tryz.prog) (H:=H) (A:=A) (w1:=w1) (k:=n+m) (cap':=grownCap w (n+m) cap 49) z1 rfl ae af hV aa E hge B a3 a4 a5 S;exact ⟨μ',q1,q2,Ax (z2.trans q3)⟩
   by_cases V:i=n
   ·subst V;refine uU G ((Ins153.end_grow (some ⟨L.blk,0,none⟩) i cap o.blk f m s C D w h2 zO zO zO d l (fun h=>by cases h) (fun a ha j u hj=>by cases ha; rw [ju]; exact U j u hj) t (p.one M)).mono fun e w' ⟨he,g⟩=>?_);subst g;obtain ⟨μ',hd⟩:=fin ((C++D).toArray++Builtin.zeroCells (Value.slice none 0 0).cells (grownCap w (i+m) cap 49-(i+m))) w.drew (by simp only [XD,XV,VC,d,l,J]; omega) (fun j hj=>by
     rw [WO (by simp [d,l]; omega),N j hj];have e0:(C++D).toArray[j]? = (C++D)[j]?:=by simp
     rw [e0];by_cases q1:j<i
     ·rw [if_pos q1,VT zO]
     ·rw [if_neg q1,if_pos zO,We zO,d]) rfl Tp.draw rfl rfl
    exact ⟨_,he,μ',hd⟩
   ·refine uU G ((Ins153.grow L.blk 0 n cap i o.blk f m s C D w zO h2 zO zO zO d l U t (O.one h8) (p.one M)).mono fun e w' ⟨he,g⟩=>?_);have e1:∀ A:Array Value,(((w.alloc (.cells A 49)).drew.setCells w.heap.size i D).drew).setCells w.heap.size (i+m) (C.drop i)=w.drew.drew.alloc (.cells (sL (sL A i D) (i+m) (C.drop i)) 49):=fun A=>by
     have B:(w.alloc (.cells A 49)).drew=w.drew.alloc (.cells A 49):=rfl;have E:(w.drew.alloc (.cells A 49)).setCells w.heap.size i D=w.drew.alloc (.cells (sL A i D) 49):=mS w.drew 49 D i A;have a3:(w.drew.alloc (.cells (sL A i D) 49)).drew=w.drew.drew.alloc (.cells (sL A i D) 49):=rfl;rw [B,E,a3];exact mS w.drew.drew 49 (C.drop i) (i+m) (sL A i D)
    rw [e1] at g;subst g;obtain ⟨μ',hd⟩:=fin (sL (sL ((C.take i).toArray++Builtin.zeroCells (Value.slice none 0 0).cells (n+m-i)++Builtin.zeroCells (Value.slice none 0 0).cells (grownCap w (n+m) cap 49-(n+m))) i D) (i+m) (C.drop i)) w.drew.drew (by
      rw [iO,iO];simp only [XD,XV,VN,d,J]; omega) (fun j hj=>by
     have hA0:((C.take i).toArray++Builtin.zeroCells (Value.slice none 0 0).cells (n+m-i)++Builtin.zeroCells (Value.slice none 0 0).cells (grownCap w (n+m) cap 49-(n+m))).size=grownCap w (n+m) cap 49:=by
      simp only [XD,XV,VN,d,J]; omega
     rw [oJ _ _ _ _ (by rw [iO,hA0]; omega),oJ _ _ _ _ (by rw [hA0]; omega),N j hj,l,WN,d];by_cases q1:j<i
     ·rw [if_neg zO,if_neg zO,if_pos q1,WO (by simp only [XD,XV,VN,d,J]; omega),WO (by simp only [XV,VN,d]; omega)];simp [q1]
     ·by_cases q2:j<i+m
      ·rw [if_neg zO,if_pos zO,if_neg q1,if_pos q2]
      ·rw [if_pos zO,if_neg q1,if_neg q2,VM];congr 1; omega) rfl (Tp.draw.trans Tp.draw) rfl rfl
    exact ⟨_,he,μ',hd⟩
end Go.Proofs.YtkmepoeklibegaaGreat.Ev.Ok153
namespace Go.Proofs.YtkmepoeklibegaaGreat.Ev.So92
open Go Go.RowKit Go.Sort Go.Shelf Go.Lib Go.Proofs.YtkmepoeklibegaaGreat.Ev
set_option maxRecDepth 100000
def GS:Go.Shelf.Ren:=⟨fun | 6=>92 | 15=>113 | 14=>112 | 28=>142 | 29=>143 | 20=>134 | 21=>135 | 22=>136 | 23=>137 | 24=>138 | 25=>139 | 26=>140 | 27=>141 | 46=>158 | 47=>159 | 48=>160 | 49=>161 | 50=>162 | 57=>176 | n=>n,fun | 22=>95 | 24=>49 | 25=>87 | 3=>3 | 39=>153 | 0=>0 | 53=>183 | 55=>110 | 4=>4 | 46=>176 | 45=>175 | 50=>180 | 5=>5 | 9=>9 | 66=>199 | 70=>203 | 76=>217 | 77=>218 | n=>n,fun | n=>n⟩
def Ng:Go.Proofs.SlLaysF.n6 Tryz.prog GS:={
 mixed:=by kernel_rfl
 f6:=⟨Tryz.f92.name,by decide,Tryz.func92.trans (congrArg some (by kernel_rfl))⟩
 f14:=⟨Tryz.f112.name,by decide,Tryz.func112.trans (congrArg some (by kernel_rfl))⟩
 f15:=Tryz.func113.trans (congrArg some (by kernel_rfl))
 f20:=⟨Tryz.f134.name,by decide,Tryz.func134.trans (congrArg some (by kernel_rfl))⟩
 f21:=⟨Tryz.f135.name,by decide,Tryz.func135.trans (congrArg some (by kernel_rfl))⟩
 f22:=⟨Tryz.f136.name,by decide,Tryz.func136.trans (congrArg some (by kernel_rfl))⟩
 f23:=⟨Tryz.f137.name,by decide,Tryz.func137.trans (congrArg some (by kernel_rfl))⟩
 f24:=⟨Tryz.f138.name,by decide,Tryz.func138.trans (congrArg some (by kernel_rfl))⟩
 f25:=⟨Tryz.f139.name,by decide,Tryz.func139.trans (congrArg some (by kernel_rfl))⟩
 f26:=⟨Tryz.f140.name,by decide,Tryz.func140.trans (congrArg some (by kernel_rfl))⟩
 f27:=⟨Tryz.f141.name,by decide,Tryz.func141.trans (congrArg some (by kernel_rfl))⟩
 f28:=Tryz.func142.trans (congrArg some (by kernel_rfl))
 f29:=Tryz.func143.trans (congrArg some (by kernel_rfl))
 f46:=⟨Tryz.f158.name,by decide,Tryz.func158.trans (congrArg some (by kernel_rfl))⟩
 f47:=Tryz.func159.trans (congrArg some (by kernel_rfl))
 f48:=Tryz.func160.trans (congrArg some (by kernel_rfl))
 f49:=⟨Tryz.f161.name,by decide,Tryz.func161.trans (congrArg some (by kernel_rfl))⟩
 f50:=⟨Tryz.f162.name,by decide,Tryz.func162.trans (congrArg some (by kernel_rfl))⟩
 f57:=⟨Tryz.f176.name,by decide,Tryz.func176.trans (congrArg some (by kernel_rfl))⟩
 t0:=Tryz.underlying0
 a0:=Tryz.isAgg0
 z0:=Tryz.sizeOf0
 v0:=Tryz.zeroValue0
 t3:=Tryz.underlying3
 a3:=Tryz.isAgg3
 z3:=Tryz.sizeOf3
 v3:=Tryz.zeroValue3
 t4:=Tryz.underlying4
 a4:=Tryz.isAgg4
 z4:=Tryz.sizeOf4
 v4:=Tryz.zeroValue4
 t5:=Tryz.underlying5
 a5:=Tryz.isAgg5
 z5:=Tryz.sizeOf5
 v5:=Tryz.zeroValue5
 t9:=Tryz.underlying9
 a9:=Tryz.isAgg9
 z9:=Tryz.sizeOf9
 v9:=Tryz.zeroValue9
 t22:=Tryz.underlying95
 a22:=Tryz.isAgg95
 z22:=Tryz.sizeOf95
 v22:=Tryz.zeroValue95
 a24:=Tryz.isAgg49
 z24:=Tryz.sizeOf49
 t25:=Tryz.underlying87
 a25:=Tryz.isAgg87
 z25:=Tryz.sizeOf87
 v25:=Tryz.zeroValue87
 t39:=Tryz.underlying153
 a39:=Tryz.isAgg153
 z39:=Tryz.sizeOf153
 v39:=Tryz.zeroValue153
 t45:=Tryz.underlying175
 a45:=Tryz.isAgg175
 z45:=Tryz.sizeOf175
 v45:=Tryz.zeroValue175
 t46:=Tryz.underlying176
 a46:=Tryz.isAgg176
 z46:=Tryz.sizeOf176
 v46:=Tryz.zeroValue176
 t50:=Tryz.underlying180
 a50:=Tryz.isAgg180
 z50:=Tryz.sizeOf180
 v50:=Tryz.zeroValue180
 t53:=Tryz.underlying183
 a53:=Tryz.isAgg183
 z53:=Tryz.sizeOf183
 v53:=Tryz.zeroValue183
 t55:=Tryz.underlying110
 a55:=Tryz.isAgg110
 z55:=Tryz.sizeOf110
 v55:=Tryz.zeroValue110
 t66:=Tryz.underlying199
 a66:=Tryz.isAgg199
 z66:=Tryz.sizeOf199
 v66:=Tryz.zeroValue199
 t70:=Tryz.underlying203
 a70:=Tryz.isAgg203
 z70:=Tryz.sizeOf203
 v70:=Tryz.zeroValue203
 t76:=Tryz.underlying217
 a76:=Tryz.isAgg217
 z76:=Tryz.sizeOf217
 v76:=Tryz.zeroValue217
 t77:=Tryz.underlying218
 a77:=Tryz.isAgg218
 z77:=Tryz.sizeOf218
 v77:=Tryz.zeroValue218 }
def RW:Iz Tryz.prog 92 [93]:=by
 refine ⟨⟨Tryz.f92,Tryz.func92,by kernel_rfl,by decide +kernel⟩,trivial,?_,?_,?_⟩
 ·intro g hg args w;simp only [VK,List.not_mem_nil,or_false] at hg;subst hg;exact enters_of Tryz.func93 (by kernel_rfl) rfl args w
 ·intro p cap d w;exact AnyF.slices_SortFunc_none { Ng with } p cap d w
 ·intro k enc b g a blk cap w hg h1 e hT i hH f j;have c:∀ args w,(callFunc g args).run Tryz.prog w=.ok (.enter g args) w:=by
   intro args w;simp only [VK,List.not_mem_nil,or_false] at hg;subst hg;exact enters_of Tryz.func93 (by kernel_rfl) rfl args w
  have hs:(List.finRange (k+1)).toArray.size=k+1:=by simp
  have h:=Any.slices_SortFunc_total Ng enc h1 b e g a blk 0 cap (List.finRange (k+1)).toArray w c (by rw [hs]; exact i) hH f (by rw [hs]; exact j) hT;rw [hs] at h
  change Calls Tryz.prog 92 _ _ _ at h
  exact h
def extOK:ExtOK Tryz.prog 92 (.sortF 49 [93]):=RW
end Go.Proofs.YtkmepoeklibegaaGreat.Ev.So92
namespace Go.Proofs.YtkmepoeklibegaaGreat.Ev
open Go
set_option maxRecDepth 1000000
set_option maxHeartbeats 8000000
def look:List (Nat × au)->Nat->Option au
 | [],_=>none
 | p :: r,f=>if f=p.1 then some p.2 else look r f
def Fp:∀ {L:List (Nat × au)} {f:Nat} {a:au},look L f=some a->(f,a)∈L
 | p :: r,f,a,h=>by
  unfold look at h;split at h
  ·rename_i e; cases h; subst e; exact Vt ..
  ·exact Vn _ (Fp h)
def aw {f:Nat} {fn:Func} {a:au} (b:Tryz.prog.funcs[f]? = some fn) (hc:SF Tryz.prog fn=some a:=by kernel_rfl) (he:a.ext.isNone=true:=by rfl):Gt Tryz.prog f a:=Na b hc he
abbrev Rw (l:List (Nat × au)):Prop:=∀ p∈l,Gt Tryz.prog p.1 p.2
def Nt:Rw []:=fun p hp=>by cases hp
def bu {f:Nat} {a:au} {l:List (Nat × au)} (h:Gt Tryz.prog f a) (hl:Rw l):Rw ((f,a) :: l):=List.forall_mem_cons.2 ⟨h,hl⟩
def Ur:List (Nat × au):=[(ee,c_facetroomlaw25_WidenHas),(UK,c_facetroomlaw25_WidenEnds),(fE,jm),(gf,jF),(iv,sS),(wK,CE),(qS,yo),(fV,jA),(UN,UV),(eT,iz),(io,kV),(ip,kW),(dL,gQ),(oN,CK),(fz,jj),(mo,rx),(pm,vB),(pn,vC),(jO,oV),(bO,cV)]
def Uq:List (Nat × au):=[(mB,rE),(px,vM),(ia,vL),(cI,dR),(qZ,yy),(fW,jB),(py,vN),(uM,F9),(fD,jl),(fG,jq),(eW,US),(kw,yw),(od,c_dual_points),(qX,yx),(fC,jk),(cy,nu),(lv,vA),(kN,p8),(bN,cU),(tH,A4)]
def Up:List (Nat × au):=[(cm,dw),(qR,yn),(bQ,eP),(fF,jp),(eU,tn),(mC,A9),(qY,c_dual_cons),(d9,ig),(dZ,ie),(rc,yz),(tF,AZ),(eE,il),(eC,ik),(qW,yv),(rf,c_cone_Gens),(bM,cT),(jQ,o0),(pC,vQ),(dK,gP),(ng,yj)]
def Uo:List (Nat × au):=[(rZ,CC),(pq,vF),(ck,du),(bh,bZ),(iW,vG),(eB,ij),(eA,ii),(fY,jC),(gG,rH),(gF,rG),(aS,bE),(aR,bD),(Ah,Gb),(UO,vE),(nh,ym),(mD,c_cone_checked),(re,yC),(tQ,Bh),(cW,c_P_cone_under_add),(mA,rD)]
def Un:List (Nat × au):=[(nT,tf),(dz,dC),(jc,rI),(cj,dt),(nN,sX),(ka,sV),(mr,ry),(mp,A2),(nM,sW),(wH,CA),(po,vD),(de,fp),(fZ,jD),(pz,A5),(co,dx),(my,rB),(lx,vK),(gh,jH),(iI,c_P_cone_under_cut),(iq,c_P_cone_under_fold)]
def Um:List (Nat × au):=[(nR,s9),(iH,mQ),(tG,A3),(wJ,CD),(ni,yr),(qM,yg),(qO,yi),(gc,jE),(cE,fR),(cG,dP),(pF,Bg),(ky,yA),(fc,lc),(nj,yB),(pD,Bc),(pE,Be),(cM,dW),(cH,dQ),(gr,c_P_rows_form_put),(qP,yl)]
def Ul:List (Nat × au):=[(UP,vJ),(mz,rC),(nO,sY),(aY,bR),(pu,vI),(kO,p9),(wO,CI),(qJ,yd),(qQ,c_sat_Signs),(tP,Bf),(qL,yf),(wI,CB),(nS,td),(cF,dO),(nP,sZ),(mw,rz),(nQ,s8),(cz,fq),(qN,yh),(im,kU)]
def Uk:List (Nat × au):=[(nV,tj),(wM,CG),(wL,CF),(pt,vH),(wP,CJ),(nL,sU),(fe,oY),(qK,ye),(pB,vP),(qV,yu),(wN,CH),(tM,A8),(Ai,Gc),(nU,tg),(pA,vO),(i9,nC),(iX,nw),(nW,tl),(wQ,CL),(jP,oX)]
def Uj:List (Nat × au):=[(iY,ny),(tK,A7),(qT,yp),(oi,tq),(tO,Bb),(dJ,gO),(Ag,Ga),(gg,jG),(gH,kF),(gI,kI),(tN,Ba),(tJ,A6),(gE,rF),(cP,eQ),(i8,nB),(iZ,nz),(qU,yq),(aZ,dF)]
def UH:Rw Ur:=bu (aw Tryz.func4)<|bu (aw Tryz.func3)<|bu (aw Tryz.func5)<|bu (aw Tryz.func6)<|bu (aw Tryz.func7)<|bu (aw Tryz.func10)<|bu (aw Tryz.func11)<|bu (aw Tryz.func9)<|bu (aw Tryz.func8)<|bu (aw Tryz.func12)<|bu (aw Tryz.func13)<|bu (aw Tryz.func14)<|bu (aw Tryz.func15)<|bu (aw Tryz.func16)<|bu (aw Tryz.func17)<|bu (aw Tryz.func18)<|bu (aw Tryz.func19)<|bu (aw Tryz.func20)<|bu (aw Tryz.func22)<|bu (aw Tryz.func21)<|Nt
def UG:Rw Uq:=bu (aw Tryz.func26)<|bu (aw Tryz.func27)<|bu (aw Tryz.func28)<|bu (aw Tryz.func30)<|bu (aw Tryz.func29)<|bu (aw Tryz.func25)<|bu (aw Tryz.func24)<|bu (aw Tryz.func31)<|bu (aw Tryz.func32)<|bu (aw Tryz.func33)<|bu (aw Tryz.func34)<|bu (aw Tryz.func35)<|bu (aw Tryz.func37)<|bu (aw Tryz.func36)<|bu (aw Tryz.func38)<|bu (aw Tryz.func39)<|bu (aw Tryz.func42)<|bu (aw Tryz.func44)<|bu (aw Tryz.func43)<|bu (aw Tryz.func23)<|Nt
def UF:Rw Up:=bu (aw Tryz.func45)<|bu (aw Tryz.func51)<|bu (aw Tryz.func56)<|bu (aw Tryz.func52)<|bu (aw Tryz.func53)<|bu (aw Tryz.func54)<|bu (aw Tryz.func55)<|bu (aw Tryz.func49)<|bu (aw Tryz.func50)<|bu (aw Tryz.func48)<|bu (aw Tryz.func41)<|bu (aw Tryz.func57)<|bu (aw Tryz.func59)<|bu (aw Tryz.func60)<|bu (aw Tryz.func61)<|bu (aw Tryz.func62)<|bu (aw Tryz.func63)<|bu (aw Tryz.func64)<|bu (aw Tryz.func65)<|bu (aw Tryz.func40)<|Nt
def UE:Rw Uo:=bu (aw Tryz.func73)<|bu (aw Tryz.func74)<|bu (aw Tryz.func75)<|bu (aw Tryz.func46)<|bu (aw Tryz.func47)<|bu (aw Tryz.func82)<|bu (aw Tryz.func83)<|bu (aw Tryz.func81)<|bu (aw Tryz.func77)<|bu (aw Tryz.func78)<|bu (aw Tryz.func79)<|bu (aw Tryz.func80)<|bu (aw Tryz.func72)<|bu (aw Tryz.func71)<|bu (aw Tryz.func58)<|bu (aw Tryz.func86)<|bu (aw Tryz.func87)<|bu (aw Tryz.func88)<|bu (aw Tryz.func89)<|bu (aw Tryz.func90)<|Nt
def UD:Rw Un:=bu (aw Tryz.func91)<|bu (rR rfl rfl So92.extOK)<|bu (aw Tryz.func93)<|bu (aw Tryz.func95)<|bu (aw Tryz.func66)<|bu (aw Tryz.func67)<|bu (aw Tryz.func69)<|bu (aw Tryz.func68)<|bu (aw Tryz.func70)<|bu (aw Tryz.func99)<|bu (aw Tryz.func100)<|bu (aw Tryz.func76)<|bu (aw Tryz.func101)<|bu (aw Tryz.func98)<|bu (aw Tryz.func84)<|bu (aw Tryz.func85)<|bu (aw Tryz.func103)<|bu (aw Tryz.func104)<|bu (aw Tryz.func107)<|bu (aw Tryz.func108)<|Nt
def UC:Rw Um:=bu (aw Tryz.func109)<|bu (aw Tryz.func111)<|bu (aw Tryz.func110)<|bu (aw Tryz.func94)<|bu (aw Tryz.func96)<|bu (aw Tryz.func97)<|bu (aw Tryz.func120)<|bu (aw Tryz.func121)<|bu (aw Tryz.func119)<|bu (aw Tryz.func102)<|bu (aw Tryz.func106)<|bu (aw Tryz.func105)<|bu (aw Tryz.func122)<|bu (aw Tryz.func123)<|bu (aw Tryz.func125)<|bu (aw Tryz.func124)<|bu (aw Tryz.func127)<|bu (aw Tryz.func126)<|bu (aw Tryz.func128)<|bu (aw Tryz.func131)<|Nt
def UB:Rw Ul:=bu (aw Tryz.func133)<|bu (aw Tryz.func132)<|bu (aw Tryz.func129)<|bu (aw Tryz.func114)<|bu (aw Tryz.func115)<|bu (aw Tryz.func117)<|bu (aw Tryz.func118)<|bu (aw Tryz.func147)<|bu (aw Tryz.func148)<|bu (aw Tryz.func149)<|bu (aw Tryz.func151)<|bu (aw Tryz.func150)<|bu (aw Tryz.func152)<|bu (rR rfl rfl Ok153.extOK_insert)<|bu (aw Tryz.func154)<|bu (aw Tryz.func155)<|bu (aw Tryz.func157)<|bu (aw Tryz.func130)<|bu (aw Tryz.func116)<|bu (aw Tryz.func146)<|Nt
def UA:Rw Uk:=bu (aw Tryz.func145)<|bu (aw Tryz.func168)<|bu (aw Tryz.func169)<|bu (aw Tryz.func170)<|bu (aw Tryz.func173)<|bu (aw Tryz.func156)<|bu (aw Tryz.func175)<|bu (aw Tryz.func144)<|bu (aw Tryz.func163)<|bu (aw Tryz.func164)<|bu (aw Tryz.func166)<|bu (aw Tryz.func165)<|bu (aw Tryz.func167)<|bu (aw Tryz.func180)<|bu (aw Tryz.func181)<|bu (rR rfl rfl (FM Tryz.func178 (by kernel_rfl) (by kernel_rfl) (by kernel_rfl) (by kernel_rfl)))<|bu (rR rfl rfl (FL Tryz.func182 (by kernel_rfl) (by kernel_rfl) (by kernel_rfl) (by kernel_rfl)))<|bu (aw Tryz.func184)<|bu (aw Tryz.func185)<|bu (aw Tryz.func174)<|Nt
def Uz:Rw Uj:=bu (aw Tryz.func177)<|bu (aw Tryz.func179)<|bu (aw Tryz.func186)<|bu (aw Tryz.func188)<|bu (aw Tryz.func189)<|bu (aw Tryz.func190)<|bu (aw Tryz.func191)<|bu (aw Tryz.func192)<|bu (aw Tryz.func193)<|bu (aw Tryz.func194)<|bu (aw Tryz.func196)<|bu (aw Tryz.func195)<|bu (aw Tryz.func197)<|bu (aw Tryz.func198)<|bu (aw Tryz.func199)<|bu (aw Tryz.func143)<|bu (aw Tryz.func200)<|bu (aw Tryz.func201)<|Nt
def RU:List (Nat × au):=Ur++Uq++Up++Uo++Un++Um++Ul++Uk++Uj
def QW {l m:List (Nat × au)} (h:Rw l) (h2:Rw m):Rw (l++m):=fun p hp=>(VE.1 hp).elim (h p) (h2 p)
def PT:Rw RU:=(QW (QW (QW (QW (QW (QW (QW (QW UH UG) UF) UE) UD) UC) UB) UA) Uz)
def tabOK:JO Tryz.prog (look RU):=fun _ _ h=>PT _ (Fp h)
theorem code:Code (look RU):=by constructor <;> kernel_rfl
end Go.Proofs.YtkmepoeklibegaaGreat.Ev
