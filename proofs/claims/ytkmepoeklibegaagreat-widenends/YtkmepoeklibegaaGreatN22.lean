/- A part. -/
import Derived.Test.YtkmepoeklibegaaGreatA0
import Derived.Test.YtkmepoeklibegaaGreatN7
set_option linter.all false
namespace Go.Proofs.YtkmepoeklibegaaGreat.Ev
open Go Nn
def CR (H:Heap) (id size bytes ty:Nat) (z:List AV) (x y:AV):Option (AV × Heap):=match pb y with
 | none=>none
 | some m=>if z.length=size/\m*bytes<=2^46/\m<2^62 then cS H id size bytes ty x m ((List.replicate m z).flatten) none else none
def IE {tab:Nat->Option au} (ev:Src->AV) (H:Heap) (id:Nat) (Q:AV->Heap->Prop) (size bytes ty:Nat) (z:List AV) (x y:Src) :
  lJ tab ev H id (.appendZ size bytes ty z x y) Q=gu (CR H id size bytes ty z (ev x) (ev y)) (fun r=>Q r.1 r.2) ():=by
 rw [bT,gn tab ev H id Q (o:=.appendZ size bytes ty z x y) (fun f a e=>by cases e) rfl]; rfl
def OV {H:Heap} {id b n m M:Nat} {l E:List Nat} (hb:H.get b=some (.cells (aL (l++E)) ae true)) (hn:l.length=n) (p:E.length=m) (d:n+m=M) (q:M<2199023255552) (g:H.get id=none) (hl:Lim l) :
  ∃ rb x R H',CR H id 1 8 ae [.int .u64 0] (.own b 0 n n 1 true) (.int .i64 (m:Int))=some (.own rb 0 M M 1 x,H')/\H'.get rb=some (.cells (aL R) ae true)/\R.length=M/\val R=val l/\Lim R/\(rb=b\/rb=id)/\H'.next=H.next/\(∀ c e,H.get c=some e->H'.get c=some e)/\(∀ H0,Kp H0 H->H0.next<=id->id<H.next->Kp H0 H'):=by
 have j:(aL (l++E)).length=M:=by rw [oQ,VC]; omega
 have a:CR H id 1 8 ae [.int .u64 0] (.own b 0 n n 1 true) (.int .i64 (m:Int))=if m=0 then some (.own b 0 n n 1 true,H) else some (.own id 0 (n+m) (n+m) 1 false,H.put id (.cells ((aL (l++E)).take n++aL (List.replicate m 0)) ae true)):=by
  unfold CR;rw [fN];simp only;rw [if_pos ⟨rfl,zO,zO⟩,mH];simp only [cS,hb];rw [if_pos ⟨trivial,zO,zO,trivial,by rw [j]; omega⟩];by_cases h0:m=0
  ·rw [if_pos zO,if_pos h0,if_pos h0]
  ·rw [if_neg zO,if_pos trivial,if_neg h0]
   simp
 by_cases h0:m=0
 ·have f:E=[]:=VZ zO;subst f;rw [Wv] at hb;have k:n=M:=zO;subst k;exact ⟨b,true,l,H,by rw [a,if_pos h0],hb,hn,rfl,hl,.inl rfl,rfl,fun _ _ h=>h,fun _ h _ _=>h⟩
 ·have o:(aL (l++E)).take n=aL l:=by
   unfold aL;rw [V7,YO (by simp [hn])]
  have hc:aL l++aL (List.replicate m 0)=aL (l++List.replicate m 0):=by simp [aL]
  rw [o,hc,d] at a;exact ⟨id,false,l++List.replicate m 0,_,by rw [a,if_neg h0],ap _ _ _,by simp [hn,d],by rw [pg,fS,Yb,WZ],hl.append (Lim.replicate m),.inr rfl,rfl,fun c e h=>by
   rw [al (fun e1=>by rw [e1,g] at h; cases h)]; exact h,fun H0 i h1 h2=>i.put h1 h2⟩
section
variable {tab:Nat->Option au} {H:Heap}
set_option maxHeartbeats 4000000 in
def Jy (C:Code tab) (hw:Wf H) {a b:AV} {x y:Nat} (ha:cd H a x) (hb:cd H b y) (hx:Sm x) (hy:Sm y) (h0:0<y) :
  Ans tab (.fn wQ [a,b]) H fun v H'=>∃ q r,v=.tup [q,r,.int .i64 0]/\cd H' q (x / y)/\cd H' r (x % y)/\Kp H H':=by
 refine bC C.q158 zU fun T hl j p=>?_;refine zW (aB hl j p) ?_;refine AnsH.eq (FT C zF (ha.mono (Sub.bump H _)) (hb.mono (Sub.bump H _)) hx hy h0) fun H2 bA=>?_;obtain ⟨k2,_,w2⟩:=zT H zK bA;have n2:=k2.le;have aX:=ha.mono k2.sub;have aZ:=hb.mono k2.sub;have bY:=hx;have bZ:=hy;unfold Sm at bY bZ;have ck:=(b7 y).2 zO;by_cases h1:(ag y).length=1
 ·obtain ⟨ba,b0⟩:=Ld h1;have a1:lenV b=some (.int .i64 1):=by have:=hb.lenV; rw [h1] at this; exact this
  have aG:=SlV.idx1 hb .i64 0 zO;have ah:=fI aZ (i:=0) zO;rw [b0] at ah;have bz:cL 1 b (.int .i64 0)=some (aq b 0):=aG;refine zW (eF hl j p a1 bz ah) ?_;refine AnsH.use (Ox C zF (aX.mono (Sub.bump H2 _)) hx h0 ba) ?_;rintro v H3 ⟨q,rfl,hq,ad⟩;obtain ⟨k3,_,w3⟩:=zT H zK ad;refine zW (aB hl j p) ?_;refine AnsH.use (Hz C zF (Zp (Wm x h0) ba)) ?_;rintro v H4 ⟨h4,-,ar⟩;obtain ⟨k4,_,_⟩:=zT H zK ar;refine zW (aB hl j p) ?_;exact ⟨q,v,rfl,hq.mono (Kp.sub (H:=H3) (Kp.trans zK ar)),h4,zK⟩
 ·obtain ⟨m,hm⟩:∃ m,(ag y).length=m+2:=⟨(ag y).length-2,zO⟩
  have bL:¬ ((m+2:Nat):Int)=1:=zO;have aF:lenV b=some (.int .i64 ((m+2:Nat):Int)):=by have:=hb.lenV; rwa [hm] at this
  obtain ⟨f,aJ⟩:∃ f,(ag x).length=f:=⟨_,rfl⟩
  have aY:lenV a=some (.int .i64 (f:Int)):=by have:=ha.lenV; rwa [aJ] at this
  refine zW (eF hl j p aF aY bL) ?_;refine iteH.split (fun h2=>?_) fun h2=>?_
  ·have hlt:x<y:=DJ zO;refine zW (aB hl j p) ?_;refine AnsH.use (jK C zF (aX.mono (Sub.bump H2 _)) zO) ?_;rintro v H3 ⟨h3,ad⟩;obtain ⟨k3,_,_⟩:=zT H zK ad;refine zW (aB hl j p) ?_;rw [Xn hlt,Wd hlt];exact ⟨.nilSl,v,rfl,gZ _,h3,zK⟩
  ·obtain ⟨top,am⟩:∃ top,(ag y).getD (m+1) 0=top:=⟨_,rfl⟩
   have bT:top<18446744073709551616:=by rw [<- am]; exact (bF y).at _
   have bR:0<top:=by
    rw [<- am,iQ];have h3:=Fu (y:=y) (n:=m+1) (by rw [hm]);have h4:=iw y;rw [hm] at h4;have h5:y / B^(m+1)<B:=by
     apply (VQ (Wb zU)).2
     rw [VG,<- V5]; exact h4
    rw [Wd h5];exact Nat.div_pos h3 (Wb zU)
   have aG:=SlV.idx1 hb .i64 (m+1) zO;have ah:=fI aZ (i:=m+1) zO;rw [am] at ah;have bU:IntKind.i64.wrap (((m+2:Nat):Int)-1)=((m+1:Nat):Int):=by rw [wrap_i64] <;> omega
   refine zW (gS hl j p aF bU aG ah) ?_;refine AnsH.use (CN C zF bR bT) ?_;rintro v H3 ⟨⟨z,rfl,hz,bc,bd⟩,ad⟩;obtain ⟨k3,_,w3⟩:=zT H zK ad;obtain ⟨az,Y,ao⟩:=Hv hm am hz bc bd;have Z:=EN (k:=f-(m+1)) aJ hz ao zO;refine zW (aB hl j p) ?_;refine AnsH.use (NQ C zF (ha.mono (zG H)) hx zO) ?_;rintro v H4 ⟨o1,rfl,bH,ar,b1,E1,rfl,aD,bw,a2,-⟩;obtain ⟨k4,_,w4⟩:=zT H zK ar;refine zW (aB hl j p) ?_;refine AnsH.use (NQ C zF (hb.mono (zG H)) hy zO) ?_;rintro v J ⟨o2,rfl,bJ,aI,t,E2,rfl,aE,bx,-,a3⟩;obtain ⟨k5,_,w5⟩:=zT H zK aI;obtain ⟨V,eV⟩:∃ V,y*2^z=V:=⟨_,rfl⟩
   obtain ⟨X,eX⟩:∃ X,x*2^z=X:=⟨_,rfl⟩
   rw [eV] at az Y ao Z bJ aE a3;rw [eX] at Z bH aD a2;rw [eX,eV,Y];have b3:z / 64=0:=Xn hz;obtain ⟨n1,ay⟩:∃ n1,(ag X).length=n1:=⟨_,rfl⟩
   rw [aJ,b3,VC,ay] at a2;rw [ay];have c1:=aI.get aD;have a6:IntKind.i64.wrap ((f:Int)+1)=((f+1:Nat):Int):=by rw [wrap_i64] <;> omega
   have a7:IntKind.i64.wrap (((f+1:Nat):Int)-(n1:Int))=((E1.length:Nat):Int):=by rw [wrap_i64] <;> omega
   obtain ⟨e,cf⟩:∃ e,f-(m+2)+1=e:=⟨_,rfl⟩
   have a8:IntKind.i64.wrap ((f:Int)-((m+2:Nat):Int))=((f-(m+2):Nat):Int):=by rw [wrap_i64] <;> omega
   have a9:IntKind.i64.wrap (((f-(m+2):Nat):Int)+1)=(e:Int):=by rw [wrap_i64] <;> omega
   have bG:∀ H' id,I8 H' id ae 1 8 [.int .u64 0] (.int .i64 (e:Int)) (.int .i64 (e:Int))=some (.own id 0 e e 1 true,H'.put id (.cells (aL (List.replicate e 0)) ae true)):=fun H' id =>
    (jd H' id ae 1 8 [.int .u64 0] .i64 .i64 e zO zO rfl).trans (by rw [mH])
   obtain ⟨k5,_,_⟩:=zT H zK aI;obtain ⟨rb,x1,R,S,e6,hR,lR,vR,limR,aK,bK,bQ,bB⟩:=OV (H:=J.up 12) (id:=J.next+7) (b:=b1) (E:=E1) (m:=E1.length) (M:=f+1) (l:=ag X) (n:=n1) c1 ay rfl zO zO (w5.fresh (b:=J.next+7) zO) (bF X);have k6:Kp H S:=bB H (k5.up 12) (by have:=k5.le; omega) (by show _<J.next+12; omega);have cm:=k6.le;have w6:=k6.wf;have ci:S.next=J.next+12:=bK
   have c2:S.get t=some (.cells (aL (ag V++E2)) ae true):=bQ _ _ aE;have cn:=k4.wf _ _ aD;have co:=k5.wf _ _ aE;have cq:=k5.le;have cp:H4.next<=t:=VB (VV _ _) bx
   have hne:rb≠t:=by
    rcases aK with h | h <;> omega
   have a5:H.next<=rb:=by
    have q1:H3.next<=b1:=VB (VV _ _) bw
    have q2:=k3.le;rcases aK with h | h <;> omega
   have cs:=k6.wf _ _ hR;simp -dsimp (maxSteps:=1000000) (disch:=(first | omega | assumption | exact aH _ | exact aT _ _ | exact bf | exact bS _ _ _ | exact bk _ _ | exact bj _ _ _ _ _ _ | exact bX _ _ | exact bp _)) only [↓qh,qg,Nat.reduceLT,Nat.reduceEqDiff,Nat.reduceAdd,reduceIte,reduceCtorEq,Nat.reduceBEq,Int.reduceEq,Int.reduceLT,Int.reduceLE,Int.reduceAdd,Int.reduceSub,hl,j,p,aY,aF,a6,a7,↓IE,e6,a8,a9,bG];obtain ⟨d,ed⟩:∃ d,J.next+10=d:=⟨_,rfl⟩
   obtain ⟨g,eq⟩:∃ g,S.next+6=g:=⟨_,rfl⟩
   simp only [ed,eq];have D0:Dv (((S.up 12).put d (.cells [.own rb 0 (f+1) (f+1) 1 x1,.own t 0 (m+2) (m+2) 1 true] fT true)).put g (.cells (aL (List.replicate e 0)) ae true)) d rb t (f+1) (m+2) x1 R (ag V++E2):=by
    have z1:d≠rb:=by rcases aK with h | h <;> omega
    refine ⟨?_,?_,?_,lR,by rw [VC,Y]; omega,hne,limR,?_⟩
    ·exact da
    ·exact zV hR
    ·exact zV @c2
    ·exact a3
   obtain ⟨L,eL⟩:∃ L,ag V++E2=L:=⟨_,rfl⟩
   have bn:∀ i,i<m+2->L.getD i 0=V / B^i % B:=fun i hi=>by
    rw [<- eL,Vh,VT zO,<- Vh,iQ]
   have aW:val (L.take (m+2))=V:=by
    rw [<- eL,YO Y,bI]
   rw [eL] at D0;have hV0:0<V:=VF (ZM zU (Wb zU)) ao;have bm:DivI X V e (List.replicate e 0) R:=⟨by rw [fS,Yb,V3,vR,bI],by
    rw [vR,bI]
    have:f-(m+1)=e:=zO
    rw [this] at Z; exact Z,fun i _=>by simp [Vh,Wj]; split <;> rfl⟩
   have bt:d≠g:=zO;have aM:rb≠g:=zO;have bs:t≠g:=zO;have cj:H.next<=g:=zO
   clear bc bd ao Z a6 a7 a8 a9;refine lM H [16] (fun k vs H'=>vs=[.int .i64 ((k:Int)-1)]/\k<=e/\∃ (Q R:List Nat),H'.get g=some (.cells (aL Q) ae true)/\Q.length=e/\Lim Q/\Dv H' d rb t (f+1) (m+2) x1 R L/\DivI X V k Q R)
    (fun vs H'=>∃ (Q R:List Nat),H'.get g=some (.cells (aL Q) ae true)/\Q.length=e/\Lim Q/\Dv H' d rb t (f+1) (m+2) x1 R L/\DivI X V 0 Q R) e (by simp only [Vg]; exact hl) rfl zK ⟨?_,Vo _,_,R,ap _ _ _,by simp,Lim.replicate e,D0,bm⟩ ?_ ?_
   ·have bW:IntKind.i64.wrap ((e:Int)-1)=(e:Int)-1:=by rw [wrap_i64] <;> omega
    exact zV (aV hl j p bW)
   ·rintro k T1 bi s K ab ⟨w,cg,Q,R,hQ,lQ,av,D,I⟩;simp only [Vq,Vw,Vv,and_true] at w;have w1:=ab.wf;have b6:=ab.le;have t4:aa T1 4=.own g 0 e e 1 true:=(K.at_ 4 zU).trans (zV (aB hl j p));have N:aa T1 15=.ptr d 0:=(K.at_ 15 zU).trans (zV (aB hl j p));cases k with
    | zero =>
     have bM:¬ (0:Int)<=((0:Nat):Int)-1:=zO;refine zW (aB s w bM) ?_;exact ⟨zK,Q,R,hQ,lQ,av,D.up _,I⟩
    | succ a =>
     have hz:((a+1:Nat):Int)-1=(a:Int):=zO;rw [hz] at w;have bN:(0:Int)<=(a:Int):=zO;have aC:a+(m+2)<f+1:=zO;refine zW (aV s w bN N) ?_;refine AnsH.use (LF C zF (D.up _) aC zO (I.guess az D.limR hV0 bn)) ?_;rintro v A ⟨q,rfl,G,hge,F⟩;have aP:Kp H A:=Kp.trans zK F;have cb:=aP.wf;have D2:=(D.up 6).kp F;have bo:A.get g=some (.cells (aL Q) ae true):=F.get hQ;have b4:=I.zeros az D.limR;refine zW (aB s w N) ?_;refine AnsH.use (Ov C (H0:=H) zK (D2.up _) a5 aC zO G rfl (fun i hi=>b4 i zO)) ?_;rintro v P ⟨R1,l1,rfl,bE,D3,aN,cu,aQ,bu⟩;rw [aW] at aN;have cc:=aQ.wf;have bq:P.get g=some (.cells (aL Q) ae true):=bu _ _ (Ne.symm aM) bo;have S3:SubI (val R) V a (m+2) R1 q l1:=⟨aN,hge⟩
     clear aN hge;refine zW (aB s w N) ?_;refine lM H [17,18] (fun k vs H'=>∃ (q l:Nat) (R':List Nat),vs=[.int .u64 (q:Int),.bool (decide (0<l))]/\k=q/\l<=1/\q<B/\H'.get g=some (.cells (aL Q) ae true)/\Dv H' d rb t (f+1) (m+2) x1 R' L/\SubI (val R) V a (m+2) R' q l/\∀ i,a+(m+2)<i->R'.getD i 0=0)
      (fun vs H'=>∃ (q:Nat) (bb:AV) (R':List Nat),vs=[.int .u64 (q:Int),bb]/\q<B/\H'.get g=some (.cells (aL Q) ae true)/\Dv H' d rb t (f+1) (m+2) x1 R' L/\SubI (val R) V a (m+2) R' q 0) q (by simp only [Vg]; exact s) rfl zK ⟨q,l1,R1,by exact zV s,rfl,bE,G,bq,D3,S3,cu⟩ ?_ ?_
     ·rintro k T2 ax af ai u ⟨q,l,R',ak,bD,ch,G,W,O,U,bg⟩;obtain rfl:=bD.symm;simp only [Vq,Vw,Vv,and_true] at ak;obtain ⟨al,aS⟩:=ak;have ce:=u.wf;have b8:=u.le;have ca:aa T2 15=.ptr d 0:=(ai.at_ 15 zU).trans (zV (aA s N));have aR:aa T2 16=.int .i64 (a:Int):=(ai.at_ 16 zU).trans (zV (aA s w));rcases (show l=0\/l=1 by omega) with rfl | rfl
      ·have e0:decide (0<0)=false:=rfl;refine zW (aV af al aS e0) ?_;exact ⟨zK,q,_,R',rfl,G,W,O.up _,U⟩
      ·have e1:decide (0<1)=true:=rfl;have hlt:=qk (m:=a+(m+2)+1) O.limR (fun i hi=>bg i zO);have hq0:=U.pos hlt;have z1:=tx (a:=q) hq0 G;refine zW (gS af al aS e1 ca aR z1) ?_;refine AnsH.use (Ow C (H0:=H) zK (O.up _) a5 aC zO rfl bg) ?_;rintro v bl ⟨R2,c,rfl,hc,D5,aO,b2,b5,bv⟩;rw [aW] at aO;have ct:=b5.wf;have br:bl.get g=some (.cells (aL Q) ae true):=bv _ _ (Ne.symm aM) W;obtain ⟨-,S5⟩:=U.back hlt hV0 aO hc;clear aO;have ec:(!decide (0<c))=decide (0<1-c):=by
        rcases (show c=0\/c=1 by omega) with rfl | rfl <;> rfl
       refine zW (aV af al aS ec) ?_;exact ⟨zK,q-1,zO,q-1,1-c,R2,rfl,rfl,zO,zO,br,D5,S5,b2⟩
     ·rintro T2 ax af ai u ⟨q,bb,R',ak,G,W,O,U⟩;simp only [Vq,Vw,Vv,and_true] at ak;obtain ⟨al,-⟩:=ak;have ce:=u.wf;have b8:=u.le;have u4:aa T2 4=.own g 0 e e 1 true:=(ai.at_ 4 zU).trans (zV (aA s t4));have aR:aa T2 16=.int .i64 (a:Int):=(ai.at_ 16 zU).trans (zV (aA s w));have bV:IntKind.i64.wrap ((a:Int)-1)=(a:Int)-1:=by rw [wrap_i64] <;> omega
      have cr:=u.wf _ _ W;have I2:=I.next U hV0 zO
      refine zW (eF af u4 aR al W bV) ?_;exact ⟨zK,a,zO,rfl,zO,_,R',rfl,by simp [lQ],ke av G,(O.up _).put bt aM bs,I2⟩
   ·rintro T1 bi s K ab ⟨Q,R',hQ,lQ,av,D,I⟩;have w1:=ab.wf;have b6:=ab.le;have t4:aa T1 4=.own g 0 e e 1 true:=(K.at_ 4 zU).trans (zV (aB hl j p));have N:aa T1 15=.ptr d 0:=(K.at_ 15 zU).trans (zV (aB hl j p));have b9:aa T1 10=.int .i64 (z:Int):=(K.at_ 10 zU).trans (zV (aB hl j p));have a1:(ag (val R')).length<=m+2:=by
     have h:=I.lt;rw [Yt,WT] at h
     have:=Ap (Xe h)
     rwa [Y] at this
    have bh:0<2^z:=Wb zU;rw [<- eX,<- eV] at I;obtain ⟨f1,f2⟩:=I.fin bh;have hd1:=D.hd;refine zW (aB s N hd1) ?_;refine AnsH.eq (pK C zF (rw':=true) D.lr D.hr zO) fun A F=>?_;have aP:Kp H A:=Kp.trans zK F;have cb:=aP.wf;have bP:A.get rb=some (.cells (aL R') ae true):=F.get D.hr;have bO:A.get g=some (.cells (aL Q) ae true):=F.get hQ;obtain ⟨E,hE⟩:=rQ R';rw [eS D.limR] at hE ⊢;have hn:cd A (.own rb 0 (ag (val R')).length (ag (val R')).length 1 true) (val R'):=Dr (rw':=true) (E:=E) (by rw [<- hE]; exact bP);refine zW (aA s b9) ?_;refine AnsH.use (NR C zF hn (by unfold Sm; omega) zO) ?_;rintro v P ⟨o,rfl,ho,a0⟩;have aQ:Kp H P:=Kp.trans zK a0;have cc:=aQ.wf;have a4:P.get g=some (.cells (aL Q) ae true):=a0.get bO;rw [f2,Nat.mul_div_cancel _ bh] at ho;refine zW (aA s t4) ?_;refine AnsH.eq (pK C zF (rw':=true) lQ a4 zO) fun ax u=>?_;have cl:Kp H ax:=Kp.trans zK u;obtain ⟨E',aU⟩:=rQ Q;rw [eS av,f1] at aU ⊢;refine zW s ?_;refine ⟨_,o,rfl,Dr (rw':=true) (E:=E') ?_,ho.mono (Kp.sub (H:=P) (Kp.trans zK u)),zK⟩;rw [<- aU];exact u.get a4
def PR {x y:Int} (h:y≠0):(if (decide ((x<0)≠(y<0)))=true then -((x.natAbs / y.natAbs:Nat):Int) else ((x.natAbs / y.natAbs:Nat):Int))=x.tdiv y:=by
 have key:∀ z:Int,z<0->∃ n:Nat,z = -(n:Int):=fun z a=>⟨z.natAbs,zO⟩
 rcases Int.lt_or_le x 0 with h1 | h1 <;> rcases Int.lt_or_le y 0 with h2 | h2
 ·have e:decide ((x<0)≠(y<0))=false:=by simp [h1,h2]
  obtain ⟨n,rfl⟩:=key x h1;obtain ⟨m,rfl⟩:=key y h2;rw [e];simp [Int.neg_tdiv,Int.tdiv_neg,ZA]
 ·have e:decide ((x<0)≠(y<0))=true:=by simp [h1]; omega
  obtain ⟨n,rfl⟩:=key x h1;obtain ⟨m,rfl⟩:=Yl h2;rw [e];simp [Int.neg_tdiv,ZA]
 ·have e:decide ((x<0)≠(y<0))=true:=by simp [h2]; omega
  obtain ⟨n,rfl⟩:=Yl h1;obtain ⟨m,rfl⟩:=key y h2;rw [e];simp [Int.tdiv_neg,ZA]
 ·have e:decide ((x<0)≠(y<0))=false:=by
   have:¬ x<0:=zO
   have:¬ y<0:=zO
   simp [*]
  obtain ⟨n,rfl⟩:=Yl h1;obtain ⟨m,rfl⟩:=Yl h2;rw [e];simp [ZA]
def P2 (n:Nat):decide (0<(ag n).length)=decide (n≠0):=by
 have:=b7 n
 congr 1;simp only [eq_iff_iff];omega
def RQ (a b c d:Option AV):Option AV:=a.bind fun a=>b.bind fun b=>c.bind fun c=>d.bind fun d=>some (.tup [a,b,c,d])
theorem Kl (a b c d:AV):RQ (some a) (some b) (some c) (some d)=some (.tup [a,b,c,d]):=rfl
def PY (T:Tm) (H:Heap) (r s t u:Nat) (k l m n:Option (Option Nat)):cr T H [(r,k),(s,l),(t,m),(u,n)]=RQ (uE H (aa T r) k) (uE H (aa T s) l) (uE H (aa T t) m) (uE H (aa T u) n):=by
 show (List.mapM (oH T H) [(r,k),(s,l),(t,m),(u,n)]).bind _=_;rw [<- j9 T H (r,k),<- j9 T H (s,l),<- j9 T H (t,m),<- j9 T H (u,n)];simp only [WY,ZR,RQ];cases oH T H (r,k) <;> cases oH T H (s,l) <;> cases oH T H (t,m) <;> cases oH T H (u,n) <;> rfl
def Se (x y:Int):(!(decide (x<0) == decide (y<0)))=decide ((x<0)≠(y<0)):=by
 by_cases h1:x<0 <;> by_cases h2:y<0 <;> simp [h1,h2]
def za (C:Code tab) (N:Wf H) {a b:AV} {x y:Int} (ha:IntV H a x) (hb:IntV H b y) (hx:eR x) (hy:eR y) (h0:y≠0) :
  Ans tab (.fn jP [a,b]) H fun v H'=>∃ q,v=.tup [q,.bool (decide (x.natAbs % y.natAbs≠0)),.bool (decide ((x<0)≠(y<0))),.int .i64 0]/\IntV H' q (x.tdiv y)/\Kp H H':=by
 obtain ⟨p,rfl,hp⟩:=ha;obtain ⟨q,rfl,l⟩:=hb;have op:=hp.one;have R:=l.one;refine bC C.q159 zU fun T hl c d=>?_;refine zW (aB hl c d) ?_;refine AnsH.eq (gV C zF (Jd (x:=x) (y:=y) (H:=H) hp l (zG H) (by refine uo ?_; rfl)) (by simp) fun z A=>?_) fun H2 f=>?_
 ·simp at A; rcases A with rfl | rfl <;> assumption
 obtain ⟨k2,_,S⟩:=zT H zK f;have b0:=f.get (b:=H.next) (e:=.cells [.bool (decide (x<0)),p] ad true) (da);have s:=f.get (b:=H.next+1) (e:=.cells [.bool (decide (y<0)),q] ad true) (da);have E:=f.get (b:=H.next+2) (e:=.cells [.bool false,.nilSl] ad true) (da);refine zW (cp hl c d @b0 s) ?_;refine AnsH.use (Jy C zF (hp.mono (zG H)) (l.mono (zG H)) hx hy zO) ?_;rintro v D ⟨o,r,rfl,i,hr,g⟩;obtain ⟨O,_,U⟩:=zT H zK g;have F:=g.get (b:=H.next) b0;have G:=g.get (b:=H.next+1) s;have I:=g.get (b:=H.next+2) E;obtain ⟨B,k⟩:∃ B,B=decide ((x<0)≠(y<0)):=⟨_,rfl⟩
 obtain ⟨rb,m⟩:∃ rb,rb=decide (x.natAbs % y.natAbs≠0):=⟨_,rfl⟩
 obtain ⟨M,t⟩:∃ n,n=x.natAbs / y.natAbs:=⟨_,rfl⟩
 obtain ⟨Rn,j⟩:∃ n,n=x.natAbs % y.natAbs:=⟨_,rfl⟩
 have hne:=Se x y;rw [<- k] at hne;rw [<- t] at i;rw [<- j] at hr;have u:=P2 Rn;have w:=PR (x:=x) h0;rw [<- k,<- t] at w;rw [<- j] at m;rw [<- m] at u;rw [<- j,<- m,<- k];refine zW (eF hl c d F @G hne) ?_;refine AnsH.use (fu C zF (i.mono (zG D)) _) ?_;rintro v4 L ⟨rfl,h⟩;obtain ⟨K,_,_⟩:=zT H zK h;have Q:=i.one;have d2:=h.get (b:=H.next+2) I;have P:=K.wf _ _ d2;have J:=hr.mono h.sub;refine zW (jY hl c d d2 J.lenV u @PY @Kl) ?_;refine ⟨_,rfl,?_,zK⟩;rw [<- w];exact oP _ ((i.mono h.sub).monoT (SubT.put_ty d2 zU))
theorem Ub (a b c d:AV) (l:List AV):FK 3 (.tup (a :: b :: c :: d :: l))=some d:=rfl
def EA (C:Code tab) (l:Wf H) {a b:AV} {x y:Int} (ha:IntV H a x) (hb:IntV H b y) (hx:eR x) (hy:eR y) (h0:y≠0) (hd:x.natAbs % y.natAbs=0) :
  Ans tab (.fn nL [a,b]) H fun v H'=>∃ q,v=.tup [q,.int .i64 0]/\IntV H' q (x.tdiv y)/\Kp H H':=by
 obtain ⟨p,rfl,hp⟩:=ha;obtain ⟨q,rfl,h⟩:=hb;have op:=hp.one;have t:=h.one;refine bC C.q145 zU fun T hl f g=>?_;refine zW (aB hl f g) ?_;refine AnsH.use (za C zF ⟨p,rfl,hp.mono (zG H)⟩ ⟨q,rfl,h.mono (zG H)⟩ hx hy h0) ?_;rintro v c ⟨w,rfl,⟨r,rfl,hr⟩,d⟩;obtain ⟨i,_,u⟩:=zT H zK d;have s:=hr.one;have k:decide (x.natAbs % y.natAbs≠0)=false:=by simp [hd]
 rw [k];have d2:=d.get (b:=H.next+2) (e:=.cells [.bool false,.nilSl] ad true) (da);have m:=i.wf _ _ d2;have n:H.next+17<=c.next:=d.le
 have f3:c.get (H.next+12)=none:=d.free (show _<H.next+17 by omega) (by rw [al zO,al zO,al zO]; exact l.fresh (b:=H.next+12) zO);refine zW (cp hl f g d2 @Ub) ?_;have s3:Sub (c.up 8) (((c.up 8).put (H.next+12) (Ent.cells [AV.bool false,AV.nilSl] ad true)).put (H.next+12) (Ent.cells [AV.bool (decide (x.tdiv y<0)),r] ad true)):=(aX (H:=c.up 8) f3).put f3 _;have j:=(hr.mono (Sub.bump c 8)).mono s3;have d3:(((c.up 8).put (H.next+12) (Ent.cells [AV.bool false,AV.nilSl] ad true)).put (H.next+12) (Ent.cells [AV.bool (decide (x.tdiv y<0)),r] ad true)).get (H.next+2)=some (.cells [.bool false,.nilSl] ad true):=by exact zV d2
 refine ⟨_,rfl,⟨r,rfl,j.monoT (SubT.put_ty d3 zU)⟩,?_⟩;have o:c.next<=(c.up 8).next:=VV _ _
 refine ((((i.up 8).put ?_ ?_).put ?_ ?_).put ?_ ?_)
 all_goals (first | omega | (simp only [next_put]; omega))
def Qv (C:Code tab) (S:Wf H) {a b:AV} {x y:Nat} (ha:cd H a x) (hb:cd H b y) (hx:Sm x) (hy:Sm y) :
  Ans tab (.fn wP [a,b]) H fun v H'=>∃ r,v=.tup [r,.int .i64 0]/\cd H' r (Nat.gcd x y)/\Kp H H':=by
 have Q:=ha.one;have R:=hb.one;refine bC C.q144 zU fun T hl q s=>?_;refine zW (aB hl q s) ?_;refine AnsH.eq (AB C zF (BF (H:=H) ha hb (zG H) (by refine uo ?_; rfl)) (by simp) fun c hc=>?_) fun H2 D=>?_
 ·unfold Sm at hx hy;simp at hc; rcases hc with rfl | rfl
  ·exact ⟨zO,(dG _)⟩
  ·exact ⟨zO,(dG _)⟩
 obtain ⟨k2,_,X⟩:=zT H zK D;refine zW (aB hl q s) ?_;refine lM H2 [0,1] (fun k vs H'=>∃ a' b' f d,vs=[a',b']/\cd H' a' f/\cd H' b' d/\Sm f/\Sm d/\Nat.gcd f d=Nat.gcd x y/\k=d) (fun vs H'=>∃ a' b',vs=[a',b']/\cd H' a' (Nat.gcd x y)/\Sm (Nat.gcd x y)) y (by simp only [Vg,hl]; rfl) rfl zK ⟨a,b,x,y,by exact zV (aB hl q s),ha.mono k2.sub,hb.mono k2.sub,hx,hy,rfl,rfl⟩ ?_ ?_
 ·rintro k T1 e i F g ⟨a',b',f,d,j,m,p,w,t,hg,N⟩;have w1:=g.wf;have J:=g.le;have W:=p.one;simp only [Vq,Vw,Vv,and_true] at j;obtain ⟨v0,v1⟩:=j;have O:=b7 d;refine zW (aV i v0 v1 p.lenV) ?_;refine iteH.split (fun h=>?_) fun h=>?_
  ·refine zW (aB i v0 v1) ?_;refine AnsH.use (Jy C zF (m.mono (zG e)) (p.mono (zG e)) w t zO) ?_;rintro v M ⟨o,r,rfl,P,hr,u⟩;obtain ⟨U,_,Y⟩:=zT H2 zK u;refine zW (aB i v0 v1) ?_;have hlt:f % d<d:=Wm _ zO;refine ⟨zK,f % d,zO,_,_,d,f % d,rfl,p.mono u.sub,hr,t,Sm.mono (Xe hlt) t,?_,rfl⟩;rw [<- hg,Nat.gcd_comm f d,Nat.gcd_rec d f,Nat.gcd_comm]
  ·refine zW (aB i v0 v1) ?_;refine ⟨zK,_,_,rfl,?_⟩;have B:d=0:=zO;rw [B,Nat.gcd_zero_right] at hg;rw [<- hg];exact ⟨m.mono (zG e),w⟩
 ·rintro T1 e i F g ⟨a',b',j,m,K⟩;have w1:=g.wf;have J:=g.le;simp only [Vq,Vw,Vv,and_true] at j;obtain ⟨v0,v1⟩:=j;unfold Sm at K;have G:SlV (bY cB) ae (e.up 4) a' (ag (Nat.gcd x y)):=m.mono (Sub.bump e 4);obtain ⟨L,z,e1,h2,I,V,-,-⟩:=Bl.app (E:=bY cB) (ty:=ae) (bytes:=8) (id:=e.next+1) (H0:=e) (H:=e.up 4) (v:=.nilSl) (l:=[]) (.inl ⟨rfl,rfl⟩) zU zK G zO (by refine uo ?_; omega) (w1.fresh (b:=e.next+1) zO) (fun b n h=>by cases h) (by simp; omega) (by simp; omega);have A:dr (e.up 4) (e.next+1) 1 8 ae .nilSl a'=some (L,z):=e1;refine zW (aB i v0 A) ?_;exact ⟨_,rfl,Bl.sl h2,Kp.trans (Kp.trans k2 g) I⟩
end
section
variable {tab:Nat->Option au} {H:Heap} {s:AV}
def rawE:fO (Bool × List Nat) where
 sz:=2
 tys:=[ae]
 R H cs z:=∃ v,cs=[.bool z.1,v]/\Lb H v z.2
 pos:=zO
 len:=by rintro H cs z ⟨v,rfl,h⟩; exact ⟨rfl,by simp [h.one.2]; rfl⟩
 mono:=by rintro H H' cs z hs ⟨v,rfl,h⟩; exact ⟨v,rfl,h.monoT hs⟩
def rJ (z:Bool × List Nat):Bool:=decide (z.2.getLast? = some 0) || (z.1 && decide (z.2.length=0))
def EB (C:Code tab) (g:Wf H) {b:Bool} {l:List Nat} {w:AV} (hn:Lb H w l) (f:l.length<4611686018427387904):Ans tab (.fn ka [.agg [.bool b,w]]) H fun v H'=>v=.int .i64 (if rJ (b,l) then 8 else 0)/\Kp H H':=by
 have j:=hn.one;refine dg C.q85 zU fun T hl a=>?_;refine zW (aA hl a) ?_;have k1:Kp H ((H.up 16).put H.next (.cells [.bool b,w] ad true)):=zK;have i:=k1.le;refine AnsH.eq (oM C k1.wf (hn.mono k1.sub) f) fun H2 d=>?_;have k2:=k1.trans d;have b0:H2.get H.next=some (.cells [.bool b,w] ad true):=d.get (ap _ _ _)
 by_cases c:l.getLast? = some 0
 ·rw [if_pos c];refine zW (aB hl a @b0) ?_;exact ⟨by simp [rJ,c],zK⟩
 ·rw [if_neg c];cases b with
  | false =>
   refine zW (aB hl a @b0) ?_;exact ⟨by simp [rJ,c],zK⟩
  | true =>
   refine zW (aV hl a @b0 hn.lenV) ?_;refine iteH.split (fun h=>?_) fun h=>?_
   ·have e:l=[]:=VZ zO;refine zW (aA hl a) ?_;exact ⟨by simp [rJ,c,e],zK⟩
   ·have e:l≠[]:=fun e=>h (by rw [e]; rfl);refine zW (aA hl a) ?_;exact ⟨by simp [rJ,c,e],zK⟩
def np {α:Type} (p:α->Bool) (l:List α):Int:=match l.findIdx? p with
 | some i=>(i:Int)
 | none=>-1
def se {α:Type} {p:α->Bool} {l:List α} {j:Nat} (hj:j<l.length) (h0:∀ k (h:k<l.length),k<j->p l[k]=false) (h1:p l[j]=true):np p l=(j:Int):=by
 have:l.findIdx? p=some j:=by
  rw [Wi];exact ⟨hj,h1,fun k a=>by rw [h0 k zO a]; simp⟩
 simp [np,this]
def pH {α:Type} {p:α->Bool} {l:List α} (h0:∀ k (h:k<l.length),p l[k]=false):np p l = -1:=by
 have:l.findIdx? p=none:=by
  rw [XL];intro x hx;obtain ⟨k,a,rfl⟩:=WF hx;exact h0 k a
 simp [np,this]
def sf {α:Type} (p:α->Bool) (l:List α):decide (np p l ≥ 0)=l.any p:=by
 cases h:l.findIdx? p with
 | none =>
  have:l.any p=false:=by
   rw [XL] at h;rw [WU]; intro x hx; simp [h x hx]
  simp [np,h,this]
 | some i =>
  have:l.any p=true:=by
   rw [Wi] at h;obtain ⟨hi,h1,-⟩:=h;rw [VY]; exact ⟨_,Vm hi,h1⟩
  simp [np,h,this]
def BO (C:Code tab) (z:Wf H) {α:Type} {E:fO α} {ty fi:Nat} {first caps:List AV} {l:List α} (q:E.sz=2) (hs:SlV E ty H s l) (w:l.length<4611686018427387904) (p:α->Bool)
  (r:∀ a∈l,∀ H' cs,Kp H H'->E.R H' cs a->Ans tab (.fn fi (first++[.agg cs]++caps)) H' fun v H2=>v=.bool (p a)/\Kp H' H2) :
  Ans tab (.fn cG [s,.fn (.func fi) first caps]) H fun v H'=>v=.int .i64 (np p l)/\Kp H H':=by
 refine bC C.q109 zU fun T hl c d=>?_;refine zW (aV hl c d hs.lenV) ?_;refine am H [] (fun j _ _=>∀ k (h:k<l.length),k<j->p l[k]=false) (a:=0) (N:=l.length) rfl (by refine zW (aB hl c d) ?_; rfl) (zV (aB hl c d)) (Vz _) zO (by simp only [Vg,hl]; rfl) rfl (fun _ _ _ _ h=>h) zK (fun k _ h=>by omega) ?_ ?_
 ·intro j T1 m _ hj b t i g f;have w1:=g.wf;have A:=g.le;have t0:aa T1 0=s:=(i.at_ 0 zU).trans (zV (aA hl c));have t1:aa T1 1=.fn (.func fi) first caps:=(i.at_ 1 zU).trans (zV (aV hl c d d))
  obtain ⟨cs,hr,y,-,o⟩:=(hs.mono g.sub).at (Vk hj);have n:=SlV.idx hs .i64 j hj;rw [q] at o n;simp only [Vg,hl] at b;refine zW (eF b t0 t1 t n o) ?_;refine AnsH.eq (r _ (Vm hj) _ cs zK (E.mono ((zG m).t _) hr)) fun H2 u=>?_;obtain ⟨k2,_,_⟩:=zT H zK u;cases hp:p l[j] with
  | true =>
   refine zW b ?_;exact ⟨by rw [se hj f hp],zK⟩
  | false =>
   refine zW b ?_;refine ⟨zK,fun k h x=>?_⟩;by_cases e:k=j
   ·subst e; exact hp
   ·exact f k h zO
 ·intro T1 m b i g f;simp only [Vg,hl] at b;refine zW b ?_;exact ⟨by rw [pH fun k h=>f k h h],zK⟩
def xE (C:Code tab) (i:Wf H) {α:Type} {E:fO α} {ty fi:Nat} {first caps:List AV} {l:List α} (d:E.sz=2) (hs:SlV E ty H s l) (e:l.length<4611686018427387904) (p:α->Bool)
  (f:∀ a∈l,∀ H' cs,Kp H H'->E.R H' cs a->Ans tab (.fn fi (first++[.agg cs]++caps)) H' fun v H2=>v=.bool (p a)/\Kp H' H2) :
  Ans tab (.fn co [s,.fn (.func fi) first caps]) H fun v H'=>v=.bool (l.any p)/\Kp H H':=by
 refine bC C.q94 zU fun T hl b c=>?_;refine zW (aB hl b c) ?_;refine AnsH.eq (BO C zF d (hs.mono (zG H)) e p fun a ha H' cs g hr=>f a ha H' cs (Kp.trans (H:=H) zK g) hr) fun H2 h=>?_;obtain ⟨k2,_,_⟩:=zT H zK h;refine zW (aB hl b c) ?_;exact ⟨by rw [sf],zK⟩
def C6 (C:Code tab) (f:Wf H) {cs:List AV} {z:Bool × List Nat} (e:rawE.R H cs z) (c:z.2.length<4611686018427387904) :
  Ans tab (.fn my [.agg cs]) H fun v H'=>v=.bool (rJ z)/\Kp H H':=by
 obtain ⟨w,rfl,hn⟩:=e;obtain ⟨b,l⟩:=z;have g:=hn.one;refine dg C.q95 zU fun T hl a=>?_;refine zW (aA hl a) ?_;refine AnsH.eq (EB C zF (hn.mono (zG H)) c) fun H2 d=>?_;obtain ⟨k2,_,_⟩:=zT H zK d;cases rJ (b,l) with
 | true =>
  rw [if_pos rfl];refine zW (aA hl a) ?_;exact zK
 | false =>
  rw [if_neg zU];refine zW (aA hl a) ?_;exact zK
def Bv (l:List (Bool × List Nat)):Bool:=decide (l.length<=64) && !l.any rJ
def xx (l:List (Bool × List Nat)):Prop:=l.length<4611686018427387904/\∀ z∈l,z.2.length<4611686018427387904
def rP (C:Code tab) (h:Wf H) {l:List (Bool × List Nat)} (hs:SlV rawE ad H s l) (d:xx l) :
  Ans tab (.fn nh [s]) H fun v H'=>v=.int .i64 (if Bv l then 0 else 8)/\Kp H H':=by
 refine dg C.q74 zU fun T hl b=>?_;by_cases c:l.length<=64
 ·have e:¬ (64:Int)<(l.length:Int):=zO;refine zW (aV hl b hs.lenV e) ?_;refine AnsH.eq (xE C zF rfl (hs.mono (zG H)) d.1 rJ fun a ha H' cs f hr=>C6 C f.wf hr (d.2 a ha)) fun H2 g=>?_;obtain ⟨k2,_,_⟩:=zT H zK g;cases ha:l.any rJ with
  | true =>
   refine zW (aA hl b) ?_;exact ⟨by simp only [Bv,ha]; simp,zK⟩
  | false =>
   refine zW (aA hl b) ?_;exact ⟨by simp only [Bv,ha]; simp [c],zK⟩
 ·have e:(64:Int)<(l.length:Int):=zO;refine zW (aV hl b hs.lenV e) ?_;exact ⟨by simp [Bv,c],zK⟩
end
def NoTy (tys:List Nat) (H:Heap) (b:Nat):Prop:=∀ cs t r,t∈tys->H.get b≠some (.cells cs t r)
def NoTy.none {tys:List Nat} {H:Heap} {b:Nat} (h:H.get b=none):NoTy tys H b:=fun cs t r _ e=>by rw [h] at e; cases e
def NoTy.ty {tys:List Nat} {H:Heap} {b ty:Nat} {cs:List AV} {r:Bool} (h:H.get b=some (.cells cs ty r)) (hn:ty ∉ tys):NoTy tys H b:=fun c t d a e=>by rw [h] at e; cases e; exact hn a
def NoTy.fresh {tys:List Nat} {H:Heap} {b:Nat} (a:Wf H) (h:H.next<=b):NoTy tys H b:=NoTy.none (a.fresh h)
def SubT.refl (tys:List Nat) (H:Heap):SubT tys H H:=fun _ _ _ _ _ h=>h
def SubT.upR {tys:List Nat} {H H':Heap} {m:Nat} (h:SubT tys H H'):SubT tys H (H'.up m):=h
def SubT.puts {tys:List Nat} {H H':Heap} {b:Nat} {e:Ent} (h:SubT tys H H') (hb:NoTy tys H b):SubT tys H (H'.put b e):=fun c cs t r a hc=>by
 rw [al (fun e1=>hb cs t r a (by rw [<- e1]; exact hc))]; exact h c cs t r a hc
def SubT.kills {tys:List Nat} {H H':Heap} {b:Nat} (h:SubT tys H H') (hb:NoTy tys H b):SubT tys H (H'.kill b):=fun c cs t r a hc=>by
 rw [cC (fun e1=>hb cs t r a (by rw [<- e1]; exact hc))]; exact h c cs t r a hc
def SubT.trans {tys:List Nat} {H H' H'':Heap} (h:SubT tys H H') (h':SubT tys H' H''):SubT tys H H'':=fun c cs t r a hc=>h' c cs t r a (h c cs t r a hc)
def zS {P:Prop} (h:P:=by repeat (first | assumption | exact SubT.refl _ _ | exact Sub.t (by assumption) _ | refine SubT.upR ?_ | refine SubT.puts ?_ (by first | assumption | exact NoTy.fresh (by assumption) zO) | refine SubT.kills ?_ (by first | assumption | exact NoTy.fresh (by assumption) zO))):P:=h
def IntV.monoT {H H':Heap} {v:AV} {z:Int} (hs:SubT [ae] H H') (h:IntV H v z):IntV H' v z:=by
 obtain ⟨w,rfl,h⟩:=h; exact ⟨w,rfl,SlV.monoT (E:=bY cB) hs h⟩
def Bt (e:Nat) (z:Int):Prop:=z.natAbs<2^e
def Bt.mono {e f:Nat} {z:Int} (h:Bt e z) (a:e<=f):Bt f z:=VF h (VW zU a)
def Bt.zero (e:Nat):Bt e 0:=Wb zU
def Bt.neg {e:Nat} {z:Int} (h:Bt e z):Bt e (-z):=by unfold Bt at *; rwa [Yk]
def Bt.mul {e f:Nat} {x y:Int} (h:Bt e x) (h':Bt f y):Bt (e+f) (x*y):=by
 unfold Bt at *;rw [YX,Wu];exact ZX h h'
def Bt.add {e f:Nat} {x y:Int} (h:Bt e x) (h':Bt f y):Bt (max e f+1) (x+y):=by
 have h1:=h.mono (Nat.le_max_left e f);have h2:=h'.mono (Nat.le_max_right e f);unfold Bt at *;rw [V5]
 have:=YY x y
 omega
def Bt.len {e:Nat} {z:Int} (h:Bt e z) (he:e<=8796093022208):(ag z.natAbs).length<274877906944:=by
 have h1:z.natAbs<B^(e / 64+1):=by
  have hb:B=2^64:=by decide
  rw [hb,<- YC];exact VF h (VW zU zO)
 have:=bo h1
 omega
def Bt.sm {e:Nat} {z:Int} (h:Bt e z) (he:e<=8796093022208):eR z:=by
 have:=h.len he
 unfold eR Sm; omega
def js:AV->Option Nat
 | .own b _ _ _ _ _=>some b
 | _=>none
def Fr (H:Heap) (v:AV):Prop:=∀ b,js v=some b->H.next<=b
abbrev RowV (H:Heap) (v:AV) (l:List Int):Prop:=SlV intE ad H v l
abbrev dS (H:Heap) (v:AV) (ls:List (List Int)):Prop:=yY (sO intE ad) af H v ls
def eO (z:Int):Bool × List Nat:=(decide (z<0),ag z.natAbs)
def SlV.raw {ty:Nat} {H:Heap} {v:AV} {l:List Int} (h:SlV intE ty H v l):SlV rawE ty H v (l.map eO):=by
 obtain ⟨cells,hr,c,hc,ha⟩:=h;refine ⟨cells,hr,c,by rw [hc,Vp]; rfl,fun i a hi=>?_⟩;rw [Wg] at hi;cases b:l[i]? with
 | none=>rw [b] at hi; cases hi
 | some z =>
  rw [b] at hi; cases hi;obtain ⟨w,h1,h2⟩:=ha i z b;exact ⟨w,h1,h2⟩
def Gk (z:Int):rJ (eO z)=false:=by
 have h1:¬ (ag z.natAbs).getLast? = some 0:=dG z.natAbs;have h2:=b7 z.natAbs;show (decide ((ag z.natAbs).getLast? = some 0) || (decide (z<0) && decide ((ag z.natAbs).length=0)))=false;rw [decide_eq_false h1,Zc];by_cases h:z<0
 ·have h3:¬ (ag z.natAbs).length=0:=by have:=h2.2 zO; omega
  rw [decide_eq_false h3,Bool.and_false]
 ·rw [decide_eq_false h,Bool.false_and]
section
variable {tab:Nat->Option au} {H:Heap} {s:AV}
def ux (C:Code tab) (c:Wf H) {l:List Int} (hs:RowV H s l) (b:l.length<=64) (d:∀ z∈l,eR z):Ans tab (.fn nh [s]) H fun v H'=>v=.int .i64 0/\Kp H H':=by
 refine (rP C c hs.raw ⟨by rw [Vp]; omega,fun z h=>?_⟩).mono fun v H' h=>?_
 ·rw [Vl] at h;obtain ⟨a,ha,rfl⟩:=h
  have:=d a ha
  unfold eR Sm at this;show (ag a.natAbs).length<_;omega
 ·have e:Bv (l.map eO)=true:=by
   simp only [Bv,Vp,List.any_map,VU,decide_eq_true_eq,Wy,WU];exact ⟨b,fun z _=>by simp [Gk]⟩
  rw [e,if_pos rfl] at h;exact h
def dD {ty:Nat} {ls:List (List Int)} (hs:yY (sO intE ad) ty H s ls) {i:Nat} (hi:i<ls.length):∃ w,RowV H w ls[i]/\aW H none (aq s i)=some w:=SlV.at1 hs (Vk hi)
def gB (C:Code tab) (L:Wf H) {ls:List (List Int)} {ty d:Nat} (hs:yY (sO intE ad) ty H s ls) (h0:0<ls.length) (K:ls.length<4611686018427387904) (hd:d<=64) (hc:∀ r∈ls,r.length=d/\∀ z∈r,eR z) :
  Ans tab (.fn nN [s]) H fun v H'=>v=.int .i64 0/\Kp H H':=by
 refine dg C.q84 zU fun T hl g=>?_;refine zW (aB hl g hs.lenV) ?_;refine am H [] (fun _ _ _=>True) (a:=0) (N:=ls.length) rfl (by refine zW (aA hl g) ?_; rfl) (zV (aA hl g)) (Vz _) zO (by simp only [Vg,hl]; rfl) rfl (fun _ _ _ _ h=>h) zK trivial ?_ ?_
 ·intro j T1 p _ hj b u m f _;have w1:=f.wf;have F:=f.le;have J:aa T1 8=s:=(m.at_ 8 zU).trans (zV (aA hl g));obtain ⟨w,hr,l⟩:=dD (hs.mono f.sub) hj;have k:=SlV.idx1 hs .i64 j hj;have t:=hc _ (Vm hj);simp only [Vg,hl] at b;refine zW (cp b J u k l) ?_;refine AnsH.eq (ux C zF (hr.mono (zG p)) zO t.2) fun H2 c=>?_;obtain ⟨k2,_,_⟩:=zT H zK c;refine zW b ?_;exact zK
 ·intro T1 p b m f _;have w1:=f.wf;have F:=f.le;have t0:aa T1 0=s:=(m.at_ 0 zU).trans (zV (aA hl g));obtain ⟨o,e,hr⟩:=hs.lo .i64 1 zO;have e':bW 1 s (some (.int .i64 1)) none none=some o:=e;have q:yY (sO intE ad) ty H o (ls.drop 1):=hr;simp only [Vg,hl] at b;refine zW (aV b t0 e' hr.lenV) ?_;refine am H [] (fun _ _ _=>True) (a:=0) (N:=(ls.drop 1).length) rfl (by refine zW b ?_; rfl) (zV b) (Vz _) (by simp; omega) (by simp only [Vg,b]; rfl) rfl (fun _ _ _ _ h=>h) zK trivial ?_ ?_
  ·intro j T2 H2 _ hj i x n c _;have O:=c.wf;have M:=c.le;have I:aa T2 21=o:=(n.at_ 21 zU).trans (zV b);have G:aa T2 0=s:=(n.at_ 0 zU).trans (zV (aA b t0));obtain ⟨w,D,l⟩:=dD (q.mono c.sub) hj;obtain ⟨w0,B,A⟩:=dD (hs.mono c.sub) h0;have k:=SlV.idx1 q .i64 j hj;have y:cL 1 s (.int .i64 0)=some (aq s 0):=SlV.idx1 hs .i64 0 h0;have l2:lenV w=some (.int .i64 (d:Int)):=by rw [D.lenV,(hc _ (X8 (Vm hj))).1]
   have E:lenV w0=some (.int .i64 (d:Int)):=by rw [B.lenV,(hc _ (Vm h0)).1]
   simp only [Vg,b] at i;refine zW (ur i I x k l G y A l2 E) ?_;exact zK
  ·intro T2 H2 i n c _;simp only [Vg,b] at i;refine zW i ?_;exact zK
def MuI (z:Int):Prop:=(ag z.natAbs).length<274877906944
def MuI.sm {z:Int} (h:MuI z):eR z:=by unfold MuI at h; unfold eR Sm; omega
def IG (C:Code tab) (i:Wf H) {a b:AV} {x y:Int} (ha:IntV H a x) (hb:IntV H b y) (hx:eR x) (hy:eR y):Ans tab (.fn wH [a,b]) H fun v H'=>IntV H' v (x+y)/\Kp H H':=by
 obtain ⟨p,rfl,hp⟩:=ha;obtain ⟨q,rfl,g⟩:=hb;have op:=hp.one;have l:=g.one;refine bC C.q89 zU fun T hl d f=>?_;refine zW (aB hl d f) ?_;refine AnsH.use (Kj C zF ⟨p,rfl,hp.mono (zG H)⟩ ⟨q,rfl,g.mono (zG H)⟩ hx hy) ?_;rintro v H2 ⟨r,rfl,⟨w,rfl,hr⟩,c⟩;obtain ⟨k2,_,n⟩:=zT H zK c;have m:=hr.one;have k:H.next+12<=H2.next:=c.le
 have d2:=c.get (b:=H.next+2) (e:=.cells [.bool false,.nilSl] ad true) (da);have h:H2.get (H.next+9)=none:=c.free (show _<H.next+12 by omega) (by rw [al zO,al zO,al zO]; exact i.fresh (b:=H.next+9) zO);have m2:NoTy [ae] H2 (H.next+2):=NoTy.ty d2 zU;have j:NoTy [ae] H2 (H.next+9):=NoTy.none h;refine zW (aV hl d f d2) ?_;exact ⟨⟨w,rfl,SlV.monoT (E:=bY cB) zS hr⟩,zK⟩
def mY (C:Code tab) (i:Wf H) {a b:AV} {x y:Int} (ha:IntV H a x) (hb:IntV H b y) (hx:MuI x) (hy:MuI y):Ans tab (.fn nM [a,b]) H fun v H'=>IntV H' v (x*y)/\Kp H H':=by
 obtain ⟨p,rfl,hp⟩:=ha;obtain ⟨q,rfl,g⟩:=hb;have op:=hp.one;have l:=g.one;refine bC C.q88 zU fun T hl d f=>?_;refine zW (aB hl d f) ?_;refine AnsH.use (Kg C zF ⟨p,rfl,hp.mono (zG H)⟩ ⟨q,rfl,g.mono (zG H)⟩ hx hy) ?_;rintro v H2 ⟨r,rfl,⟨w,rfl,hr⟩,c⟩;obtain ⟨k2,_,n⟩:=zT H zK c;have m:=hr.one;have k:H.next+12<=H2.next:=c.le
 have d2:=c.get (b:=H.next+2) (e:=.cells [.bool false,.nilSl] ad true) (da);have h:H2.get (H.next+9)=none:=c.free (show _<H.next+12 by omega) (by rw [al zO,al zO,al zO]; exact i.fresh (b:=H.next+9) zO);have m2:NoTy [ae] H2 (H.next+2):=NoTy.ty d2 zU;have j:NoTy [ae] H2 (H.next+9):=NoTy.none h;refine zW (aV hl d f d2) ?_;exact ⟨⟨w,rfl,SlV.monoT (E:=bY cB) zS hr⟩,zK⟩
def sM (g:Nat->Int->Int) (l:List Int) (j:Nat):List Int:=(List.range l.length).map fun i=>if i<j then g i (l.getD i 0) else 0
def KX (g:Nat->Int->Int) (l:List Int):sM g l 0=List.replicate l.length 0:=by
 simp [sM,List.map_const']
def Fc (g:Nat->Int->Int) (l:List Int) (j:Nat):(sM g l j).length=l.length:=by simp [sM]
def NG (g:Nat->Int->Int) (l:List Int) {j:Nat} (hj:j<l.length):(sM g l j).set j (g j l[j])=sM g l (j+1):=by
 apply Xk
 ·simp [sM]
 ·intro i h1 h2;have hi:i<l.length:=by simpa [sM] using h2
  rw [List.getElem_set];by_cases e:j=i
  ·subst e; simp [sM,hj]
  ·rw [if_neg e];simp only [sM,Ym,List.getElem_range];by_cases h:i<j
   ·rw [if_pos h,if_pos zO]
   ·rw [if_neg h,if_neg zO]
def NH (g:Nat->Int->Int) (l:List Int):sM g l l.length=l.mapIdx g:=by
 apply Xk
 ·simp [sM]
 ·intro i h1 h2;have hi:i<l.length:=by simpa [sM] using h1
  simp [sM,hi]
def C3 (C:Code tab) (O:Wf H) {l:List Int} {fi:Nat} {first caps:List AV} (hs:RowV H s l) (L:l.length<1099511627776) (g:Nat->Int->Int)
  (y:∀ i (hi:i<l.length) H' w,Kp H H'->IntV H' w l[i]->Ans tab (.fn fi (first++[.int .i64 (i:Int),w]++caps)) H' fun v H2=>IntV H2 v (g i l[i])/\Kp H' H2) :
  Ans tab (.fn mp [s,.fn (.func fi) first caps]) H fun v H'=>Kp H H'/\∃ b,Own intE ad H H' b true v (l.mapIdx g):=by
 refine bC C.q87 zU fun T hl c d=>?_;have D:∀ H':Heap,I8 H' (H.next+3) ad 2 32 [.bool false,.nilSl] (.int .i64 (l.length:Int)) (.int .i64 (l.length:Int))=some (.own (H.next+3) 0 l.length l.length 2 true,H'.put (H.next+3) (.cells ((List.replicate l.length [AV.bool false,AV.nilSl]).flatten) ad true)):=fun H'=>jd _ _ _ _ _ _ _ _ _ zO zO rfl;refine zW (cp hl c d hs.lenV D) ?_;have F:intE.R H [.bool false,.nilSl] 0:=⟨.nilSl,by simp,gZ H⟩
 refine am H [] (fun j _ H'=>∃ cells,H'.get (H.next+3)=some (.cells cells ad true)/\Cells intE H' cells (sM g l j)) (a:=0) (N:=l.length) rfl (by refine zW (aB hl c d) ?_; rfl) (zV (aB hl c d)) (Vz _) zO (by simp only [Vg,hl]; rfl) rfl (fun j vs H' m ⟨cells,h1,h2⟩=>⟨cells,h1,h2.mono ((Sub.bump H' m).t _)⟩) zK ⟨_,by refine uo ?_; rfl,?_⟩ ?_ ?_
 ·rw [KX];exact (rV F _).mono ((zG H).t _)
 ·rintro j T1 k _ hj h z n f ⟨cells,hb,hcl⟩;have w1:=f.wf;have G:=f.le;have J:aa T1 11=s:=(n.at_ 11 zU).trans (zV (aA hl c));have t5:aa T1 5=.own (H.next+3) 0 l.length l.length 2 true:=(n.at_ 5 zU).trans (zV (aB hl c d));have t1:aa T1 1=.fn (.func fi) first caps:=(n.at_ 1 zU).trans (zV (aV hl c d d))
  obtain ⟨w,hn,B,-,-⟩:=kP (hs.mono f.sub) hj;have A:cL 2 s (.int .i64 (j:Int))=some (aq s (j*2)):=SlV.idx hs .i64 j hj;have R:=hn.one;have P:=w1 _ _ hb;simp only [Vg,hl] at h;refine zW (gS h J t5 t1 z A B) ?_;refine AnsH.use (y j hj _ (.agg [.bool (decide (l[j]<0)),w]) zK ⟨w,rfl,hn.mono (zG k)⟩) ?_;rintro v H2 ⟨⟨q,rfl,t⟩,p⟩;obtain ⟨k2,_,_⟩:=zT H zK p;have K:=k2.wf;have I:=t.one;have o:=p.get (b:=H.next+3) (e:=.cells cells ad true) (zV hb);have Q:=K _ _ o;have M:cells.length=l.length*2:=by have:=hcl.1; rwa [Fc] at this
  have u:En (some (.cells cells ad true)) 2 (0+j*2) (.agg [.bool (decide (g j l[j]<0)),q])=some (.cells (cells.take (0+j*2)++[.bool (decide (g j l[j]<0)),q]++cells.drop (0+j*2+2)) ad true):=km (Jr (aH _) I) zO;have r:cL 2 (.own (H.next+3) 0 l.length l.length 2 true) (.int .i64 (j:Int))=some (.ptr (H.next+3) (0+j*2)):=nl hj;rw [V3] at u r;have m3:NoTy [ae] H2 (H.next+3):=NoTy.ty o zU;refine zW (aV h r o u) ?_;refine ⟨zK,_,rfl,?_⟩;rw [<- NG g l hj];have x:Cells intE H2 cells (sM g l j):=hcl.mono ((Kp.sub (H:=k) (Kp.trans zK p)).t _);exact Cells.mono (E:=intE) zS (x.set (i:=j) (by rw [Fc]; exact hj) ⟨q,rfl,t⟩)
 ·rintro T1 k h n f ⟨cells,hb,hcl⟩;have w1:=f.wf;have G:=f.le;have t5:aa T1 5=.own (H.next+3) 0 l.length l.length 2 true:=(n.at_ 5 zU).trans (zV (aB hl c d));simp only [Vg,hl] at h;refine zW (aA h t5) ?_;refine ⟨zK,H.next+3,?_⟩;rw [NH] at hcl
  have:Own intE ad H k (H.next+3) true (.own (H.next+3) 0 l.length l.length 2 true) (l.mapIdx g):=⟨cells,by simp [intE],hb,hcl,zO⟩
  exact this.mono (Sub.bump k _)
def xH (C:Code tab) (d:Wf H) {l:List Int} {fi:Nat} {first caps:List AV} (hs:RowV H s l) (a:l.length<1099511627776) (g:Nat->Int->Int)
  (c:∀ i (hi:i<l.length) H' w,Kp H H'->IntV H' w l[i]->Ans tab (.fn fi (first++[.int .i64 (i:Int),w]++caps)) H' fun v H2=>IntV H2 v (g i l[i])/\Kp H' H2) :
  Ans tab (.fn mp [s,.fn (.func fi) first caps]) H fun v H'=>RowV H' v (l.mapIdx g)/\Kp H H'/\Fr H v :=
 (C3 C d hs a g c).mono fun _ _ ⟨h1,b,h2⟩=>⟨h2.sl,h1,fun b' hb=>by obtain ⟨cells,rfl,-,-,h⟩:=h2; cases hb; exact h⟩
def ze (C:Code tab) (c:Wf H) {l:List Int} {fi:Nat} {first caps:List AV} (hs:RowV H s l) (a:l.length<1099511627776) (g:Nat->Int->Int)
  (b:∀ i (hi:i<l.length) H' w,Kp H H'->IntV H' w l[i]->Ans tab (.fn fi (first++[.int .i64 (i:Int),w]++caps)) H' fun v H2=>IntV H2 v (g i l[i])/\Kp H' H2) :
  Ans tab (.fn mp [s,.fn (.func fi) first caps]) H fun v H'=>RowV H' v (l.mapIdx g)/\Kp H H':=(xH C c hs a g b).mono fun _ _ ⟨h1,h2,_⟩=>⟨h1,h2⟩
end
end Go.Proofs.YtkmepoeklibegaaGreat.Ev
namespace Go.Proofs.YtkmepoeklibegaaGreat.Lin
abbrev V:=List Int
def dot:V->V->Int
 | a :: x,b :: y=>a*b+dot x y
 | _,_=>0
def mix (m:Int) (x:V) (n:Int) (y:V):V:=List.zipWith (fun a b=>m*a+n*b) x y
def scl (m:Int) (x:V):V:=x.map (m * ·)
def kT (d:Nat):V:=List.replicate d 0
def mix_length {m n:Int} {x y:V} {d:Nat} (h:x.length=d) (h':y.length=d):(mix m x n y).length=d:=by simp [mix,h,h']
def scl_length {m:Int} {x:V} {d:Nat} (h:x.length=d):(scl m x).length=d:=by simp [scl,h]
def ct (d:Nat):(kT d).length=d:=by simp [kT]
def dot_comm:∀ x y:V,dot x y=dot y x
 | [],[]=>rfl
 | [],_ :: _=>rfl
 | _ :: _,[]=>rfl
 | a :: x,b :: y=>by simp only [dot]; rw [dot_comm x y,Zq]
def kh:∀ (c:V) (d:Nat),dot c (kT d)=0
 | [],d=>by cases d <;> rfl
 | a :: c,0=>rfl
 | a :: c,d+1=>by
  show a*0+dot c (kT d)=0;rw [kh c d]; simp
def aJ:∀ (c:V) {x y:V} (m n:Int),x.length=y.length->dot c (mix m x n y)=m*dot c x+n*dot c y
 | [],x,y,m,n,_=>by cases x <;> cases y <;> simp [dot,mix]
 | a :: c,[],[],m,n,_=>by simp [dot,mix]
 | a :: c,[],_ :: _,m,n,h=>by simp at h
 | a :: c,_ :: _,[],m,n,h=>by simp at h
 | a :: c,u :: x,v :: y,m,n,h=>by
  have b:=aJ c (x:=x) (y:=y) m n (by simpa using h);simp only [mix,List.zipWith_cons_cons,dot] at b ⊢;rw [b]
  grind
def dot_scl:∀ (c x:V) (m:Int),dot c (scl m x)=m*dot c x
 | [],x,m=>by cases x <;> simp [dot,scl]
 | a :: c,[],m=>by simp [dot,scl]
 | a :: c,u :: x,m=>by
  have b:=dot_scl c x m;simp only [scl,Vq,dot] at b ⊢;rw [b]
  grind
def at_ (x:V) (i:Nat):Int:=x.getD i 0
def aK {x y:V} (h:x.length=y.length) (hi:∀ i,at_ x i=at_ y i):x=y:=by
 apply Xk h
 intro i h1 h2
 have:=hi i
 simpa [at_,h1,h2] using this
def ak {m n:Int} {x y:V} (h:x.length=y.length) (i:Nat):at_ (mix m x n y) i=m*at_ x i+n*at_ y i:=by
 simp only [at_,mix,Vh,List.getElem?_zipWith];by_cases hi:i<x.length
 ·have a:i<y.length:=h ▸ hi;simp [Vk hi,Vk a]
 ·have a:¬ i<y.length:=h ▸ hi;simp [VS (Xm hi),VS (Xm a)]
def az {m:Int} {x:V} (i:Nat):at_ (scl m x) i=m*at_ x i:=by
 simp only [at_,scl,Vh,Wg];cases x[i]? <;> simp
def ir {d i:Nat}:at_ (kT d) i=0:=by
 simp only [at_,kT,Vh,Wj];split <;> rfl
inductive Con (d:Nat) (L R:V->Prop):V->Prop
 | zero:Con d L R (kT d)
 | line {x l:V} (c:Int):Con d L R x->L l->Con d L R (mix 1 x c l)
 | ray {x r:V} (c:Int):0<=c->Con d L R x->R r->Con d L R (mix 1 x c r)
 | div {x:V} (k:Int):0<k->x.length=d->Con d L R (scl k x)->Con d L R x
abbrev Spn (d:Nat) (L:V->Prop):V->Prop:=Con d L (fun _=>False)
section
variable {d:Nat} {L R L' R':V->Prop}
def Con.length (hL:∀ l,L l->l.length=d) (b:∀ r,R r->r.length=d) {x:V} (h:Con d L R x):x.length=d:=by
 induction h with
 | zero=>exact ct d
 | line c _ hl a=>exact mix_length a (hL _ hl)
 | ray c _ _ hr a=>exact mix_length a (b _ hr)
 | div k _ h _ _=>exact h
def Con.mono (hL:∀ l,L l->L' l) (b:∀ r,R r->R' r) {x:V} (h:Con d L R x):Con d L' R' x:=by
 induction h with
 | zero=>exact .zero
 | line c _ hl a=>exact .line c a (hL _ hl)
 | ray c hc _ hr a=>exact .ray c hc a (b _ hr)
 | div k e h _ a=>exact .div k e h a
def Con.smul (hL:∀ l,L l->l.length=d) (e:∀ r,R r->r.length=d) {x:V} (h:Con d L R x):∀ k:Int,0<=k->Con d L R (scl k x):=by
 induction h with
 | zero =>
  intro k _
  have:scl k (kT d)=kT d:=aK (by simp [scl,kT]) fun i=>by rw [az,ir]; simp
  rw [this]; exact .zero
 | @line x l c hx hl b =>
  intro k a;have h1:=hx.length hL e;have h2:=hL _ hl
  have:scl k (mix 1 x c l)=mix 1 (scl k x) (k*c) l:=aK (by rw [scl_length (mix_length h1 h2),mix_length (scl_length h1) h2]) fun i=>by
   rw [az,ak (h1.trans h2.symm),ak ((scl_length h1).trans h2.symm),az]; grind
  rw [this]; exact .line _ (b k a) hl
 | @ray x r c hc hx hr b =>
  intro k a;have h1:=hx.length hL e;have h2:=e _ hr
  have:scl k (mix 1 x c r)=mix 1 (scl k x) (k*c) r:=aK (by rw [scl_length (mix_length h1 h2),mix_length (scl_length h1) h2]) fun i=>by
   rw [az,ak (h1.trans h2.symm),ak ((scl_length h1).trans h2.symm),az]; grind
  rw [this]; exact .ray _ (V8 a hc) (b k a) hr
 | @div x j hj h hx b =>
  intro k a;refine .div j hj (scl_length h) ?_
  have:scl j (scl k x)=scl k (scl j x):=aK (by rw [scl_length (scl_length h),scl_length (scl_length h)]) fun i=>by
   rw [az,az,az,az]; grind
  rw [this]; exact b k a
def Con.add (hL:∀ l,L l->l.length=d) (a:∀ r,R r->r.length=d) {y:V} (h:Con d L R y):∀ x,Con d L R x->Con d L R (mix 1 x 1 y):=by
 induction h with
 | zero =>
  intro x hx;have h1:=hx.length hL a
  have:mix 1 x 1 (kT d)=x:=aK (by rw [mix_length h1 (ct d),h1]) fun i=>by rw [ak (h1.trans (ct d).symm),ir]; grind
  rw [this]; exact hx
 | @line y l c hy hl b =>
  intro x hx;have h1:=hx.length hL a;have h2:=hy.length hL a;have h3:=hL _ hl
  have:mix 1 x 1 (mix 1 y c l)=mix 1 (mix 1 x 1 y) c l:=aK (by rw [mix_length h1 (mix_length h2 h3),mix_length (mix_length h1 h2) h3]) fun i=>by
   rw [ak (h1.trans (mix_length h2 h3).symm),ak (h2.trans h3.symm),ak ((mix_length h1 h2).trans h3.symm),ak (h1.trans h2.symm)]; grind
  rw [this]; exact .line _ (b x hx) hl
 | @ray y r c hc hy hr b =>
  intro x hx;have h1:=hx.length hL a;have h2:=hy.length hL a;have h3:=a _ hr
  have:mix 1 x 1 (mix 1 y c r)=mix 1 (mix 1 x 1 y) c r:=aK (by rw [mix_length h1 (mix_length h2 h3),mix_length (mix_length h1 h2) h3]) fun i=>by
   rw [ak (h1.trans (mix_length h2 h3).symm),ak (h2.trans h3.symm),ak ((mix_length h1 h2).trans h3.symm),ak (h1.trans h2.symm)]; grind
  rw [this]; exact .ray _ hc (b x hx) hr
 | @div y k e h hy b =>
  intro x hx;have h1:=hx.length hL a;refine .div k e (mix_length h1 h) ?_
  have:scl k (mix 1 x 1 y)=mix 1 (scl k x) 1 (scl k y):=aK (by rw [scl_length (mix_length h1 h),mix_length (scl_length h1) (scl_length h)]) fun i=>by
   rw [az,ak (h1.trans h.symm),ak ((scl_length h1).trans (scl_length h).symm),az,az]; grind
  rw [this]; exact b _ (hx.smul hL a k zO)
def Con.sum2 (hL:∀ l,L l->l.length=d) (a:∀ r,R r->r.length=d) {x y:V} (hx:Con d L R x) (hy:Con d L R y) {m n:Int} (hm:0<=m) (hn:0<=n):Con d L R (mix m x n y):=by
 have h1:=hx.length hL a;have h2:=hy.length hL a
 have:mix m x n y=mix 1 (scl m x) 1 (scl n y):=aK (by rw [mix_length h1 h2,mix_length (scl_length h1) (scl_length h2)]) fun i=>by
  rw [ak (h1.trans h2.symm),ak ((scl_length h1).trans (scl_length h2).symm),az,az]; grind
 rw [this];exact (hy.smul hL a n hn).add hL a _ (hx.smul hL a m hm)
def Con.of_ray {r:V} (hl:r.length=d) (hr:R r):Con d L R r:=by
 have:r=mix 1 (kT d) 1 r:=aK (by rw [mix_length (ct d) hl,hl]) fun i=>by rw [ak ((ct d).trans hl.symm),ir]; grind
 rw [this]; exact .ray 1 zO .zero hr
def Con.of_line {l:V} (hl:l.length=d) (hr:L l) (c:Int):Con d L R (scl c l):=by
 have:scl c l=mix 1 (kT d) c l:=aK (by rw [scl_length hl,mix_length (ct d) hl]) fun i=>by rw [az,ak ((ct d).trans hl.symm),ir]; grind
 rw [this]; exact .line c .zero hr
def Con.trans (b:∀ l,L' l->l.length=d) (f:∀ r,R' r->r.length=d) (hL:∀ l,L l->∀ c:Int,Con d L' R' (scl c l)) (g:∀ r,R r->Con d L' R' r) (e:∀ l,L l->l.length=d) (j:∀ r,R r->r.length=d) {x:V} (h:Con d L R x):Con d L' R' x:=by
 induction h with
 | zero=>exact .zero
 | @line x l c hx hl a =>
  have h1:=hx.length e j;have h2:=e _ hl
  have:mix 1 x c l=mix 1 x 1 (scl c l):=aK (by rw [mix_length h1 h2,mix_length h1 (scl_length h2)]) fun i=>by
   rw [ak (h1.trans h2.symm),ak (h1.trans (scl_length h2).symm),az]; grind
  rw [this]; exact (hL _ hl c).add b f _ a
 | @ray x r c hc hx hr a =>
  exact a.sum2 b f (g _ hr) zO hc
 | div k m h _ a=>exact .div k m h a
def Con.dot_nonneg (e:∀ l,L l->l.length=d) (f:∀ r,R r->r.length=d) {a:V} (hL:∀ l,L l->dot a l=0) (g:∀ r,R r->0<=dot a r) {x:V} (h:Con d L R x):0<=dot a x:=by
 induction h with
 | zero=>rw [kh]; omega
 | @line x l c hx hl b =>
  rw [aJ _ _ _ ((hx.length e f).trans (e _ hl).symm),hL _ hl]; simpa using b
 | @ray x r c hc hx hr b =>
  rw [aJ _ _ _ ((hx.length e f).trans (f _ hr).symm)]
  have:=V8 hc (g _ hr)
  omega
 | @div x k i h _ b =>
  rw [dot_scl] at b;exact W6 b i
def Con.dot_zero (e:∀ l,L l->l.length=d) (f:∀ r,R r->r.length=d) {a:V} (hL:∀ l,L l->dot a l=0) (g:∀ r,R r->dot a r=0) {x:V} (h:Con d L R x):dot a x=0:=by
 induction h with
 | zero=>rw [kh]
 | @line x l c hx hl b=>rw [aJ _ _ _ ((hx.length e f).trans (e _ hl).symm),hL _ hl,b]; simp
 | @ray x r c hc hx hr b=>rw [aJ _ _ _ ((hx.length e f).trans (f _ hr).symm),g _ hr,b]; simp
 | @div x k i h _ b =>
  rw [dot_scl] at b;rcases VH.1 b with h | h
  ·omega
  ·exact h
def Spn.smul (hL:∀ l,L l->l.length=d) {x:V} (h:Spn d L x):∀ k:Int,Spn d L (scl k x):=by
 induction h with
 | zero =>
  intro k
  have:scl k (kT d)=kT d:=aK (by simp [scl,kT]) fun i=>by rw [az,ir]; simp
  rw [this]; exact .zero
 | @line x l c hx hl a =>
  intro k;have h1:=hx.length hL (fun r h=>h.elim);have h2:=hL _ hl
  have:scl k (mix 1 x c l)=mix 1 (scl k x) (k*c) l:=aK (by rw [scl_length (mix_length h1 h2),mix_length (scl_length h1) h2]) fun i=>by
   rw [az,ak (h1.trans h2.symm),ak ((scl_length h1).trans h2.symm),az]; grind
  rw [this]; exact .line _ (a k) hl
 | ray c hc hx hr a=>exact hr.elim
 | @div x j hj h hx a =>
  intro k;refine .div j hj (scl_length h) ?_
  have:scl j (scl k x)=scl k (scl j x):=aK (by rw [scl_length (scl_length h),scl_length (scl_length h)]) fun i=>by
   rw [az,az,az,az]; grind
  rw [this]; exact a k
def Spn.sum2 (hL:∀ l,L l->l.length=d) {x y:V} (hx:Spn d L x) (hy:Spn d L y) (m n:Int):Spn d L (mix m x n y):=by
 have h1:=hx.length hL (fun r h=>h.elim);have h2:=hy.length hL (fun r h=>h.elim)
 have:mix m x n y=mix 1 (scl m x) 1 (scl n y):=aK (by rw [mix_length h1 h2,mix_length (scl_length h1) (scl_length h2)]) fun i=>by
  rw [ak (h1.trans h2.symm),ak ((scl_length h1).trans (scl_length h2).symm),az,az]; grind
 rw [this];exact (Spn.smul hL hy n).add hL (fun r h=>h.elim) _ (Spn.smul hL hx m)
end
structure Keep (d:Nat) (E I:V->Prop) (x:V):Prop where
 len:x.length=d
 eq:∀ e,E e->dot e x=0
 ge:∀ i,I i->0<=dot i x
structure DD (d:Nat) (E I:V->Prop) (L:V->Prop) (R:List V):Prop where
 lenL:∀ l,L l->l.length=d
 lineE:∀ l,L l->∀ e,E e->dot e l=0
 lineI:∀ l,L l->∀ i,I i->dot i l=0
 lines:∀ x,x.length=d->(∀ e,E e->dot e x=0)->(∀ i,I i->dot i x=0)->Spn d L x
 keep:∀ r∈R,Keep d E I r
 all:∀ x,Keep d E I x->Con d L (· ∈ R) x
 off:∀ r∈R,∃ i,I i/\dot i r≠0
 ext:∀ r∈R,∀ y,Keep d E I y->(∀ i,I i->dot i r=0->dot i y=0)->∃ k c:Int,0<k/\0<=c/\Spn d L (mix k y (-c) r)
 apart:R.Pairwise fun r s=>¬ ∀ i,I i->(dot i r=0 ↔ dot i s=0)
section
variable {d:Nat} {E I L:V->Prop} {R:List V}
def Keep.add {x y:V} (hx:Keep d E I x) (hy:Keep d E I y) {m n:Int} (hm:0<=m) (hn:0<=n):Keep d E I (mix m x n y):=by
 refine ⟨mix_length hx.len hy.len,fun e he=>?_,fun i hi=>?_⟩
 ·rw [aJ _ _ _ (hx.len.trans hy.len.symm),hx.eq e he,hy.eq e he]; simp
 ·rw [aJ _ _ _ (hx.len.trans hy.len.symm)]
  have:=V8 hm (hx.ge i hi)
  have:=V8 hn (hy.ge i hi)
  omega
def DD.lenR (h:DD d E I L R):∀ r,r∈R->r.length=d:=fun r hr=>(h.keep r hr).len
def DD.con_keep (h:DD d E I L R) {x:V} (hx:Con d L (· ∈ R) x):Keep d E I x :=
 ⟨hx.length h.lenL h.lenR,fun e he=>hx.dot_zero h.lenL h.lenR (fun l hl=>h.lineE l hl e he) (fun r hr=>(h.keep r hr).eq e he),
  fun i hi=>hx.dot_nonneg h.lenL h.lenR (fun l hl=>h.lineI l hl i hi) (fun r hr=>(h.keep r hr).ge i hi)⟩
def DD.face (h:DD d E I L R) {S:V->Prop} (b:∀ i,S i->I i) {x:V} (hx:Con d L (· ∈ R) x) (f:∀ i,S i->dot i x=0):Con d L (fun r=>r∈R/\∀ i,S i->dot i r=0) x:=by
 induction hx with
 | zero=>exact .zero
 | @line x l c hx hl a =>
  refine .line c (a fun i hi=>?_) hl
  have:=f i hi
  rw [aJ _ _ _ ((hx.length h.lenL h.lenR).trans (h.lenL _ hl).symm),h.lineI l hl i (b i hi)] at this
  simpa using this
 | @ray x r c hc hx hr a =>
  have key:∀ i,S i->dot i x=0/\(0<c->dot i r=0):=fun i hi=>by
   have:=f i hi
   rw [aJ _ _ _ ((hx.length h.lenL h.lenR).trans (h.lenR _ hr).symm)] at this;have h1:=(h.con_keep hx).ge i (b i hi);have h2:=(h.keep r hr).ge i (b i hi);have h3:=V8 hc h2;refine ⟨zO,fun g=>?_⟩;have j:c*dot i r=0:=zO;rcases VH.1 j with h5 | h5
   ·omega
   ·exact h5
  by_cases g:c=0
  ·subst g;have e:mix 1 x 0 r=x:=aK (by rw [mix_length (hx.length h.lenL h.lenR) (h.lenR _ hr),hx.length h.lenL h.lenR]) fun i=>by
    rw [ak ((hx.length h.lenL h.lenR).trans (h.lenR _ hr).symm)]; grind
   rw [e]; exact a fun i hi=>(key i hi).1
  ·exact .ray c hc (a fun i hi=>(key i hi).1) ⟨hr,fun i hi=>(key i hi).2 zO⟩
 | @div x k m hl hx a =>
  refine .div k m hl (a fun i hi=>?_);rw [dot_scl,f i hi]; simp
def DD.same (h:DD d E I L R) {i j:Nat} {r s:V} (hi:R[i]? = some r) (hj:R[j]? = some s) (hs:∀ a,I a->(dot a r=0 ↔ dot a s=0)):i=j:=by
 rcases X7 i j with hlt | heq | hlt
 ·exfalso
  obtain ⟨b,rfl⟩:=VA.1 hi;obtain ⟨c,rfl⟩:=VA.1 hj;exact V2.1 h.apart i j b c hlt hs
 ·exact heq
 ·exfalso
  obtain ⟨b,rfl⟩:=VA.1 hi;obtain ⟨c,rfl⟩:=VA.1 hj;exact V2.1 h.apart j i c b hlt fun a ha=>(hs a ha).symm
def DD.lin_of (h:DD d E I L R) {x:V} (hx:Keep d E I x) (a:∀ i,I i->dot i x=0):Spn d L x:=h.lines x hx.len hx.eq a
end
def Aq:∀ (l:List V) (u v:V->Int),(∃ i∈l,0<v i)->∃ i∈l,0<v i/\∀ j∈l,0<v j->u i*v j<=u j*v i
 | [],u,v,h=>by obtain ⟨i,hi,_⟩:=h; cases hi
 | a :: l,u,v,h=>by
  by_cases hl:∃ i∈l,0<v i
  ·obtain ⟨i,hi,c,hm⟩:=Aq l u v hl;by_cases ha:0<v a/\u a*v i<u i*v a
   ·refine ⟨a,Vt ..,ha.1,fun j hj b=>?_⟩;rcases VK.1 hj with rfl | hj
    ·exact XB _
    ·have h1:=hm j hj b;have h2:u a*v i*v j<=u i*v a*v j:=Zb zO zO;have h3:u i*v j*v a<=u j*v i*v a:=Zb h1 zO;have d:(u a*v j)*v i<=(u j*v a)*v i:=by
      have e1:u a*v j*v i=u a*v i*v j:=by grind
      have e2:u j*v a*v i=u j*v i*v a:=by grind
      have e3:u i*v a*v j=u i*v j*v a:=by grind
      rw [e1,e2]; rw [e3] at h2; exact Int.le_trans h2 h3
     exact Int.le_of_mul_le_mul_right d c
   ·refine ⟨i,Vn _ hi,c,fun j hj b=>?_⟩;rcases VK.1 hj with rfl | hj
    ·exact Int.not_lt.1 fun hlt=>ha ⟨b,hlt⟩
    ·exact hm j hj b
  ·obtain ⟨i,hi,c⟩:=h;rcases VK.1 hi with rfl | hi
   ·refine ⟨i,Vt ..,c,fun j hj b=>?_⟩;rcases VK.1 hj with rfl | hj
    ·exact XB _
    ·exact absurd ⟨j,hj,b⟩ hl
   ·exact absurd ⟨i,hi,c⟩ hl
def qH (l:List V) (x:V):Nat:=(l.filter fun i=>!decide (dot i x=0)).length
def Du {l:List V} {x y:V} (h:∀ i∈l,dot i x=0->dot i y=0):qH l y<=qH l x:=by
 unfold qH
 induction l with
 | nil=>simp
 | cons a l b =>
  have b:=b fun i hi=>h i (Vn _ hi);have ha:=h a (Vt ..);simp only [Xz];by_cases hx:dot a x=0
  ·simp [hx,ha hx]; exact b
  ·by_cases hy:dot a y=0
   ·simp [hx,hy]; omega
   ·simp [hx,hy]; exact b
def I4 {l:List V} {x y:V} (h:∀ i∈l,dot i x=0->dot i y=0) {b:V} (hb:b∈l) (hx:dot b x≠0) (hy:dot b y=0):qH l y<qH l x:=by
 unfold qH
 induction l with
 | nil=>cases hb
 | cons a l d =>
  have h':=fun i hi=>h i (Vn _ hi);have ha:=h a (Vt ..);simp only [Xz];rcases VK.1 hb with rfl | hb
  ·have:=Du h'
   unfold qH at this;simp [hx,hy]; omega
  ·have d:=d h' hb;by_cases c:dot a x=0
   ·simp [c,ha c]; exact d
   ·by_cases e:dot a y=0
    ·simp [c,e]; omega
    ·simp [c,e]; exact d
section
variable {d:Nat} {E L:V->Prop} {R:List V} {l:List V} {a:V}
def oB {x m:V} (hx:Keep d E (· ∈ l) x) (hm:Keep d E (· ∈ l) m) (k:∀ i∈l,dot i x=0->dot i m=0) (hne:∃ i∈l,dot i m≠0) :
  ∃ b∈l,0<dot b m/\0<dot b x/\Keep d E (· ∈ l) (mix (dot b m) x (-(dot b x)) m)/\qH l (mix (dot b m) x (-(dot b x)) m)<qH l x/\∀ j∈l,0<dot j m->dot b x*dot j m<=dot j x*dot b m:=by
 obtain ⟨o,g,s⟩:=hne;have h0:=hm.ge o g;obtain ⟨b,hb,f,h⟩:=Aq l (fun i=>dot i x) (fun i=>dot i m) ⟨o,g,zO⟩;have p:0<dot b x:=by
  have h1:=hx.ge b hb;have h2:dot b x≠0:=fun e=>by have:=k b hb e; omega
  omega
 have r:=hx.len.trans hm.len.symm;have a:∀ c,dot c (mix (dot b m) x (-(dot b x)) m)=dot b m*dot c x-dot b x*dot c m:=fun c=>by rw [aJ _ _ _ r]; grind
 refine ⟨b,hb,f,p,⟨mix_length hx.len hm.len,fun e he=>by rw [a,hx.eq e he,hm.eq e he]; simp,fun j hj=>?_⟩,I4 (fun j hj n=>by rw [a,n,k j hj n]; simp) hb zO (by rw [a]; grind),h⟩;rw [a];by_cases q:0<dot j m
 ·have:=h j hj q
  have e:dot b m*dot j x=dot j x*dot b m:=Zq _ _;omega
 ·have h1:=hm.ge j hj;have h2:dot j m=0:=zO;have h3:=V8 (Xl f) (hx.ge j hj);rw [h2]; simpa using h3
def cR:∀ (c x:V) (m:Int),dot (scl m c) x=m*dot c x:=fun c x m=>by rw [dot_comm,dot_scl,dot_comm]
def Con.face1 {L' R':V->Prop} (f:∀ l,L' l->l.length=d) (b:∀ r,R' r->r.length=d) (hL:∀ l,L' l->dot a l=0) (j:∀ r,R' r->0<=dot a r) {x:V} (hx:Con d L' R' x) (h:dot a x=0):Con d L' (fun r=>R' r/\dot a r=0) x:=by
 induction hx with
 | zero=>exact .zero
 | @line x l c hx hl g =>
  refine .line c (g ?_) hl;rw [aJ _ _ _ ((hx.length f b).trans (f _ hl).symm),hL l hl] at h
  simpa using h
 | @ray x r c hc hx hr g =>
  rw [aJ _ _ _ ((hx.length f b).trans (b _ hr).symm)] at h;have h1:=hx.dot_nonneg f b hL j;have h2:=V8 hc (j r hr);by_cases n:c=0
  ·subst n;have e:mix 1 x 0 r=x:=aK (by rw [mix_length (hx.length f b) (b _ hr),hx.length f b]) fun i=>by
    rw [ak ((hx.length f b).trans (b _ hr).symm)]; grind
   rw [e]; exact g zO
  ·refine .ray c hc (g zO) ⟨hr,?_⟩;have m:c*dot a r=0:=zO;rcases VH.1 m with h5 | h5
   ·omega
   ·exact h5
 | @div x k o hl hx g =>
  refine .div k o hl (g ?_);rw [dot_scl,h]; simp
def mx (a p n:V):V:=mix (-(dot a n)) p (dot a p) n
variable {Rn:V->Prop} {k:Nat}
def rq (b:∀ l,L l->l.length=d) (c:∀ r,Rn r->r.length=d) {x m:V} (hx:x.length=d) {α β:Int} (f:0<α) (g:0<=β) (hy:Con d L Rn (mix α x (-β) m)) (hm:Con d L Rn m):Con d L Rn x:=by
 have a:=hm.length b c;refine .div α f hx ?_;have e:scl α x=mix 1 (mix α x (-β) m) β m:=aK (by rw [scl_length hx,mix_length (mix_length hx a) a]) fun i=>by
  rw [az,ak ((mix_length hx a).trans a.symm),ak (hx.trans a.symm)]; grind
 rw [e];exact hy.sum2 b c hm zO g
def IL (h:DD d E (· ∈ l) L R) (s:∀ r,Rn r->r.length=d) (n:∀ y,Keep d E (· ∈ l) y->dot a y=0->qH l y<k->Con d L Rn y) {m m':V} (hm:Keep d E (· ∈ l) m) (f:Keep d E (· ∈ l) m')
  (ha:dot a m=0) (o:dot a m'=0) (j:∀ b∈l,dot b m=0->dot b m'=0) (v:∃ b∈l,dot b m'≠0) (P:qH l m<=k) (G:∀ α β:Int,0<α->0<β->¬ Spn d L (mix α m (-β) m')):Con d L Rn m:=by
 have g:=hm.len.trans f.len.symm;obtain ⟨b0,O,x,z,hy,S,F⟩:=oB hm f j v;have A:dot a (mix (dot b0 m') m (-(dot b0 m)) m')=0:=by rw [aJ _ _ _ g,ha,o]; simp
 have u:=n _ hy A zO;by_cases hlt:qH l m'<k
 ·exact rq h.lenL s hm.len x zO u (n m' f o hlt)
 ·have I:∀ b∈l,dot b m'=0->dot b m=0:=fun b hb J=>by
   by_cases t:dot b m=0
   ·exact t
   ·have:=I4 j hb t J
    omega
  have H:∃ b∈l,dot b m≠0:=by
   obtain ⟨b,hb,hn⟩:=v;exact ⟨b,hb,fun e=>hn (j b hb e)⟩
  obtain ⟨c,C,K,M,w,T,-⟩:=oB f hm I H;have B:dot a (mix (dot c m) m' (-(dot c m')) m)=0:=by rw [aJ _ _ _ g.symm,ha,o]; simp
  have D:=n _ w B (by have:=Du j; omega);have Q:=F c C M;by_cases heq:dot b0 m*dot c m'=dot c m*dot b0 m'
  ·exfalso
   refine G (dot b0 m') (dot b0 m) x z (h.lin_of hy fun i hi=>?_);have p:=hy.ge i hi;have q:=w.ge i hi;rw [aJ _ _ _ g] at p ⊢;rw [aJ _ _ _ g.symm] at q;have e:dot c m*(dot b0 m'*dot i m + -(dot b0 m)*dot i m')+dot b0 m*(dot c m*dot i m' + -(dot c m')*dot i m)=0:=by grind
   have p1:=V8 (Xl K) p;have p2:=V8 (Xl z) q;have N:dot c m*(dot b0 m'*dot i m + -(dot b0 m)*dot i m')=0:=zO;rcases VH.1 N with p4 | p4
   ·omega
   ·exact p4
  ·refine .div (dot c m*dot b0 m'-dot b0 m*dot c m') zO hm.len ?_;have e:scl (dot c m*dot b0 m'-dot b0 m*dot c m') m=mix (dot c m) (mix (dot b0 m') m (-(dot b0 m)) m') (dot b0 m) (mix (dot c m) m' (-(dot c m')) m) :=
    aK (by rw [scl_length hm.len,mix_length (mix_length hm.len f.len) (mix_length f.len hm.len)]) fun i=>by
     rw [az,ak ((mix_length hm.len f.len).trans (mix_length f.len hm.len).symm),ak g,ak g.symm]; grind
   rw [e];exact u.sum2 h.lenL s D zO zO
def DD.sub_same (h:DD d E (· ∈ l) L R) {i j:Nat} {p q:V} (hi:R[i]? = some p) (hj:R[j]? = some q) (hs:∀ b∈l,dot b p=0->dot b q=0):i=j:=by
 have hp:=VD hi;have f:=VD hj;obtain ⟨k,c,s,hc,n⟩:=h.ext p hp q (h.keep q f) hs;refine h.same hi hj fun b hb=>⟨hs b hb,fun o=>?_⟩
 have key:∀ b∈l,k*dot b q=c*dot b p:=fun b hb=>by
  have:=Con.dot_zero (a:=b) h.lenL (fun r h=>h.elim) (fun x hx=>h.lineI x hx b hb) (fun r h=>h.elim) n
  rw [aJ _ _ _ ((h.keep q f).len.trans (h.keep p hp).len.symm),X9] at this;omega
 have m:c≠0:=fun e=>by
  obtain ⟨b',g,hn⟩:=h.off q f
  have:=key b' g
  rw [e] at this;rcases VH.1 (show k*dot b' q=0 by omega) with h1 | h1
  ·omega
  ·exact hn h1
 have:=key b hb
 rw [o] at this;rcases VH.1 (show c*dot b p=0 by omega) with h1 | h1
 ·exact absurd h1 m
 ·exact h1
def DD.three (h:DD d E (· ∈ l) L R) {i j:Nat} {p q n:V} (hi:R[i]? = some p) (hj:R[j]? = some q) (hn:n∈R) {u v w:Int} (m:0<u) (a:0<v) (c:0<=w) (hs:∀ b∈l,u*dot b p=v*dot b q+w*dot b n):i=j:=by
 refine h.sub_same hi hj fun b hb f=>?_;have e:=hs b hb;rw [f] at e;have g:=V8 (Xl a) ((h.keep q (VD hj)).ge b hb);have k:=V8 c ((h.keep n hn).ge b hb);rcases VH.1 (show v*dot b q=0 by omega) with h1 | h1
 ·omega
 ·exact h1
def fH {p n:V} (hp:Keep d E (· ∈ l) p) (hn:Keep d E (· ∈ l) n) (h1:0<dot a p) (h2:dot a n<0):Keep d E (· ∈ l) (mx a p n):=hp.add hn zO zO
def wR {p n:V} (hp:p.length=d) (hn:n.length=d) (c:V):dot c (mx a p n) = -(dot a n)*dot c p+dot a p*dot c n:=aJ _ _ _ (hp.trans hn.symm)
def pG {p n:V} (hp:p.length=d) (hn:n.length=d):dot a (mx a p n)=0:=by rw [wR hp hn]; grind
def mE {p n:V} (hp:Keep d E (· ∈ l) p) (hn:Keep d E (· ∈ l) n) (h1:0<dot a p) (h2:dot a n<0) {b:V} (hb:b∈l):dot b (mx a p n)=0 ↔ dot b p=0/\dot b n=0:=by
 rw [wR hp.len hn.len];have c:=V8 (show 0 <= -(dot a n) by omega) (hp.ge b hb);have f:=V8 (Xl h1) (hn.ge b hb);constructor
 ·intro e;constructor
  ·rcases VH.1 (show -(dot a n)*dot b p=0 by omega) with h | h
   ·omega
   ·exact h
  ·rcases VH.1 (show dot a p*dot b n=0 by omega) with h | h
   ·omega
   ·exact h
 ·rintro ⟨e1,e2⟩;rw [e1,e2]; simp
def Gv (l:List V) (R:List V) (i j:Nat) (p n:V):Prop:=∀ (t:Nat) (q:V),R[t]? = some q->t≠i->t≠j->¬ ∀ b∈l,dot b p=0->dot b n=0->dot b q=0
def Qe (h:DD d E (· ∈ l) L R) (O:∀ x,L x->dot a x=0) (A:∀ r,Rn r->r.length=d) (f:∀ r∈R,dot a r=0->Rn r)
  (K:∀ i j p n,R[i]? = some p->R[j]? = some n->0<dot a p->dot a n<0->Gv l R i j p n->Con d L Rn (mx a p n))
  (z:∀ y,Keep d E (· ∈ l) y->dot a y=0->qH l y<k->Con d L Rn y) {i j:Nat} {p n:V} (hi:R[i]? = some p) (hj:R[j]? = some n) (h1:0<dot a p) (h2:dot a n<0) (F:qH l (mx a p n)<=k):Con d L Rn (mx a p n):=by
 have hp:=h.keep p (VD hi);have hn:=h.keep n (VD hj);by_cases G:Gv l R i j p n
 ·exact K i j p n hi hj h1 h2 G
 ·have ⟨t,q,g,H,I,N⟩:∃ t q,R[t]? = some q/\t≠i/\t≠j/\∀ b∈l,dot b p=0->dot b n=0->dot b q=0:=by
   apply VI
   intro M;exact G fun t q g h1 h2 h3=>M ⟨t,q,g,h1,h2,h3⟩
  have s:=VD g;have c:=h.keep q s;have D:∀ b∈l,dot b (mx a p n)=0->dot b q=0:=fun b hb f=>by
   obtain ⟨e1,e2⟩:=(mE hp hn h1 h2 hb).1 f;exact N b hb e1 e2
  rcases Int.lt_trichotomy (dot a q) 0 with hq0 | hq0 | hq0
  ·
   refine IL (m':=mx a p q) h A z (fH hp hn h1 h2) (fH hp c h1 hq0) (pG hp.len hn.len) (pG hp.len c.len) (fun b hb f=>?_) ?_ F (fun α β m o C=>?_)
   ·exact (mE hp c h1 hq0 hb).2 ⟨((mE hp hn h1 h2 hb).1 f).1,D b hb f⟩
   ·obtain ⟨b,hb,B⟩:=h.off q s;exact ⟨b,hb,fun e=>B ((mE hp c h1 hq0 hb).1 e).2⟩
   ·have key:∀ b∈l,α*(-(dot a n)*dot b p+dot a p*dot b n)=β*(-(dot a q)*dot b p+dot a p*dot b q):=fun b hb=>by
     have:=Con.dot_zero (a:=b) h.lenL (fun r h=>h.elim) (fun x hx=>h.lineI x hx b hb) (fun r h=>h.elim) C
     rw [aJ _ _ _ ((fH hp hn h1 h2).len.trans (fH hp c h1 hq0).len.symm),wR hp.len hn.len,wR hp.len c.len] at this
     grind
    by_cases hg:0<=α*(-(dot a n))-β*(-(dot a q))
    ·
     have:=h.three g hj (VD hi) (u:=β*dot a p) (v:=α*dot a p) (w:=α*(-(dot a n))-β*(-(dot a q))) (W2 o h1) (W2 m h1) hg (fun b hb=>by have:=key b hb; grind)
     exact I this
    ·have:=h.three hj g (VD hi) (u:=α*dot a p) (v:=β*dot a p) (w:=β*(-(dot a q))-α*(-(dot a n))) (W2 m h1) (W2 o h1) zO (fun b hb=>by have:=key b hb; grind)
     exact I this.symm
  ·
   obtain ⟨b0,P,m,o,hy,Q,-⟩:=oB (fH hp hn h1 h2) c D (h.off q s);have J:dot a (mix (dot b0 q) (mx a p n) (-(dot b0 (mx a p n))) q)=0:=by
    rw [aJ _ _ _ ((fH hp hn h1 h2).len.trans c.len.symm),pG hp.len hn.len,hq0]; simp
   exact rq h.lenL A (fH hp hn h1 h2).len m zO (z _ hy J zO) (Con.of_ray c.len (f q s hq0))
  ·
   refine IL (m':=mx a q n) h A z (fH hp hn h1 h2) (fH c hn hq0 h2) (pG hp.len hn.len) (pG c.len hn.len) (fun b hb f=>?_) ?_ F (fun α β m o C=>?_)
   ·exact (mE c hn hq0 h2 hb).2 ⟨D b hb f,((mE hp hn h1 h2 hb).1 f).2⟩
   ·obtain ⟨b,hb,B⟩:=h.off q s;exact ⟨b,hb,fun e=>B ((mE c hn hq0 h2 hb).1 e).1⟩
   ·have key:∀ b∈l,α*(-(dot a n)*dot b p+dot a p*dot b n)=β*(-(dot a n)*dot b q+dot a q*dot b n):=fun b hb=>by
     have:=Con.dot_zero (a:=b) h.lenL (fun r h=>h.elim) (fun x hx=>h.lineI x hx b hb) (fun r h=>h.elim) C
     rw [aJ _ _ _ ((fH hp hn h1 h2).len.trans (fH c hn hq0 h2).len.symm),wR hp.len hn.len,wR c.len hn.len] at this
     grind
    by_cases hg:0<=β*dot a q-α*dot a p
    ·have:=h.three hi g (VD hj) (u:=α*(-(dot a n))) (v:=β*(-(dot a n))) (w:=β*dot a q-α*dot a p) (W2 m zO) (W2 o zO) hg (fun b hb=>by have:=key b hb; grind)
     exact H this.symm
    ·have:=h.three g hi (VD hj) (u:=β*(-(dot a n))) (v:=α*(-(dot a n))) (w:=α*dot a p-β*dot a q) (W2 o zO) (W2 m zO) zO (fun b hb=>by have:=key b hb; grind)
     exact H this
def FU (h:DD d E (· ∈ l) L R) (o:∀ x,L x->dot a x=0) (z:∀ r,Rn r->r.length=d) (u:∀ r∈R,dot a r=0->Rn r)
  (G:∀ i j p n,R[i]? = some p->R[j]? = some n->0<dot a p->dot a n<0->Gv l R i j p n->Con d L Rn (mx a p n)) :
  ∀ (k:Nat) (x:V),qH l x=k->Keep d E (· ∈ l) x->dot a x=0->Con d L Rn x:=by
 intro k
 induction k using Nat.strongRecOn with
 | _ k K =>
  intro x N hx q;have v:∀ y,Keep d E (· ∈ l) y->dot a y=0->qH l y<k->Con d L Rn y:=fun y hy s hlt=>K _ hlt y rfl hy s;have B:=h.face (S:=fun i=>i∈l/\dot i x=0) (fun i hi=>hi.1) (h.all x hx) (fun i hi=>hi.2);have w:∀ r,(r∈R/\∀ i,(i∈l/\dot i x=0)->dot i r=0)->r.length=d:=fun r hr=>h.lenR r hr.1;by_cases hp:∃ p,p∈R/\(∀ i,(i∈l/\dot i x=0)->dot i p=0)/\0<dot a p
  ·by_cases hn:∃ n,n∈R/\(∀ i,(i∈l/\dot i x=0)->dot i n=0)/\dot a n<0
   ·obtain ⟨p,t,I,g⟩:=hp;obtain ⟨n,C,H,c⟩:=hn;obtain ⟨i,hi⟩:=V9 t;obtain ⟨j,hj⟩:=V9 C;have m:=h.keep p t;have f:=h.keep n C;have D:∀ b∈l,dot b x=0->dot b (mx a p n)=0:=fun b hb A=>(mE m f g c hb).2 ⟨I b ⟨hb,A⟩,H b ⟨hb,A⟩⟩;have hm:=Qe h o z u G v hi hj g c (by have:=Du D; omega);obtain ⟨b0,M,J,P,hy,O,-⟩:=oB hx (fH m f g c) D (by
     obtain ⟨b,hb,F⟩:=h.off p t;exact ⟨b,hb,fun e=>F ((mE m f g c hb).1 e).1⟩)
    have s:dot a (mix (dot b0 (mx a p n)) x (-(dot b0 x)) (mx a p n))=0:=by
     rw [aJ _ _ _ (hx.len.trans (fH m f g c).len.symm),q,pG m.len f.len]; simp
    exact rq h.lenL z hx.len J zO (v _ hy s zO) hm
   ·have:=Con.face1 (a:=a) h.lenL w (fun x hx=>o x hx) (fun r hr=>Int.not_lt.1 fun hlt=>hn ⟨r,hr.1,hr.2,hlt⟩) B q
    exact this.mono (fun _ h=>h) fun r hr=>u r hr.1.1 hr.2
  ·have:=Con.face1 (a:=scl (-1) a) h.lenL w (fun x hx=>by rw [cR,o x hx]; simp) (fun r hr=>by
    rw [cR]
    have:¬ 0<dot a r:=fun hlt=>hp ⟨r,hr.1,hr.2,hlt⟩
    omega) B (by rw [cR,q]; simp)
   refine this.mono (fun _ h=>h) fun r hr=>u r hr.1.1 ?_
   have:=hr.2
   rw [cR] at this;omega
def QB (h:DD d E (· ∈ l) L R) (q:∀ x,L x->dot a x=0) (m:∀ r,Rn r->r.length=d) (w:∀ r∈R,0<=dot a r->Rn r)
  (G:∀ i j p n,R[i]? = some p->R[j]? = some n->0<dot a p->dot a n<0->Gv l R i j p n->Con d L Rn (mx a p n)) :
  ∀ (k:Nat) (x:V),qH l x=k->Keep d E (· ∈ l) x->0<=dot a x->Con d L Rn x:=by
 have y:=FU h q m (fun r hr e=>w r hr zO) G;intro k
 induction k using Nat.strongRecOn with
 | _ k J =>
  intro x N hx C;by_cases D:dot a x=0
  ·exact y _ x rfl hx D
  ·have F:=h.face (S:=fun i=>i∈l/\dot i x=0) (fun i hi=>hi.1) (h.all x hx) (fun i hi=>hi.2);have B:∀ r,(r∈R/\∀ i,(i∈l/\dot i x=0)->dot i r=0)->r.length=d:=fun r hr=>h.lenR r hr.1;obtain ⟨p,o,H,v⟩:∃ p,p∈R/\(∀ i,(i∈l/\dot i x=0)->dot i p=0)/\0<dot a p:=by
    by_cases hp:∃ p,p∈R/\(∀ i,(i∈l/\dot i x=0)->dot i p=0)/\0<dot a p
    ·exact hp
    ·exfalso
     have:=Con.dot_nonneg (a:=scl (-1) a) h.lenL B (fun x hx=>by rw [cR,q x hx]; simp) (fun r hr=>by
      rw [cR]
      have:¬ 0<dot a r:=fun hlt=>hp ⟨r,hr.1,hr.2,hlt⟩
      omega) F
     rw [cR] at this;omega
   have f:=h.keep p o;obtain ⟨b0,M,z,P,hy,O,-⟩:=oB hx f (fun b hb e=>H b ⟨hb,e⟩) (h.off p o);have u:=hx.len.trans f.len.symm;have t:Con d L Rn p:=Con.of_ray f.len (w p o zO);by_cases s:0<=dot a (mix (dot b0 p) x (-(dot b0 x)) p)
   ·exact rq h.lenL m hx.len z zO (J _ zO _ rfl hy s) t
   ·
    have hd:∀ c,dot c (mix (dot a p) x (-(dot a x)) p)=dot a p*dot c x-dot a x*dot c p:=fun c=>by rw [aJ _ _ _ u]; grind
    have I:Keep d E (· ∈ l) (mix (dot a p) x (-(dot a x)) p):=by
     refine ⟨mix_length hx.len f.len,fun e he=>by rw [hd,hx.eq e he,f.eq e he]; simp,fun j hj=>?_⟩;rw [hd];have g:=hy.ge j hj;rw [aJ _ _ _ u] at g s;have K:=hx.ge j hj;have A:=f.ge j hj;have e1:dot b0 p*(dot a p*dot j x-dot a x*dot j p)=dot a p*(dot b0 p*dot j x + -(dot b0 x)*dot j p)+dot j p * -(dot b0 p*dot a x + -(dot b0 x)*dot a p):=by grind
     have e2:=V8 (Xl v) g;have e3:=V8 A (show 0 <= -(dot b0 p*dot a x + -(dot b0 x)*dot a p) by omega);refine W6 (a:=dot b0 p) ?_ z;omega
    exact rq h.lenL m hx.len v C (y _ _ rfl I (by rw [hd]; grind)) t
end
def content (x:V):Nat:=x.foldl (fun g a=>Nat.gcd g a.natAbs) 0
def prime (x:V):V:=if content x=0 then x else x.map (fun a=>a / (content x:Int))
def AL:∀ (x:V) (g:Nat),(x.foldl (fun g a=>Nat.gcd g a.natAbs) g) ∣ g/\∀ a∈x,((x.foldl (fun g a=>Nat.gcd g a.natAbs) g:Nat):Int) ∣ a
 | [],g=>⟨Nat.dvd_refl _,fun a h=>by cases h⟩
 | b :: x,g=>by
  obtain ⟨h1,h2⟩:=AL x (Nat.gcd g b.natAbs);simp only [Wn];refine ⟨Nat.dvd_trans h1 (Nat.gcd_dvd_left _ _),fun a ha=>?_⟩;rcases VK.1 ha with rfl | ha
  ·exact YP.2 (Nat.dvd_trans h1 (Nat.gcd_dvd_right _ _))
  ·exact h2 a ha
def content_dvd {x:V} {a:Int} (h:a∈x):(content x:Int) ∣ a:=(AL x 0).2 a h
def prime_length (x:V):(prime x).length=x.length:=by unfold prime; split <;> simp
def uC (x:V):scl 1 x=x:=by
 unfold scl
 conv=>rhs; rw [<- YR x]
 exact Xb fun a _=>by simp
def jN (x:V):∃ c:Int,0<c/\scl c (prime x)=x:=by
 by_cases h:content x=0
 ·exact ⟨1,zO,by unfold prime; rw [if_pos h,uC]⟩
 ·refine ⟨(content x:Int),zO,?_⟩;unfold prime scl;rw [if_neg h,Xu]
  conv=>rhs; rw [<- YR x]
  refine Xb fun a ha=>?_;exact Int.mul_ediv_cancel' (content_dvd ha)
section
variable {d:Nat} {E L L' Rn:V->Prop} {R:List V} {l:List V} {a:V}
def Keep.of_scl {I:V->Prop} {c:Int} (hc:0<c) {x:V} (hx:x.length=d) (h:Keep d E I (scl c x)):Keep d E I x:=by
 refine ⟨hx,fun e he=>?_,fun i hi=>?_⟩
 ·have:=h.eq e he
  rw [dot_scl] at this;rcases VH.1 this with h1 | h1
  ·omega
  ·exact h1
 ·have:=h.ge i hi
  rw [dot_scl] at this;exact W6 this hc
def lB {c:Int} (hc:0<c) {b x:V}:dot b (scl c x)=0 ↔ dot b x=0:=by
 rw [dot_scl];constructor
 ·intro h;rcases VH.1 h with h1 | h1
  ·omega
  ·exact h1
 ·intro h; rw [h]; simp
def Con.image {g:V->Prop} (h:∀ x,L x->x.length=d) (j:∀ x,g x->x.length=d) (l:∀ x,L' x->x.length=d) (m:∀ x,Rn x->x.length=d) (f:V->V) (o:f (kT d)=kT d)
  (n:∀ x y c,x.length=d->y.length=d->f (mix 1 x c y)=mix 1 (f x) c (f y)) (p:∀ x c,x.length=d->f (scl c x)=scl c (f x)) (a:∀ x,x.length=d->(f x).length=d)
  (h1:∀ x,L x->∀ c:Int,Con d L' Rn (scl c (f x))) (h2:∀ x,g x->Con d L' Rn (f x)) {x:V} (hx:Con d L g x):Con d L' Rn (f x):=by
 induction hx with
 | zero=>rw [o]; exact .zero
 | @line x y c hx hy b =>
  have l1:=hx.length h j;have l2:=h _ hy;rw [n x y c l1 l2];have e:mix 1 (f x) c (f y)=mix 1 (f x) 1 (scl c (f y)):=aK (by rw [mix_length (a x l1) (a y l2),mix_length (a x l1) (scl_length (a y l2))]) fun i=>by
   rw [ak ((a x l1).trans (a y l2).symm),ak ((a x l1).trans (scl_length (a y l2)).symm),az]; grind
  rw [e];exact (h1 y hy c).add l m _ b
 | @ray x y c hc hx hy b =>
  rw [n x y c (hx.length h j) (j _ hy)];exact b.sum2 l m (h2 y hy) zO hc
 | @div x k q hl hx b =>
  rw [p x k hl] at b;exact .div k q (a x hl) b
def mv (a u:V) (x:V):V:=mix (dot a u) x (-(dot a x)) u
def bA {u x:V} (b:u.length=d) (hx:x.length=d):(mv a u x).length=d:=mix_length hx b
def wS {u x:V} (c:u.length=d) (hx:x.length=d) (b:V):dot b (mv a u x)=dot a u*dot b x-dot a x*dot b u:=by
 unfold mv; rw [aJ _ _ _ (hx.trans c.symm)]; grind
def HB {u:V} (b:u.length=d):mv a u (kT d)=kT d:=aK (by rw [bA b (ct d),ct]) fun i=>by
 unfold mv; rw [ak ((ct d).trans b.symm),ir,kh]; simp
def HC {u x y:V} {c:Int} (b:u.length=d) (hx:x.length=d) (hy:y.length=d):mv a u (mix 1 x c y)=mix 1 (mv a u x) c (mv a u y) :=
 aK (by rw [bA b (mix_length hx hy),mix_length (bA b hx) (bA b hy)]) fun i=>by
  rw [ak ((bA b hx).trans (bA b hy).symm)];unfold mv;rw [ak ((mix_length hx hy).trans b.symm),ak (hx.trans hy.symm),ak (hx.trans b.symm),ak (hy.trans b.symm),aJ _ _ _ (hx.trans hy.symm)]; grind
def Dy {u x:V} {c:Int} (b:u.length=d) (hx:x.length=d):mv a u (scl c x)=scl c (mv a u x) :=
 aK (by rw [bA b (scl_length hx),scl_length (bA b hx)]) fun i=>by
  rw [az];unfold mv;rw [ak ((scl_length hx).trans b.symm),az,ak (hx.trans b.symm),dot_scl]; grind
def I6 {u:V} (b:u.length=d):mv a u u=kT d:=aK (by rw [bA b b,ct]) fun i=>by
 unfold mv; rw [ak rfl,ir]; grind
def wT {u x:V} (b:u.length=d) (hx:x.length=d) (h:dot a x=0):mv a u x=scl (dot a u) x:=aK (by rw [bA b hx,scl_length hx]) fun i=>by
 unfold mv; rw [ak (hx.trans b.symm),az,h]; simp
def foldV (a u:V) (x:V):V:=prime (mv a u x)
def fL {u x:V} (b:u.length=d) (hx:x.length=d):(foldV a u x).length=d:=by unfold foldV; rw [prime_length]; exact bA b hx
def lW (u x:V):∃ c:Int,0<c/\scl c (foldV a u x)=mv a u x:=jN _
def Qx {L0:V->Prop} {Ls:List V} {u:V} (h:DD d E (· ∈ l) L0 R) (ha:a.length=d) (S:∀ x,L0 x->x∈Ls\/∃ s:Int,x=scl s u) (D:∀ x∈Ls,L0 x) (f:u.length=d) (G:∀ e,E e->dot e u=0) (n:∀ i∈l,dot i u=0) (w:0<dot a u) (eq:Bool) :
  DD d (fun e=>E e\/(eq=true/\e=a)) (· ∈ l++(if eq then [] else [a])) (· ∈ Ls.map (foldV a u)) (R.map (foldV a u)++(if eq then [] else [u])):=by
 have A:∀ x∈Ls,x.length=d:=fun x hx=>h.lenL x (D x hx);have j:∀ i,i∈l++(if eq then [] else [a]) ↔ i∈l\/(eq=false/\i=a):=fun i=>by cases eq <;> simp
 have m:∀ x,x.length=d->∀ b,(dot b u=0\/b=a)->(dot b (foldV a u x)=0 ↔ b=a\/dot b x=0):=fun x hx b hb=>by
  obtain ⟨c,hc,e⟩:=lW (a:=a) u x;rw [<- lB hc,e,wS f hx];rcases hb with hb | rfl
  ·rw [hb];constructor
   ·intro h;rcases VH.1 (show dot a u*dot b x=0 by omega) with h1 | h1
    ·omega
    ·exact .inr h1
   ·rintro (rfl | h)
    ·omega
    ·rw [h]; simp
  ·constructor
   ·intro _; exact .inl rfl
   ·intro _; grind
 have U:∀ x,x.length=d->∀ b,dot b u=0->0<=dot b x->0<=dot b (foldV a u x):=fun x hx b hb h0=>by
  obtain ⟨c,hc,e⟩:=lW (a:=a) u x
  have:0<=dot b (scl c (foldV a u x)):=by
   rw [e,wS f hx,hb]
   have:=V8 (Xl w) h0
   omega
  rw [dot_scl] at this;exact W6 this hc
 have C:∀ x,x∈Ls.map (foldV a u)->x.length=d:=fun x hx=>by
  obtain ⟨y,hy,rfl⟩:=Vl.1 hx;exact fL f (A y hy)
 have H:∀ x,x∈R.map (foldV a u)++(if eq then [] else [u])->x.length=d:=fun x hx=>by
  rcases VE.1 hx with hx | hx
  ·obtain ⟨y,hy,rfl⟩:=Vl.1 hx;exact fL f (h.lenR y hy)
  ·cases eq
   ·simp at hx; rw [hx]; exact f
   ·simp at hx
 have O:∀ (Q:V->Prop) x,L0 x->∀ c:Int,Con d (· ∈ Ls.map (foldV a u)) Q (scl c (mv a u x)):=fun Q x hx c=>by
  rcases S x hx with hx | ⟨s,rfl⟩
  ·obtain ⟨p,L,e⟩:=lW (a:=a) u x;rw [<- e];have e2:scl c (scl p (foldV a u x))=scl (c*p) (foldV a u x):=aK (by simp [scl]) fun i=>by rw [az,az,az]; grind
   rw [e2];exact Con.of_line (fL f (A x hx)) (Xc hx) _
  ·have e:scl c (mv a u (scl s u))=kT d:=by
    rw [Dy f f,I6 f];exact aK (by simp [scl,kT]) fun i=>by rw [az,az,ir]; simp
   rw [e]; exact .zero
 have I:∀ {x},Spn d L0 x->Spn d (· ∈ Ls.map (foldV a u)) (mv a u x):=fun hx =>
  Con.image h.lenL (fun r h=>h.elim) C (fun r h=>h.elim) (mv a u) (HB f) (fun x y c hx hy=>HC f hx hy) (fun x c hx=>Dy f hx) (fun x hx=>bA f hx) (O _) (fun r h=>h.elim) hx
 have P:∀ {x},Con d L0 (· ∈ R) x->Con d (· ∈ Ls.map (foldV a u)) (· ∈ R.map (foldV a u)++(if eq then [] else [u])) (mv a u x):=fun hx =>
  Con.image h.lenL h.lenR C H (mv a u) (HB f) (fun x y c hx hy=>HC f hx hy) (fun x c hx=>Dy f hx) (fun x hx=>bA f hx) (O _) (fun r hr=>by
   obtain ⟨p,L,e⟩:=lW (a:=a) u r;rw [<- e];exact (Con.of_ray (fL f (h.lenR r hr)) (WH _ (Xc hr))).smul C H p zO) hx
 have old:∀ {x},Keep d (fun e=>E e\/(eq=true/\e=a)) (· ∈ l++(if eq then [] else [a])) x->Keep d E (· ∈ l) x:=fun hx=>⟨hx.len,fun e he=>hx.eq e (.inl he),fun i hi=>hx.ge i ((j i).2 (.inl hi))⟩
 refine ⟨C,?_,?_,?_,?_,?_,?_,?_,?_⟩
 ·
  intro x hx e he;obtain ⟨y,hy,rfl⟩:=Vl.1 hx;rcases he with he | ⟨-,rfl⟩
  ·exact (m y (A y hy) e (.inl (G e he))).2 (.inr (h.lineE y (D y hy) e he))
  ·exact (m y (A y hy) e (.inr rfl)).2 (.inl rfl)
 ·
  intro x hx i hi;obtain ⟨y,hy,rfl⟩:=Vl.1 hx;rcases (j i).1 hi with hi | ⟨-,rfl⟩
  ·exact (m y (A y hy) i (.inl (n i hi))).2 (.inr (h.lineI y (D y hy) i hi))
  ·exact (m y (A y hy) i (.inr rfl)).2 (.inl rfl)
 ·
  intro x hx J K;have B:dot a x=0:=by
   cases eq
   ·exact K a ((j a).2 (.inr ⟨rfl,rfl⟩))
   ·exact J a (.inr ⟨rfl,rfl⟩)
  have:=I (h.lines x hx (fun e he=>J e (.inl he)) (fun i hi=>K i ((j i).2 (.inl hi))))
  rw [wT f hx B] at this;exact .div _ w hx this
 ·
  intro r hr;rcases VE.1 hr with hr | hr
  ·obtain ⟨y,hy,rfl⟩:=Vl.1 hr;have v:=h.keep y hy;refine ⟨fL f v.len,fun e he=>?_,fun i hi=>?_⟩
   ·rcases he with he | ⟨-,rfl⟩
    ·exact (m y v.len e (.inl (G e he))).2 (.inr (v.eq e he))
    ·exact (m y v.len e (.inr rfl)).2 (.inl rfl)
   ·rcases (j i).1 hi with hi | ⟨-,rfl⟩
    ·exact U y v.len i (n i hi) (v.ge i hi)
    ·have:=(m y v.len i (.inr rfl)).2 (.inl rfl); omega
  ·cases eq
   ·simp at hr;subst hr;refine ⟨f,fun e he=>?_,fun i hi=>?_⟩
    ·rcases he with he | ⟨h,_⟩
     ·exact G e he
     ·cases h
    ·rcases (j i).1 hi with hi | ⟨-,rfl⟩
     ·have:=n i hi; omega
     ·omega
   ·simp at hr
 ·
  intro x hx;have hc:=P (h.all x (old hx));cases q:eq with
  | true =>
   have B:dot a x=0:=hx.eq a (.inr ⟨q,rfl⟩);rw [wT f hx.len B] at hc;rw [q] at hc;exact .div _ w hx.len hc
  | false =>
   have B:0<=dot a x:=hx.ge a ((j a).2 (.inr ⟨q,rfl⟩));rw [q] at hc H;refine .div (dot a u) w hx.len ?_;have e:scl (dot a u) x=mix 1 (mv a u x) (dot a x) u:=aK (by rw [scl_length hx.len,mix_length (bA f hx.len) f]) fun i=>by
    rw [az,ak ((bA f hx.len).trans f.symm)];unfold mv;rw [ak (hx.len.trans f.symm)]; grind
   rw [e];exact .ray _ B hc (by simp)
 ·
  intro r hr;rcases VE.1 hr with hr | hr
  ·obtain ⟨y,hy,rfl⟩:=Vl.1 hr;obtain ⟨b,hb,hn⟩:=h.off y hy;obtain ⟨c,hc,e⟩:=lW (a:=a) u y;refine ⟨b,(j b).2 (.inl hb),fun h0=>?_⟩;rw [<- lB hc,e,wS f (h.lenR y hy),n b hb] at h0;rcases VH.1 (show dot a u*dot b y=0 by omega) with h1 | h1
   ·omega
   ·exact hn h1
  ·cases eq
   ·simp at hr;subst hr;exact ⟨a,(j a).2 (.inr ⟨rfl,rfl⟩),zO⟩
   ·simp at hr
 ·
  intro r hr y hy hs;have t:=old hy;rcases VE.1 hr with hr | hr
  ·obtain ⟨z,N,rfl⟩:=Vl.1 hr;have o:=h.lenR z N;have F:dot a y=0:=by
    cases eq
    ·exact hs a ((j a).2 (.inr ⟨rfl,rfl⟩)) ((m z o a (.inr rfl)).2 (.inl rfl))
    ·exact hy.eq a (.inr ⟨rfl,rfl⟩)
   obtain ⟨k,c,T,hc,W⟩:=h.ext z N y t (fun i hi h0=>hs i ((j i).2 (.inl hi)) ((m z o i (.inl (n i hi))).2 (.inr h0)));obtain ⟨p,L,e⟩:=lW (a:=a) u z;refine ⟨k*dot a u,c*p,W2 T w,V8 hc zO,?_⟩
   have:=I W
   have e2:mv a u (mix k y (-c) z)=mix (k*dot a u) y (-(c*p)) (foldV a u z):=aK (by rw [bA f (mix_length t.len o),mix_length t.len (fL f o)]) fun i=>by
    have e3:at_ (mv a u z) i=p*at_ (foldV a u z) i:=by rw [<- e,az]
    rw [ak (t.len.trans (fL f o).symm)];unfold mv at e3 ⊢;rw [ak ((mix_length t.len o).trans f.symm),ak (t.len.trans o.symm),aJ _ _ _ (t.len.trans o.symm),F];rw [ak (o.trans f.symm)] at e3
    grind
   rw [e2] at this;exact this
  ·cases q:eq with
   | true=>rw [q] at hr; simp at hr
   | false =>
    rw [q] at hr;simp at hr;subst hr;have F:0<=dot a y:=hy.ge a ((j a).2 (.inr ⟨q,rfl⟩));refine ⟨dot a r,dot a y,w,F,?_⟩
    have:=I (h.lin_of t fun i hi=>hs i ((j i).2 (.inl hi)) (n i hi))
    exact this
 ·
  refine XS.2 ⟨?_,by cases eq <;> simp,fun r hr s hs=>?_⟩
  ·refine WE.2 (h.apart.imp_of_mem fun {r s} hr hs hne h2=>hne fun i hi=>?_);have g:=h2 i ((j i).2 (.inl hi));rw [m r (h.lenR r hr) i (.inl (n i hi)),m s (h.lenR s hs) i (.inl (n i hi))] at g;by_cases M:i=a
   ·subst M; have:=n i hi; omega
   ·simpa [M] using g
  ·cases eq
   ·simp at hs;subst hs;obtain ⟨y,hy,rfl⟩:=Vl.1 hr;intro h2
    have:=(h2 a ((j a).2 (.inr ⟨rfl,rfl⟩))).1 ((m y (h.lenR y hy) a (.inr rfl)).2 (.inl rfl))
    omega
   ·simp at hs
def M0 (q:∀ x,L x->x.length=d) {p n:V} (hp:p.length=d) (hn:n.length=d) {y:V} (hy:Con d L (fun r=>r=p\/r=n) y) :
  ∃ k α β:Int,0<k/\0<=α/\0<=β/\Spn d L (mix k y (-1) (mix α p β n)):=by
 have s:∀ r,(r=p\/r=n)->r.length=d:=fun r hr=>by rcases hr with rfl | rfl <;> first | exact hp | exact hn
 induction hy with
 | zero =>
  refine ⟨1,0,0,zO,zO,zO,?_⟩;have e:mix 1 (kT d) (-1) (mix 0 p 0 n)=kT d:=aK (by rw [mix_length (ct d) (mix_length hp hn),ct]) fun i=>by
   rw [ak ((ct d).trans (mix_length hp hn).symm),ak (hp.trans hn.symm),ir]; grind
  rw [e]; exact .zero
 | @line x z c hx o m =>
  obtain ⟨k,α,β,b,g,l,h⟩:=m;have a:=hx.length q s;have f:=q _ o;refine ⟨k,α,β,b,g,l,?_⟩;have e:mix k (mix 1 x c z) (-1) (mix α p β n)=mix 1 (mix k x (-1) (mix α p β n)) (k*c) z:=aK (by rw [mix_length (mix_length a f) (mix_length hp hn),mix_length (mix_length a (mix_length hp hn)) f]) fun i=>by
   rw [ak ((mix_length a f).trans (mix_length hp hn).symm),ak (a.trans f.symm),ak ((mix_length a (mix_length hp hn)).trans f.symm),ak (a.trans (mix_length hp hn).symm)]; grind
  rw [e]; exact .line _ h o
 | @ray x z c hc hx o m =>
  obtain ⟨k,α,β,b,g,l,h⟩:=m;have a:=hx.length q s;rcases o with rfl | rfl
  ·refine ⟨k,α+k*c,β,b,by have:=V8 (Xl b) hc; omega,l,?_⟩;have e:mix k (mix 1 x c z) (-1) (mix (α+k*c) z β n)=mix k x (-1) (mix α z β n):=aK (by rw [mix_length (mix_length a hp) (mix_length hp hn),mix_length a (mix_length hp hn)]) fun i=>by
    rw [ak ((mix_length a hp).trans (mix_length hp hn).symm),ak (a.trans hp.symm),ak (hp.trans hn.symm),ak (a.trans (mix_length hp hn).symm),ak (hp.trans hn.symm)]; grind
   rw [e]; exact h
  ·refine ⟨k,α,β+k*c,b,g,by have:=V8 (Xl b) hc; omega,?_⟩;have e:mix k (mix 1 x c z) (-1) (mix α p (β+k*c) z)=mix k x (-1) (mix α p β z):=aK (by rw [mix_length (mix_length a hn) (mix_length hp hn),mix_length a (mix_length hp hn)]) fun i=>by
    rw [ak ((mix_length a hn).trans (mix_length hp hn).symm),ak (a.trans hn.symm),ak (hp.trans hn.symm),ak (a.trans (mix_length hp hn).symm),ak (hp.trans hn.symm)]; grind
   rw [e]; exact h
 | @div x j hj hl hx m =>
  obtain ⟨k,α,β,b,g,l,h⟩:=m;refine ⟨k*j,α,β,W2 b hj,g,l,?_⟩;have e:mix k (scl j x) (-1) (mix α p β n)=mix (k*j) x (-1) (mix α p β n):=aK (by rw [mix_length (scl_length hl) (mix_length hp hn),mix_length hl (mix_length hp hn)]) fun i=>by
   rw [ak ((scl_length hl).trans (mix_length hp hn).symm),az,ak (hl.trans (mix_length hp hn).symm)]; grind
  rw [e] at h; exact h
def idxs (R:List V) (f:V->Bool):List Nat:=(List.range R.length).filter fun i=>f (R.getD i [])
def nearB (l R:List V) (i k:Nat):Bool:=(List.range R.length).all fun t=>t == i || t == k || !(l.all fun b=>!(dot b (R.getD i []) == 0 && dot b (R.getD k []) == 0) || dot b (R.getD t []) == 0)
def cutL (l:List V) (a:V) (eq:Bool) (R:List V):List V :=
 (idxs R fun r=>dot a r == 0).map (R.getD · []) ++
 (idxs R fun r=>decide (0<dot a r)).flatMap fun i=>(if eq then [] else [R.getD i []]) ++
  ((idxs R fun r=>decide (dot a r<0)).filter (nearB l R i)).map fun k=>prime (mx a (R.getD i []) (R.getD k []))
def mem_idxs {f:V->Bool} {i:Nat}:i∈idxs R f ↔ ∃ r,R[i]? = some r/\f r=true:=by
 unfold idxs;rw [Vx,Wt];constructor
 ·rintro ⟨h1,h2⟩;exact ⟨R[i],Vk h1,by simpa [h1] using h2⟩
 ·rintro ⟨r,h1,h2⟩;obtain ⟨h3,rfl⟩:=VA.1 h1;exact ⟨h3,by simpa [h3] using h2⟩
def getD_of {i:Nat} {r:V} (h:R[i]? = some r):R.getD i []=r:=by simp [Vh,h]
def oL {i k:Nat} {p n:V} (hi:R[i]? = some p) (g:R[k]? = some n):nearB l R i k=true ↔ Gv l R i k p n:=by
 unfold nearB Gv;rw [getD_of hi,getD_of g,VJ];constructor
 ·intro h t q a c d f
  have:=h t (Wt.2 (VA.1 a).1)
  rw [getD_of a] at this;simp only [W9,beq_iff_eq,c,d,false_or,Wy,List.all_eq_false] at this;obtain ⟨b,hb,hn⟩:=this
  apply hn
  simp only [W9,Wy,Z4,beq_eq_false_iff_ne,beq_iff_eq];by_cases h1:dot b p=0
  ·by_cases h2:dot b n=0
   ·exact .inr (f b hb h1 h2)
   ·exact .inl (.inr h2)
  ·exact .inl (.inl h1)
 ·intro h t a;have a:=Wt.1 a;have e:R[t]? = some R[t]:=Vk a;rw [getD_of e];by_cases c:t=i
  ·simp [c]
  ·by_cases d:t=k
   ·simp [d]
   ·have:=h t _ e c d
    simp only [W9,beq_iff_eq,c,d,false_or,Wy,List.all_eq_false];simp only [Zf,Classical.not_imp] at this;obtain ⟨b,hb,h1,h2,h3⟩:=this;exact ⟨b,hb,by simp [h1,h2,h3]⟩
def mem_cutL {eq:Bool} {b:V}:b∈cutL l a eq R ↔ (∃ (i:Nat) (r:V),R[i]? = some r/\dot a r=0/\b=r)\/(∃ (i:Nat) (r:V),R[i]? = some r/\0<dot a r/\((eq=false/\b=r)\/∃ (k:Nat) (n:V),R[k]? = some n/\dot a n<0/\Gv l R i k r n/\b=prime (mx a r n))):=by
 unfold cutL;rw [VE,Vl,ZZ];constructor
 ·rintro (⟨i,hi,rfl⟩ | ⟨i,hi,h⟩)
  ·obtain ⟨r,h1,h2⟩:=mem_idxs.1 hi;exact .inl ⟨i,r,h1,by simpa using h2,getD_of h1⟩
  ·obtain ⟨r,h1,h2⟩:=mem_idxs.1 hi;refine .inr ⟨i,r,h1,by simpa using h2,?_⟩;rw [getD_of h1] at h;rcases VE.1 h with h | h
   ·cases eq
    ·exact .inl ⟨rfl,by simpa using h⟩
    ·simp at h
   ·obtain ⟨k,d,rfl⟩:=Vl.1 h;obtain ⟨e,f⟩:=Vx.1 d;obtain ⟨n,h3,c⟩:=mem_idxs.1 e;exact .inr ⟨k,n,h3,by simpa using c,(oL h1 h3).1 f,by rw [getD_of h3]⟩
 ·rintro (⟨i,r,h1,h2,rfl⟩ | ⟨i,r,h1,h2,h⟩)
  ·exact .inl ⟨i,mem_idxs.2 ⟨b,h1,by simp [h2]⟩,getD_of h1⟩
  ·refine .inr ⟨i,mem_idxs.2 ⟨r,h1,by simp [h2]⟩,?_⟩;rw [getD_of h1];rcases h with ⟨rfl,rfl⟩ | ⟨k,n,h3,c,h5,rfl⟩
   ·simp
   ·exact W3 _ (Vl.2 ⟨k,Vx.2 ⟨mem_idxs.2 ⟨n,h3,by simp [c]⟩,(oL h1 h3).2 h5⟩,by rw [getD_of h3]⟩)
def DQ (f:V->Bool):(idxs R f).Pairwise (· < ·):=XQ _ YV
def SC (h:DD d E (· ∈ l) L R) (M:∀ x,L x->dot a x=0) (eq:Bool) :
  DD d (fun e=>E e\/(eq=true/\e=a)) (· ∈ l++(if eq then [] else [a])) L (cutL l a eq R):=by
 have o:∀ i,i∈l++(if eq then [] else [a]) ↔ i∈l\/(eq=false/\i=a):=fun i=>by cases eq <;> simp
 have old:∀ {x},Keep d (fun e=>E e\/(eq=true/\e=a)) (· ∈ l++(if eq then [] else [a])) x->Keep d E (· ∈ l) x:=fun hx=>⟨hx.len,fun e he=>hx.eq e (.inl he),fun i hi=>hx.ge i ((o i).2 (.inl hi))⟩
 have f:∀ {i r},R[i]? = some r->Keep d E (· ∈ l) r:=fun h1=>h.keep _ (VD h1);have u:∀ {p n},Keep d E (· ∈ l) p->Keep d E (· ∈ l) n->0<dot a p->dot a n<0->Keep d E (· ∈ l) (prime (mx a p n))/\dot a (prime (mx a p n))=0/\∀ b∈l,(dot b (prime (mx a p n))=0 ↔ dot b p=0/\dot b n=0):=fun {p n} hp hn h1 h2=>by
  obtain ⟨c,hc,e⟩:=jN (mx a p n);have hm:=fH hp hn h1 h2;refine ⟨Keep.of_scl hc (by rw [prime_length]; exact hm.len) (by rw [e]; exact hm),(lB hc).1 (by rw [e]; exact pG hp.len hn.len),fun b hb=>?_⟩;rw [<- lB hc,e]; exact mE hp hn h1 h2 hb
 have K:∀ r,r∈cutL l a eq R->r.length=d:=fun r hr=>by
  rcases mem_cutL.1 hr with ⟨i,r,h1,h2,rfl⟩ | ⟨i,r,h1,h2,⟨h3,rfl⟩ | ⟨k,n,h3,m,h5,rfl⟩⟩
  ·exact (f h1).len
  ·exact (f h1).len
  ·exact (u (f h1) (f h3) h2 m).1.len
 have Q:∀ i j p n,R[i]? = some p->R[j]? = some n->0<dot a p->dot a n<0->Gv l R i j p n->Con d L (· ∈ cutL l a eq R) (mx a p n):=fun i j p n h1 h2 h3 m h5=>by
  obtain ⟨c,hc,e⟩:=jN (mx a p n);rw [<- e];have hm:prime (mx a p n)∈cutL l a eq R:=mem_cutL.2 (.inr ⟨i,p,h1,h3,.inr ⟨j,n,h2,m,h5,rfl⟩⟩);exact (Con.of_ray (K _ hm) hm).smul h.lenL K c zO
 refine ⟨h.lenL,?_,?_,?_,?_,?_,?_,?_,?_⟩
 ·intro x hx e he;rcases he with he | ⟨-,rfl⟩
  ·exact h.lineE x hx e he
  ·exact M x hx
 ·intro x hx i hi;rcases (o i).1 hi with hi | ⟨-,rfl⟩
  ·exact h.lineI x hx i hi
  ·exact M x hx
 ·intro x hx hE hI;exact h.lines x hx (fun e he=>hE e (.inl he)) (fun i hi=>hI i ((o i).2 (.inl hi)))
 ·
  intro r hr;rcases mem_cutL.1 hr with ⟨i,r,h1,h2,rfl⟩ | ⟨i,r,h1,h2,⟨h3,rfl⟩ | ⟨k,n,h3,m,h5,rfl⟩⟩
  ·refine ⟨(f h1).len,fun e he=>?_,fun i hi=>?_⟩
   ·rcases he with he | ⟨-,rfl⟩
    ·exact (f h1).eq e he
    ·exact h2
   ·rcases (o i).1 hi with hi | ⟨-,rfl⟩
    ·exact (f h1).ge i hi
    ·omega
  ·refine ⟨(f h1).len,fun e he=>?_,fun i hi=>?_⟩
   ·rcases he with he | ⟨h,rfl⟩
    ·exact (f h1).eq e he
    ·rw [h3] at h; cases h
   ·rcases (o i).1 hi with hi | ⟨-,rfl⟩
    ·exact (f h1).ge i hi
    ·omega
  ·obtain ⟨H,U,X⟩:=u (f h1) (f h3) h2 m;refine ⟨H.len,fun e he=>?_,fun i hi=>?_⟩
   ·rcases he with he | ⟨-,rfl⟩
    ·exact H.eq e he
    ·exact U
   ·rcases (o i).1 hi with hi | ⟨-,rfl⟩
    ·exact H.ge i hi
    ·omega
 ·
  intro x hx;cases T:eq with
  | true =>
   rw [T] at Q K;exact FU h M K (fun r hr e=>by
    obtain ⟨i,hi⟩:=V9 hr;exact mem_cutL.2 (.inl ⟨i,r,hi,e,rfl⟩)) Q _ x rfl (old hx) (hx.eq a (.inr ⟨T,rfl⟩))
  | false =>
   rw [T] at Q K;exact QB h M K (fun r hr e=>by
    obtain ⟨i,hi⟩:=V9 hr;by_cases h0:dot a r=0
    ·exact mem_cutL.2 (.inl ⟨i,r,hi,h0,rfl⟩)
    ·exact mem_cutL.2 (.inr ⟨i,r,hi,zO,.inl ⟨rfl,rfl⟩⟩)) Q _ x rfl (old hx) (hx.ge a ((o a).2 (.inr ⟨T,rfl⟩)))
 ·
  intro r hr;rcases mem_cutL.1 hr with ⟨i,r,h1,h2,rfl⟩ | ⟨i,r,h1,h2,⟨h3,rfl⟩ | ⟨k,n,h3,m,h5,rfl⟩⟩
  ·obtain ⟨b,hb,hn⟩:=h.off _ (VD h1);exact ⟨b,(o b).2 (.inl hb),hn⟩
  ·obtain ⟨b,hb,hn⟩:=h.off _ (VD h1);exact ⟨b,(o b).2 (.inl hb),hn⟩
  ·obtain ⟨b,hb,hn⟩:=h.off _ (VD h1);exact ⟨b,(o b).2 (.inl hb),fun e=>hn (((u (f h1) (f h3) h2 m).2.2 b hb).1 e).1⟩
 ·
  intro r hr y hy hs;have A:=old hy;rcases mem_cutL.1 hr with ⟨i,r,h1,h2,rfl⟩ | ⟨i,r,h1,h2,⟨h3,rfl⟩ | ⟨k,n,h3,m,h5,rfl⟩⟩
  ·exact h.ext _ (VD h1) y A fun i hi e=>hs i ((o i).2 (.inl hi)) e
  ·exact h.ext _ (VD h1) y A fun i hi e=>hs i ((o i).2 (.inl hi)) e
  ·obtain ⟨H,U,X⟩:=u (f h1) (f h3) h2 m;have ad:dot a y=0:=by
    cases eq
    ·exact hs a ((o a).2 (.inr ⟨rfl,rfl⟩)) U
    ·exact hy.eq a (.inr ⟨rfl,rfl⟩)
   have hf:=h.face (S:=fun b=>b∈l/\dot b r=0/\dot b n=0) (fun b hb=>hb.1) (h.all y A) (fun b hb=>hs b ((o b).2 (.inl hb.1)) ((X b hb.1).2 hb.2));have ae:Con d L (fun x=>x=r\/x=n) y:=hf.mono (fun _ h=>h) fun x hx=>by
    obtain ⟨t,G⟩:=V9 hx.1;by_cases aa:t=i
    ·rw [aa,h1] at G; cases G; exact .inl rfl
    ·by_cases ab:t=k
     ·rw [ab,h3] at G; cases G; exact .inr rfl
     ·exact absurd (fun b hb e1 e2=>hx.2 b ⟨hb,e1,e2⟩) (h5 t x G aa ab)
   have F:=(f h1).len;have D:=(f h3).len;obtain ⟨J,α,β,N,hα,hβ,Z⟩:=M0 h.lenL F D ae;have hz:=Con.dot_zero (a:=a) h.lenL (fun r h=>h.elim) (fun x hx=>M x hx) (fun r h=>h.elim) Z;rw [aJ _ _ _ (A.len.trans (mix_length F D).symm),ad,aJ _ _ _ (F.trans D.symm)] at hz;obtain ⟨c,hc,e⟩:=jN (mx a r n);refine ⟨dot a r*J,β*c,W2 h2 N,V8 hβ zO,?_⟩
   have:=Spn.smul h.lenL Z (dot a r)
   have e2:scl (dot a r) (mix J y (-1) (mix α r β n))=mix (dot a r*J) y (-(β*c)) (prime (mx a r n)):=aK (by rw [scl_length (mix_length A.len (mix_length F D)),mix_length A.len H.len]) fun i=>by
    have e3:at_ (mx a r n) i=c*at_ (prime (mx a r n)) i:=by rw [<- az,e]
    unfold mx at e3;rw [ak (F.trans D.symm)] at e3;rw [az,ak (A.len.trans (mix_length F D).symm),ak (F.trans D.symm),ak (A.len.trans H.len.symm)];unfold mx
    grind
   rw [e2] at this;exact this
 ·
  have hne:∀ {i j:Nat} {r s:V},R[i]? = some r->R[j]? = some s->i≠j->¬ ∀ b,b∈l++(if eq then [] else [a])->(dot b r=0 ↔ dot b s=0):=fun h1 h2 af h3=>af (h.same h1 h2 fun b hb=>h3 b ((o b).2 (.inl hb)));have O:∀ {i j:Nat} {r s:V},R[i]? = some r->R[j]? = some s->dot a r≠dot a s->i≠j:=fun h1 h2 h3 e=>by rw [e,h2] at h1; cases h1; exact h3 rfl
  unfold cutL;refine XS.2 ⟨?_,?_,fun r hr s hs=>?_⟩
  ·refine WE.2 ((DQ _).imp_of_mem fun {i j} hi hj hlt=>?_);obtain ⟨r,h1,_⟩:=mem_idxs.1 hi;obtain ⟨s,h2,_⟩:=mem_idxs.1 hj;rw [getD_of h1,getD_of h2];exact hne h1 h2 zO
  ·refine List.pairwise_flatMap.2 ⟨fun i hi=>?_,(DQ _).imp_of_mem fun {i j} hi hj hlt x hx y hy=>?_⟩
   ·obtain ⟨p,h1,h2⟩:=mem_idxs.1 hi;have h2:0<dot a p:=by simpa using h2
    refine XS.2 ⟨by cases eq <;> simp,?_,fun x hx y hy=>?_⟩
    ·refine WE.2 (((DQ _).filter _).imp_of_mem fun {k J} v N hlt=>?_);obtain ⟨w,z⟩:=Vx.1 v;obtain ⟨W,ag⟩:=Vx.1 N;obtain ⟨n,h3,m⟩:=mem_idxs.1 w;obtain ⟨n',B,C⟩:=mem_idxs.1 W;have m:dot a n<0:=by simpa using m
     have C:dot a n'<0:=by simpa using C
     rw [getD_of h1,getD_of h3,getD_of B];intro h5;refine (oL h1 h3).1 z J n' B (O B h1 zO) zO fun b hb e1 e2=>?_;have g:=(h5 b ((o b).2 (.inl hb))).1 (((u (f h1) (f h3) h2 m).2.2 b hb).2 ⟨e1,e2⟩);exact (((u (f h1) (f B) h2 C).2.2 b hb).1 g).2
    ·obtain ⟨k,v,rfl⟩:=Vl.1 hy;obtain ⟨w,z⟩:=Vx.1 v;obtain ⟨n,h3,m⟩:=mem_idxs.1 w;have m:dot a n<0:=by simpa using m
     rw [getD_of h1] at hx ⊢;rw [getD_of h3];cases eq
     ·simp at hx;subst hx;intro h5
      have:=(h5 a ((o a).2 (.inr ⟨rfl,rfl⟩))).2 (u (f h1) (f h3) h2 m).2.1
      omega
     ·simp at hx
   ·obtain ⟨p,h1,h2⟩:=mem_idxs.1 hi;obtain ⟨q,I,P⟩:=mem_idxs.1 hj;have h2:0<dot a p:=by simpa using h2
    have P:0<dot a q:=by simpa using P
    rw [getD_of h1] at hx;rw [getD_of I] at hy;rcases VE.1 hx with hx | hx <;> rcases VE.1 hy with hy | hy
    ·cases eq
     ·simp at hx hy; subst hx; subst hy; exact hne h1 I zO
     ·simp at hx
    ·obtain ⟨k,v,rfl⟩:=Vl.1 hy;obtain ⟨w,z⟩:=Vx.1 v;obtain ⟨n,h3,m⟩:=mem_idxs.1 w;have m:dot a n<0:=by simpa using m
     rw [getD_of h3];cases eq
     ·simp at hx;subst hx;intro h5
      have:=(h5 a ((o a).2 (.inr ⟨rfl,rfl⟩))).2 (u (f I) (f h3) P m).2.1
      omega
     ·simp at hx
    ·obtain ⟨k,v,rfl⟩:=Vl.1 hx;obtain ⟨w,z⟩:=Vx.1 v;obtain ⟨n,h3,m⟩:=mem_idxs.1 w;have m:dot a n<0:=by simpa using m
     rw [getD_of h3];cases eq
     ·simp at hy;subst hy;intro h5
      have:=(h5 a ((o a).2 (.inr ⟨rfl,rfl⟩))).1 (u (f h1) (f h3) h2 m).2.1
      omega
     ·simp at hy
    ·obtain ⟨k,v,rfl⟩:=Vl.1 hx;obtain ⟨J,N,rfl⟩:=Vl.1 hy;obtain ⟨w,z⟩:=Vx.1 v;obtain ⟨W,ag⟩:=Vx.1 N;obtain ⟨n,h3,m⟩:=mem_idxs.1 w;obtain ⟨n',B,C⟩:=mem_idxs.1 W;have m:dot a n<0:=by simpa using m
     have C:dot a n'<0:=by simpa using C
     rw [getD_of h3,getD_of B];intro h5;refine (oL h1 h3).1 z j q I zO (O I h3 zO) fun b hb e1 e2=>?_;have g:=(h5 b ((o b).2 (.inl hb))).1 (((u (f h1) (f h3) h2 m).2.2 b hb).2 ⟨e1,e2⟩);exact (((u (f I) (f B) P C).2.2 b hb).1 g).1
  ·obtain ⟨t,G,rfl⟩:=Vl.1 hr;obtain ⟨q,h0,Y⟩:=mem_idxs.1 G;have Y:dot a q=0:=by simpa using Y
   obtain ⟨i,hi,hs⟩:=ZZ.1 hs;obtain ⟨p,h1,h2⟩:=mem_idxs.1 hi;have h2:0<dot a p:=by simpa using h2
   rw [getD_of h0];rw [getD_of h1] at hs;rcases VE.1 hs with hs | hs
   ·cases eq
    ·simp at hs; subst hs; exact hne h0 h1 (O h0 h1 zO)
    ·simp at hs
   ·obtain ⟨k,v,rfl⟩:=Vl.1 hs;obtain ⟨w,z⟩:=Vx.1 v;obtain ⟨n,h3,m⟩:=mem_idxs.1 w;have m:dot a n<0:=by simpa using m
    rw [getD_of h3];intro h5;refine (oL h1 h3).1 z t q h0 (O h0 h1 zO) (O h0 h3 zO) fun b hb e1 e2=>?_;exact (h5 b ((o b).2 (.inl hb))).2 (((u (f h1) (f h3) h2 m).2.2 b hb).2 ⟨e1,e2⟩)
end
def kz {x:V} {g:Int} (h:∀ a∈x,g ∣ a):g ∣ (content x:Int):=by
 have key:∀ (x:V) (n:Nat),g ∣ (n:Int)->(∀ a∈x,g ∣ a)->g ∣ ((x.foldl (fun g a=>Nat.gcd g a.natAbs) n:Nat):Int):=by
  intro x
  induction x with
  | nil=>intro n hn _; exact hn
  | cons b x c =>
   intro n hn hx;simp only [Wn];refine c _ ?_ fun a ha=>hx a (Vn _ ha);have h1:g.natAbs ∣ n:=by have:=Yx.2 hn; simpa using this
   have h2:g.natAbs ∣ b.natAbs:=Yx.2 (hx b (Vt ..));exact Int.natAbs_dvd.1 (Int.ofNat_dvd.2 (Nat.dvd_gcd h1 h2))
 exact key x 0 (Int.dvd_zero g) h
def content_eq_zero {x:V}:content x=0 ↔ ∀ a∈x,a=0:=by
 constructor
 ·intro h a ha
  have:=content_dvd ha
  rw [h] at this;exact Int.zero_dvd.1 this
 ·intro h
  have:(0:Int) ∣ (content x:Int):=kz fun a ha=>by rw [h a ha]; exact Int.dvd_zero 0
  have:=Int.zero_dvd.1 this
  omega
def HH {x:V} {a:Int} (h:a∈x):∃ i,at_ x i=a:=by
 obtain ⟨i,hi⟩:=V9 h;exact ⟨i,by simp [at_,hi]⟩
def OU {x:V} {i:Nat} (h:at_ x i≠0):at_ x i∈x:=by
 unfold at_ at h ⊢;rw [Vh] at h ⊢;cases hx:x[i]? with
 | none=>rw [hx] at h; exact absurd rfl h
 | some y=>exact VD hx
def zero_iff {x:V}:(∀ a∈x,a=0) ↔ ∀ i,at_ x i=0:=by
 constructor
 ·intro h i;by_cases h0:at_ x i=0
  ·exact h0
  ·exact h _ (OU h0)
 ·intro h a ha;obtain ⟨i,rfl⟩:=HH ha;exact h i
def If {d:Nat} {x:V} (hx:x.length=d):x=kT d ↔ ∀ i,at_ x i=0:=by
 constructor
 ·rintro rfl i; exact ir
 ·intro h; exact aK (by rw [hx,ct]) fun i=>by rw [h i,ir]
def nt {c:Int} (hc:0<c) (x:V):(content (scl c x):Int)=c*content x:=by
 refine Int.dvd_antisymm ?_ ?_ ?_ ?_
 ·omega
 ·have:=V8 (Xl hc) (Int.natCast_nonneg (content x)); exact this
 ·
  by_cases h0:content x=0
  ·rw [h0]; simp
  ·have h1:∀ a∈x,(content (scl c x):Int) ∣ c*a:=fun a ha=>content_dvd (Xc ha);have h2:c ∣ (content (scl c x):Int):=kz fun a ha=>by
    obtain ⟨b,-,rfl⟩:=Vl.1 ha;exact Int.dvd_mul_right _ _
   obtain ⟨g,hg⟩:=h2;rw [hg];refine Int.mul_dvd_mul_left c (kz fun a ha=>?_)
   have:=h1 a ha
   rw [hg] at this;exact Int.dvd_of_mul_dvd_mul_left zO this
 ·refine kz fun a ha=>?_;obtain ⟨b,hb,rfl⟩:=Vl.1 ha;exact Int.mul_dvd_mul_left c (content_dvd hb)
def iy {x:V} (h:∃ i,at_ x i≠0):content (prime x)=1:=by
 have h0:content x≠0:=fun e=>by
  obtain ⟨i,hi⟩:=h;exact hi (zero_iff.1 (content_eq_zero.1 e) i)
 have e:scl (content x:Int) (prime x)=x:=by
  unfold prime scl;rw [if_neg h0,Xu]
  conv=>rhs; rw [<- YR x]
  exact Xb fun a ha=>Int.mul_ediv_cancel' (content_dvd ha)
 have:=nt (show (0:Int)<content x by omega) (prime x)
 rw [e] at this;have h2:(content x:Int)*1=content x*content (prime x):=zO
 have:=ZK zO h2
 omega
def uH {x y:V} (hx:content x=1) (hy:content y=1) {m n:Int} (hm:0<m) (hn:0<n) (h:scl m x=scl n y):x=y:=by
 have h1:=nt hm x;have h2:=nt hn y;rw [hx] at h1;rw [hy] at h2;rw [h] at h1;have e:m=n:=zO;subst e;have hl:x.length=y.length:=by have:=congrArg List.length h; simpa [scl] using this
 refine aK hl fun i=>?_
 have:=congrArg (fun z=>at_ z i) h
 simp only [az] at this;exact ZK zO this
def kr {x:V} (i:Nat):(at_ (prime x) i=0 ↔ at_ x i=0)/\(0<at_ (prime x) i ↔ 0<at_ x i):=by
 obtain ⟨c,hc,e⟩:=jN x
 have:at_ x i=c*at_ (prime x) i:=by rw [<- az,e]
 rw [this];refine ⟨⟨fun h=>by rw [h]; simp,fun h=>?_⟩,⟨fun h=>W2 hc h,fun h=>?_⟩⟩
 ·rcases VH.1 h with h1 | h1
  ·omega
  ·exact h1
 ·exact Int.pos_of_mul_pos_right h hc
def before (a b:Nat):Bool:=a != b && (a != 0 && (b == 0 || decide (a<b)))
def rank (i d:Nat):Nat:=if i=0 then d else i
def before_iff {a b d:Nat} (ha:a<d) (hb:b<d):before a b=true ↔ rank a d<rank b d:=by
 unfold before rank;simp only [VU,bne_iff_ne,W9,beq_iff_eq,decide_eq_true_eq];split <;> split <;> omega
def places (d:Nat):List Nat:=(List.range' 1 (d-1))++(if d=0 then [] else [0])
def pivot (a:V):Option Nat:=(places a.length).find? fun i=>!decide (at_ a i=0)
def pv (a:V):Nat:=(pivot a).getD 0
def mem_places {d i:Nat}:i∈places d ↔ i<d:=by
 unfold places;rw [VE,ZO];by_cases hd:d=0
 ·simp [hd]; omega
 ·simp [hd]; omega
def sQ (d:Nat):(places d).Pairwise fun a b=>before a b=true:=by
 unfold places;refine XS.2 ⟨?_,by split <;> simp,fun a ha b hb=>?_⟩
 ·refine XO (fun {a b} ha hb h=>?_) (List.pairwise_lt_range' (s:=1) (n:=d-1));rw [ZO] at ha hb;unfold before;simp only [VU,bne_iff_ne,W9,beq_iff_eq,decide_eq_true_eq];omega
 ·rw [ZO] at ha;split at hb
  ·cases hb
  ·simp only [Wl] at hb;subst hb;unfold before
   simp
   omega
def pivot_some {a:V} {p:Nat}:pivot a=some p ↔ p<a.length/\at_ a p≠0/\∀ q,q<a.length->before q p=true->at_ a q=0:=by
 unfold pivot;rw [List.find?_eq_some_iff_append];constructor
 ·rintro ⟨h1,l1,l2,e,h2⟩;have hp:p∈places a.length:=by rw [e]; simp
  refine ⟨mem_places.1 hp,by simpa using h1,fun q b hb=>?_⟩;have c:q∈places a.length:=mem_places.2 b;rw [e] at c;rcases VE.1 c with h | h
  ·have:=h2 q h; simpa using this
  ·exfalso
   have hs:=sQ a.length;rw [e] at hs;have hs:=(XS.1 hs).2.1;rcases VK.1 h with rfl | h
   ·simp [before] at hb
   ·have:=(Xh.1 hs).1 q h
    unfold before at this hb;simp only [VU,bne_iff_ne,W9,beq_iff_eq,decide_eq_true_eq] at this hb;omega
 ·rintro ⟨h1,h2,h3⟩;obtain ⟨l1,l2,e⟩:=List.append_of_mem (mem_places.2 h1);refine ⟨by simpa using h2,l1,l2,e,fun q b=>?_⟩;have hs:=sQ a.length;rw [e] at hs;have hb:=(XS.1 hs).2.2 q b p (Vt ..);have d:q<a.length:=mem_places.1 (by rw [e]; exact WH _ b)
  simpa using h3 q d hb
def pivot_none {a:V}:pivot a=none ↔ ∀ i,at_ a i=0:=by
 unfold pivot;rw [List.find?_eq_none];constructor
 ·intro h i;by_cases hi:i<a.length
  ·have:=h i (mem_places.2 hi); simpa using this
  ·simp [at_,Vh,VS (Xm hi)]
 ·intro h i _;simp [h i]
def NE {a:V} {p:Nat} (h:pivot a=some p):pv a=p:=by simp [pv,h]
def wo (a u:V) (p:Nat):V:=if at_ a p=0 then a else prime (mix (at_ u p) a (-(at_ a p)) u)
def restF (F:List V) (a:V):V:=F.foldl (fun a r=>wo a r (pv r)) (prime a)
def signed (a:V) (p:Nat):V:=if at_ a p<0 then scl (-1) a else a
def insP (x:V) (p:Nat):List V->List V
 | []=>[x]
 | r :: F=>if before (pv r) p=true then r :: insP x p F else x :: r :: F
def putF (F:List V) (a:V):List V :=
 match pivot (restF F a) with
 | none=>F
 | some p=>insP (signed (restF F a) p) p (F.map fun r=>wo r (signed (restF F a) p) p)
def formF (l:List V):List V:=l.foldl putF []
structure Ech (d:Nat) (F:List V):Prop where
 len:∀ r∈F,r.length=d
 piv:∀ r∈F,∃ p,pivot r=some p/\0<at_ r p
 cont:∀ r∈F,content r=1
 clear:F.Pairwise fun r s=>at_ r (pv s)=0/\at_ s (pv r)=0
 sorted:F.Pairwise fun r s=>before (pv r) (pv s)=true
def Ech.nil (d:Nat):Ech d []:=⟨by simp,by simp,by simp,by simp,by simp⟩
section
variable {d:Nat} {F:List V}
def Ech.pos (h:Ech d F) {r:V} (hr:r∈F):pivot r=some (pv r)/\0<at_ r (pv r)/\pv r<d:=by
 obtain ⟨p,hp,h0⟩:=h.piv r hr;rw [NE hp];exact ⟨hp,h0,h.len r hr ▸ (pivot_some.1 hp).1⟩
def Ech.clear_of (h:Ech d F) {r s:V} (hr:r∈F) (hs:s∈F) (hne:r≠s):at_ r (pv s)=0:=by
 obtain ⟨i,hi⟩:=V9 hr;obtain ⟨j,hj⟩:=V9 hs;obtain ⟨a,rfl⟩:=VA.1 hi;obtain ⟨b,rfl⟩:=VA.1 hj;rcases X7 i j with hlt | heq | hlt
 ·exact (V2.1 h.clear i j a b hlt).1
 ·subst heq; exact absurd rfl hne
 ·exact (V2.1 h.clear j i b a hlt).2
def BJ (a:Nat):before a a=false:=by simp [before]
def Ech.pv_inj (h:Ech d F) {r s:V} (hr:r∈F) (hs:s∈F) (he:pv r=pv s):r=s:=by
 by_cases hne:r=s
 ·exact hne
 ·exfalso
  have:=h.clear_of hr hs hne
  rw [<- he] at this
  have:=(h.pos hr).2.1
  omega
def OS {a u:V} {p:Nat} (ha:a.length=d) (b:u.length=d) (h:0<at_ u p):∃ k:Int,0<k/\∃ c:Int,0<c/\∃ s:Int,scl k (wo a u p)=mix c a s u/\((s=0) ↔ (at_ a p=0)):=by
 unfold wo;split
 ·rename_i h0;refine ⟨1,zO,1,zO,0,aK (by rw [scl_length ha,mix_length ha b]) fun i=>?_,by simp [h0]⟩;rw [az,ak (ha.trans b.symm)]; grind
 ·rename_i h0;obtain ⟨k,f,e⟩:=jN (mix (at_ u p) a (-(at_ a p)) u);exact ⟨k,f,at_ u p,h,-(at_ a p),e,by simp [h0]⟩
def wo_length {a u:V} {p:Nat} (ha:a.length=d) (b:u.length=d):(wo a u p).length=d:=by
 unfold wo;split
 ·exact ha
 ·rw [prime_length]; exact mix_length ha b
def CY {a u:V} {p:Nat} (ha:a.length=d) (b:u.length=d) (h:0<at_ u p):at_ (wo a u p) p=0:=by
 unfold wo;split
 ·rename_i h0; exact h0
 ·rw [(kr p).1,ak (ha.trans b.symm)]; grind
def yK {a u:V} {p q:Nat} (ha:a.length=d) (c:u.length=d) (h0:at_ u q=0):at_ a q=0->at_ (wo a u p) q=0:=by
 intro b;unfold wo;split
 ·exact b
 ·rw [(kr q).1,ak (ha.trans c.symm),b,h0]; simp
def RC {a u:V} {p q:Nat} (ha:a.length=d) (c:u.length=d) (h:0<at_ u p) (h0:at_ u q=0) (b:0<at_ a q):0<at_ (wo a u p) q:=by
 unfold wo;split
 ·exact b
 ·rw [(kr q).2,ak (ha.trans c.symm),h0]
  have:=W2 h b
  simpa using this
def IF {a u:V} {p q:Nat} (ha:a.length=d) (c:u.length=d) (hc:content a=1) (b:at_ (wo a u p) q≠0):content (wo a u p)=1:=by
 unfold wo at b ⊢;split at b
 ·rename_i h0; rw [if_pos h0]; exact hc
 ·rename_i h0;rw [if_neg h0];exact iy ⟨q,fun e=>b ((kr q).1.2 e)⟩
def oE {A B:V->Prop} (hA:∀ x,A x->x.length=d) (a:∀ x,B x->x.length=d) (h:∀ x,A x->Spn d B x) {x:V} (hx:Spn d A x):Spn d B x :=
 Con.trans a (fun r h=>h.elim) (fun l hl c=>Spn.smul a (h l hl) c) (fun r h=>h.elim) hA (fun r h=>h.elim) hx
def dI {B:V->Prop} {x:V} (hx:x.length=d) (h:B x):Spn d B x:=by
 have:=Con.of_line (d:=d) (L:=B) (R:=fun _=>False) hx h 1
 rw [uC] at this; exact this
def pi {B:V->Prop} (a:∀ x,B x->x.length=d) {x:V} (hx:x.length=d) {k:Int} (b:k≠0) (h:Spn d B (scl k x)):Spn d B x:=by
 rcases Int.lt_or_gt_of_ne b with h0 | h0
 ·have:=Spn.smul a h (-1)
  have e:scl (-1) (scl k x)=scl (-k) x:=aK (by simp [scl]) fun i=>by rw [az,az,az]; grind
  rw [e] at this;exact .div (-k) zO hx this
 ·exact .div k h0 hx h
def IS (h:Ech d F):∀ (G:List V) (done:List V),done++G=F->∀ a:V,a.length=d->(∀ r∈done,at_ a (pv r)=0) ->
  (G.foldl (fun a r=>wo a r (pv r)) a).length=d/\(∀ r∈F,at_ (G.foldl (fun a r=>wo a r (pv r)) a) (pv r)=0) /\
  (∃ m k:Int,0<m/\0<k/\Spn d (· ∈ F) (mix m (G.foldl (fun a r=>wo a r (pv r)) a) (-k) a)) /\
  ((content a=1\/∀ i,at_ a i=0)->(content (G.foldl (fun a r=>wo a r (pv r)) a)=1\/∀ i,at_ (G.foldl (fun a r=>wo a r (pv r)) a) i=0))
 | [],done,e,a,ha,hd=>by
  rw [Wv] at e;subst e;refine ⟨ha,hd,⟨1,1,zO,zO,?_⟩,fun h=>h⟩
  have:mix 1 a (-1) a=kT d:=aK (by rw [mix_length ha ha,ct]) fun i=>by rw [ak rfl,ir]; grind
  show Spn d _ (mix 1 a (-1) a);rw [this]; exact .zero
 | r :: G,done,e,a,ha,hd=>by
  have hr:r∈F:=by rw [<- e]; simp
  have b:=h.len r hr;obtain ⟨z,g,A⟩:=h.pos hr;have y:∀ s∈done++[r],at_ (wo a r (pv r)) (pv s)=0:=fun s hs=>by
   rcases VE.1 hs with hs | hs
   ·have w:s∈F:=by rw [<- e]; exact WH _ hs
    by_cases hne:r=s
    ·subst hne; exact CY ha b g
    ·exact yK ha b (h.clear_of hr w hne) (hd s hs)
   ·simp only [Wl] at hs;subst hs;exact CY ha b g
  obtain ⟨f,o,⟨m,k,hm,u,p⟩,t⟩:=IS h G (done++[r]) (by rw [W7]; exact e) (wo a r (pv r)) (wo_length ha b) y;simp only [Wn];refine ⟨f,o,?_,fun hc=>t ?_⟩
  ·obtain ⟨k1,v,c,hc,s,e1,_⟩:=OS ha b g;refine ⟨m*k1,k*c,W2 hm v,W2 u hc,?_⟩;have t1:=Spn.smul (fun x hx=>h.len x hx) p k1;have n:=Spn.sum2 (fun x hx=>h.len x hx) t1 (dI (d:=d) (B:=(· ∈ F)) b hr) 1 (k*s);have e2:mix 1 (scl k1 (mix m (G.foldl (fun a r=>wo a r (pv r)) (wo a r (pv r))) (-k) (wo a r (pv r)))) (k*s) r=mix (m*k1) (G.foldl (fun a r=>wo a r (pv r)) (wo a r (pv r))) (-(k*c)) a :=
    aK (by rw [mix_length (scl_length (mix_length f (wo_length ha b))) b,mix_length f ha]) fun i=>by
     have e3:k1*at_ (wo a r (pv r)) i=c*at_ a i+s*at_ r i:=by rw [<- az,e1,ak (ha.trans b.symm)]
     rw [ak ((scl_length (mix_length f (wo_length ha b))).trans b.symm),az,ak (f.trans (wo_length ha b).symm),ak (f.trans ha.symm)]
     grind
   rw [e2] at n;exact n
  ·by_cases l:∀ i,at_ (wo a r (pv r)) i=0
   ·exact .inr l
   ·refine .inl ?_;have ⟨q,j⟩:∃ q,at_ (wo a r (pv r)) q≠0:=Zf.1 l;rcases hc with hc | hc
    ·exact IF ha b hc j
    ·exfalso
     have:wo a r (pv r)=a:=by unfold wo; rw [if_pos (hc _)]
     rw [this] at j;exact j (hc q)
def E6 (h:Ech d F) {a:V} (ha:a.length=d) :
  (restF F a).length=d/\(∀ r∈F,at_ (restF F a) (pv r)=0)/\(∃ m k:Int,0<m/\0<k/\Spn d (· ∈ F) (mix m (restF F a) (-k) a))/\(content (restF F a)=1\/∀ i,at_ (restF F a) i=0):=by
 have hl:(prime a).length=d:=by rw [prime_length]; exact ha
 obtain ⟨b,g,⟨m,k,hm,n,j⟩,l⟩:=IS h F [] rfl (prime a) hl (by simp);obtain ⟨c,hc,e⟩:=jN a;refine ⟨b,g,⟨m*c,k,W2 hm hc,n,?_⟩,l ?_⟩
 ·have t:=Spn.smul (fun x hx=>h.len x hx) j c;have e2:scl c (mix m (F.foldl (fun a r=>wo a r (pv r)) (prime a)) (-k) (prime a))=mix (m*c) (restF F a) (-k) a:=aK (by rw [scl_length (mix_length b hl),mix_length (show (restF F a).length=d from b) ha]) fun i=>by
   have e3:at_ a i=c*at_ (prime a) i:=by rw [<- az,e]
   rw [az,ak (b.trans hl.symm)];unfold restF;rw [ak (b.trans ha.symm),e3]; grind
  rw [e2] at t; exact t
 ·by_cases f:∀ i,at_ a i=0
  ·exact .inr fun i=>(kr i).1.2 (f i)
  ·exact .inl (iy (Zf.1 f))
def signed_length {a:V} {p:Nat} (ha:a.length=d):(signed a p).length=d:=by unfold signed; split <;> simp [scl,ha]
def Kz {a:V} {p:Nat} (q:Nat):at_ (signed a p) q=0 ↔ at_ a q=0:=by
 unfold signed;split
 ·rw [az]; omega
 ·exact Zd
def GU {a:V} {p:Nat} (h:at_ a p≠0):0<at_ (signed a p) p:=by
 unfold signed;split
 ·rw [az]; omega
 ·omega
def zx {B:V->Prop} (b:∀ x,B x->x.length=d) {a:V} {p:Nat} (ha:a.length=d):Spn d B (signed a p) ↔ Spn d B a:=by
 unfold signed;split
 ·exact ⟨fun h=>pi b ha zO h,fun h=>Spn.smul b h (-1)⟩
 ·exact Zd
def ya (a:V):content (scl (-1) a)=content a:=by
 have key:∀ (x:V) (g:Nat),(scl (-1) x).foldl (fun g a=>Nat.gcd g a.natAbs) g=x.foldl (fun g a=>Nat.gcd g a.natAbs) g:=by
  intro x
  induction x with
  | nil=>intro g; rfl
  | cons b x c =>
   intro g;simp only [scl,Vq,Wn] at c ⊢;rw [show (-1*b).natAbs=b.natAbs by rw [Int.neg_one_mul,Yk]];exact c _
 exact key a 0
def EV {a:V} {p:Nat} (h:content a=1):content (signed a p)=1:=by
 unfold signed;split
 ·rw [ya]; exact h
 ·exact h
def mem_insP {x y:V} {p:Nat}:∀ {G:List V},y∈insP x p G ↔ y=x\/y∈G
 | []=>by simp [insP]
 | r :: G=>by
  unfold insP;split
  ·rw [VK,mem_insP,VK];constructor
   ·rintro (h | h | h)
    ·exact .inr (.inl h)
    ·exact .inl h
    ·exact .inr (.inr h)
   ·rintro (h | h | h)
    ·exact .inr (.inl h)
    ·exact .inl h
    ·exact .inr (.inr h)
  ·simp
def sR {a:V->V->Prop} {x:V} {p:Nat}:∀ {G:List V},G.Pairwise a->(∀ r∈G,a r x/\a x r)->(insP x p G).Pairwise a
 | [],_,_=>by simp [insP]
 | r :: G,h,hx=>by
  obtain ⟨h1,h2⟩:=Xh.1 h;unfold insP;split
  ·refine Xh.2 ⟨fun y hy=>?_,sR h2 fun s hs=>hx s (Vn _ hs)⟩;rcases mem_insP.1 hy with rfl | hy
   ·exact (hx r (Vt ..)).1
   ·exact h1 y hy
  ·refine Xh.2 ⟨fun y hy=>(hx y hy).2,h⟩
def lD {a b c d:Nat} (ha:a<d) (hb:b<d) (hc:c<d) (h1:before a b=true) (h2:before b c=true):before a c=true:=by
 rw [before_iff ha hb] at h1;rw [before_iff hb hc] at h2;rw [before_iff ha hc];omega
def pP {a b d:Nat} (ha:a<d) (hb:b<d) (hne:a≠b):before a b=true\/before b a=true:=by
 rw [before_iff ha hb,before_iff hb ha];unfold rank;split <;> split <;> omega
def xR {x:V} {p:Nat} (hp:pv x=p) (b:p<d):∀ {G:List V},(∀ r∈G,pv r<d/\pv r≠p)->G.Pairwise (fun r s=>before (pv r) (pv s)=true)->(insP x p G).Pairwise (fun r s=>before (pv r) (pv s)=true)
 | [],_,_=>by simp [insP]
 | r :: G,a,h=>by
  obtain ⟨h1,h2⟩:=Xh.1 h;obtain ⟨e,f⟩:=a r (Vt ..);unfold insP;split
  ·rename_i hb;refine Xh.2 ⟨fun y hy=>?_,xR hp b (fun s hs=>a s (Vn _ hs)) h2⟩;rcases mem_insP.1 hy with rfl | hy
   ·rw [hp]; exact hb
   ·exact h1 y hy
  ·rename_i hb;have c:before p (pv r)=true:=(pP e b f).resolve_left hb;refine Xh.2 ⟨fun y hy=>?_,h⟩;rw [hp];rcases VK.1 hy with rfl | hy
   ·exact c
   ·exact lD b e (a y (Vn _ hy)).1 c (h1 y hy)
def put_ech (h:Ech d F) {a:V} (ha:a.length=d):Ech d (putF F a)/\∀ x,Spn d (· ∈ putF F a) x ↔ Spn d (fun y=>y∈F\/y=a) x:=by
 obtain ⟨g,R,⟨m,k,hm,W,D⟩,S⟩:=E6 h ha;have n:∀ y,(y∈F\/y=a)->y.length=d:=fun y hy=>by rcases hy with hy | rfl <;> first | exact h.len y hy | exact ha
 unfold putF;split
 ·rename_i hn;have H:=pivot_none.1 hn;refine ⟨h,fun x=>⟨fun hx=>hx.mono (fun y hy=>.inl hy) (fun r h=>h),fun hx=>oE n (fun y hy=>h.len y hy) (fun y hy=>?_) hx⟩⟩;rcases hy with hy | rfl
  ·exact dI (h.len y hy) hy
  ·have e:mix m (restF F y) (-k) y=scl (-k) y:=aK (by rw [mix_length g ha,scl_length ha]) fun i=>by rw [ak (g.trans ha.symm),az,H i]; simp
   rw [e] at D;exact pi (fun x hx=>h.len x hx) ha zO D
 ·rename_i p hp;obtain ⟨z,L,M⟩:=pivot_some.1 hp;rw [g] at z M
  generalize hb:signed (restF F a) p=b at *
  have f:b.length=d:=by rw [<- hb]; exact signed_length g
  have C:0<at_ b p:=by rw [<- hb]; exact GU L
  have K:∀ q,at_ b q=0 ↔ at_ (restF F a) q=0:=fun q=>by rw [<- hb]; exact Kz q
  have T:content b=1:=by
   rw [<- hb];exact EV (S.resolve_right fun H=>L (H p))
  have G:pivot b=some p:=pivot_some.2 ⟨by rw [f]; exact z,zO,fun q v E=>by rw [f] at v; exact (K q).2 (M q v E)⟩;have w:∀ r∈F,at_ b (pv r)=0:=fun r hr=>(K _).2 (R r hr);have N:∀ r∈F,pv r≠p:=fun r hr e=>by have:=w r hr; rw [e] at this; omega
  have j:∀ r∈F,(wo r b p).length=d/\pivot (wo r b p)=some (pv r)/\0<at_ (wo r b p) (pv r)/\content (wo r b p)=1/\at_ (wo r b p) p=0:=fun r hr=>by
   have l:=h.len r hr;obtain ⟨q1,q2,q3⟩:=h.pos hr;have w1:=RC l f C (w r hr) q2;refine ⟨wo_length l f,pivot_some.2 ⟨by rw [wo_length l f]; exact q3,zO,fun q v E=>?_⟩,w1,IF l f (h.cont r hr) (q:=pv r) zO,CY l f C⟩;rw [wo_length l f] at v;have Q:at_ r q=0:=(pivot_some.1 q1).2.2 q (by rw [l]; exact v) E;rcases pP q3 z (N r hr) with hbf | hbf
   ·exact yK l f ((pivot_some.1 G).2.2 q (by rw [f]; exact v) (lD v q3 z E hbf)) Q
   ·have:at_ r p=0:=(pivot_some.1 q1).2.2 p (by rw [l]; exact z) hbf
    unfold wo;rw [if_pos this];exact Q
  have A:∀ r∈F,pv (wo r b p)=pv r:=fun r hr=>NE (j r hr).2.1;have O:pv b=p:=NE G;have u:∀ y,y∈insP b p (F.map fun r=>wo r b p) ↔ y=b\/∃ r∈F,wo r b p=y:=fun y=>by rw [mem_insP,Vl]
  refine ⟨⟨?_,?_,?_,?_,?_⟩,?_⟩
  ·intro y hy;rcases (u y).1 hy with rfl | ⟨r,hr,rfl⟩
   ·exact f
   ·exact (j r hr).1
  ·intro y hy;rcases (u y).1 hy with rfl | ⟨r,hr,rfl⟩
   ·exact ⟨p,G,C⟩
   ·exact ⟨_,(j r hr).2.1,(j r hr).2.2.1⟩
  ·intro y hy;rcases (u y).1 hy with rfl | ⟨r,hr,rfl⟩
   ·exact T
   ·exact (j r hr).2.2.2.1
  ·refine sR (WE.2 (h.clear.imp_of_mem fun {r s} hr hs hc=>?_)) fun y hy=>?_
   ·rw [A r hr,A s hs];exact ⟨yK (h.len r hr) f (w s hs) hc.1,yK (h.len s hs) f (w r hr) hc.2⟩
   ·obtain ⟨r,hr,rfl⟩:=Vl.1 hy;rw [A r hr,O];exact ⟨⟨(j r hr).2.2.2.2,w r hr⟩,⟨w r hr,(j r hr).2.2.2.2⟩⟩
  ·refine xR O z (fun y hy=>?_) (WE.2 (h.sorted.imp_of_mem fun {r s} hr hs hc=>?_))
   ·obtain ⟨r,hr,rfl⟩:=Vl.1 hy;rw [A r hr];exact ⟨(h.pos hr).2.2,N r hr⟩
   ·rw [A r hr,A s hs]; exact hc
  ·have o:∀ y,y∈insP b p (F.map fun r=>wo r b p)->y.length=d:=fun y hy=>by
    rcases (u y).1 hy with rfl | ⟨r,hr,rfl⟩
    ·exact f
    ·exact (j r hr).1
   have J:Spn d (fun y=>y∈F\/y=a) b:=by
    rw [<- hb,zx n g];have t:=Spn.sum2 n (D.mono (fun y hy=>.inl hy) (fun r h=>h)) (dI (B:=fun y=>y∈F\/y=a) ha (.inr rfl)) 1 k;have e:mix 1 (mix m (restF F a) (-k) a) k a=scl m (restF F a):=aK (by rw [mix_length (mix_length g ha) ha,scl_length g]) fun i=>by rw [ak ((mix_length g ha).trans ha.symm),ak (g.trans ha.symm),az]; grind
    rw [e] at t;exact pi n g zO t
   have I:Spn d (· ∈ insP b p (F.map fun r=>wo r b p)) b:=dI f ((u b).2 (.inl rfl));have P:∀ r∈F,Spn d (· ∈ insP b p (F.map fun r=>wo r b p)) r:=fun r hr=>by
    obtain ⟨k1,U,c,hc,s,e1,_⟩:=OS (h.len r hr) f C;have t:=Spn.sum2 o (dI (d:=d) (B:=(· ∈ insP b p (F.map fun r=>wo r b p))) (j r hr).1 ((u _).2 (.inr ⟨r,hr,rfl⟩))) I k1 (-s);have e:mix k1 (wo r b p) (-s) b=scl c r:=aK (by rw [mix_length (j r hr).1 f,scl_length (h.len r hr)]) fun i=>by
     have e3:k1*at_ (wo r b p) i=c*at_ r i+s*at_ b i:=by rw [<- az,e1,ak ((h.len r hr).trans f.symm)]
     rw [ak ((j r hr).1.trans f.symm),az]; grind
    rw [e] at t;exact pi o (h.len r hr) zO t
   refine fun x=>⟨fun hx=>oE o n (fun y hy=>?_) hx,fun hx=>oE n o (fun y hy=>?_) hx⟩
   ·rcases (u y).1 hy with rfl | ⟨r,hr,rfl⟩
    ·exact J
    ·obtain ⟨k1,U,c,hc,s,e1,_⟩:=OS (h.len r hr) f C;have t:=Spn.sum2 n (dI (d:=d) (B:=fun y=>y∈F\/y=a) (h.len r hr) (.inl hr)) J c s;rw [<- e1] at t;exact pi n (j r hr).1 zO t
   ·rcases hy with hy | rfl
    ·exact P y hy
    ·have t:=Spn.sum2 o (oE (fun y hy=>h.len y hy) o P D) ((zx o g).1 (by rw [hb]; exact I)) (-1) m;have e:mix (-1) (mix m (restF F y) (-k) y) m (restF F y)=scl k y:=aK (by rw [mix_length (mix_length g ha) g,scl_length ha]) fun i=>by rw [ak ((mix_length g ha).trans g.symm),ak (g.trans ha.symm),az]; grind
     rw [e] at t;exact pi o ha zO t
def form_go:∀ (l:List V) (G:List V),Ech d G->(∀ a∈l,a.length=d)->Ech d (l.foldl putF G)/\∀ x,Spn d (· ∈ l.foldl putF G) x ↔ Spn d (fun y=>y∈G\/y∈l) x
 | [],G,h,_=>⟨h,fun x=>by simp⟩
 | a :: l,G,h,hl=>by
  obtain ⟨h1,h2⟩:=put_ech h (hl a (Vt ..));obtain ⟨h3,e⟩:=form_go l (putF G a) h1 fun b hb=>hl b (Vn _ hb);refine ⟨h3,fun x=>(e x).trans ?_⟩;have l1:∀ y,(y∈putF G a\/y∈l)->y.length=d:=fun y hy=>by rcases hy with hy | hy <;> first | exact h1.len y hy | exact hl y (Vn _ hy)
  have l2:∀ y,(y∈G\/y∈a :: l)->y.length=d:=fun y hy=>by rcases hy with hy | hy <;> first | exact h.len y hy | exact hl y hy
  constructor
  ·refine fun hx=>oE l1 l2 (fun y hy=>?_) hx;rcases hy with hy | hy
   ·exact ((h2 y).1 (dI (h1.len y hy) hy)).mono (fun z c=>by rcases c with c | rfl <;> first | exact .inl c | exact .inr (Vt ..)) (fun r h=>h)
   ·exact dI (hl y (Vn _ hy)) (.inr (Vn _ hy))
  ·refine fun hx=>oE l2 l1 (fun y hy=>?_) hx;rcases hy with hy | hy
   ·exact ((h2 y).2 (dI (h.len y hy) (.inl hy))).mono (fun z c=>.inl c) (fun r h=>h)
   ·rcases VK.1 hy with rfl | hy
    ·exact ((h2 y).2 (dI (hl y (Vt ..)) (.inr rfl))).mono (fun z c=>.inl c) (fun r h=>h)
    ·exact dI (hl y (Vn _ hy)) (.inr hy)
def form_ech {l:List V} (hl:∀ a∈l,a.length=d):Ech d (formF l)/\∀ x,Spn d (· ∈ formF l) x ↔ Spn d (· ∈ l) x:=by
 obtain ⟨h1,h2⟩:=form_go l [] (Ech.nil d) hl;exact ⟨h1,fun x=>(h2 x).trans (by simp)⟩
def Ech.spn_zero (h:Ech d F) {x:V} (hx:Spn d (· ∈ F) x) (y:∀ r∈F,at_ x (pv r)=0):∀ i,at_ x i=0:=by
 have key:∀ {x:V},Spn d (· ∈ F) x->∃ k:Int,0<k/\∃ c:V->Int,(∀ i,k*at_ x i=(F.map fun r=>c r*at_ r i).sum):=by
  intro x hx
  induction hx with
  | zero =>
   have zs:∀ G:List V,(G.map fun _=>(0:Int)).sum=0:=fun G=>by induction G with
    | nil=>rfl
    | cons g G a=>simp [a]
   exact ⟨1,zO,fun _=>0,fun i=>by rw [ir]; simp only [Yu,YI]; exact (zs F).symm⟩
  | @line x l n hx hl a =>
   obtain ⟨k,b,c,hc⟩:=a;obtain ⟨j,hj⟩:=V9 hl;refine ⟨k,b,fun r=>c r+(if r=l then k*n else 0),fun i=>?_⟩;rw [ak ((hx.length (fun x hx=>h.len x hx) (fun r h=>h.elim)).trans (h.len l hl).symm)];have q:F.Nodup:=(h.clear.imp_of_mem fun {r s} hr hs hc e=>by
    subst e
    have:=(h.pos hr).2.1
    omega)
   have e:∀ (G:List V),G.Nodup->(G.map fun r=>(c r+(if r=l then k*n else 0))*at_ r i).sum=(G.map fun r=>c r*at_ r i).sum+(if l∈G then k*n*at_ l i else 0):=by
    intro G
    induction G with
    | nil=>intro _; simp
    | cons g G t =>
     intro hg;obtain ⟨f,m⟩:=XX.1 hg;simp only [Vq,Yw,t m];by_cases o:g=l
     ·subst o;simp only [if_pos rfl,VK,true_or,if_true,f,if_false]
      grind
     ·have:¬ l=g:=fun e=>o e.symm
      simp only [if_neg o,VK,this,false_or]
      grind
   rw [e F q,if_pos hl,<- hc i]
   grind
  | ray c hc hx hr a=>exact hr.elim
  | @div x j hj hl hx a =>
   obtain ⟨k,b,c,hc⟩:=a;exact ⟨k*j,W2 b hj,c,fun i=>by rw [<- hc i,az]; grind⟩
 obtain ⟨k,b,c,hc⟩:=key hx;have v:∀ r∈F,c r=0:=fun r hr=>by
  have e1:=hc (pv r);rw [y r hr] at e1;have e2:∀ (G:List V),(∀ g∈G,g∈F)->G.Nodup->(G.map fun s=>c s*at_ s (pv r)).sum=if r∈G then c r*at_ r (pv r) else 0:=by
   intro G
   induction G with
   | nil=>intro _ _; simp
   | cons g G t =>
    intro u hg;obtain ⟨f,m⟩:=XX.1 hg;simp only [Vq,Yw,t (fun x hx=>u x (Vn _ hx)) m];by_cases p:g=r
    ·subst p;simp [f]
    ·have w:¬ r=g:=fun e=>p e.symm;rw [h.clear_of (u g (Vt ..)) hr p];simp [w]
  have q:F.Nodup:=(h.clear.imp_of_mem fun {r s} hr hs hc e=>by
   subst e
   have:=(h.pos hr).2.1
   omega)
  rw [e2 F (fun g hg=>hg) q,if_pos hr] at e1;rcases VH.1 (show c r*at_ r (pv r)=0 by omega) with h1 | h1
  ·exact h1
  ·have:=(h.pos hr).2.1; omega
 intro i;have e1:=hc i;have e2:(F.map fun r=>c r*at_ r i).sum=0:=by
  have:(F.map fun r=>c r*at_ r i)=F.map fun _=>(0:Int):=Xb fun r hr=>by rw [v r hr]; simp
  rw [this]
  have:∀ G:List V,(G.map fun _=>(0:Int)).sum=0:=fun G=>by induction G with
   | nil=>rfl
   | cons g G a=>simp [a]
  exact this F
 rw [e2] at e1;rcases VH.1 e1 with h1 | h1
 ·omega
 ·exact h1
def Ech.pivot_spn (h:Ech d F) {x:V} (z:x.length=d) (hx:Spn d (· ∈ F) x) {p:Nat} (hp:pivot x=some p):∃ r∈F,pv r=p:=by
 obtain ⟨k,u,v⟩:=pivot_some.1 hp;rw [z] at k v;by_cases hr:∃ r∈F,at_ x (pv r)≠0
 ·
  have ⟨r,m,l,D⟩:∃ r∈F,at_ x (pv r)≠0/\∀ s∈F,at_ x (pv s)≠0->s=r\/before (pv r) (pv s)=true:=by
   have:∀ (G:List V),G.Pairwise (fun r s=>before (pv r) (pv s)=true)->(∃ r∈G,at_ x (pv r)≠0)->∃ r∈G,at_ x (pv r)≠0/\∀ s∈G,at_ x (pv s)≠0->s=r\/before (pv r) (pv s)=true:=by
    intro G
    induction G with
    | nil=>intro _ h; obtain ⟨r,hr,_⟩:=h; cases hr
    | cons g G q =>
     intro hs B;obtain ⟨h1,h2⟩:=Xh.1 hs;by_cases hg:at_ x (pv g)=0
     ·obtain ⟨r,hr,l⟩:=B;have I:r∈G:=by
       rcases VK.1 hr with rfl | hr
       ·exact absurd hg l
       ·exact hr
      obtain ⟨K,E,H,hm⟩:=q h2 ⟨r,I,l⟩;refine ⟨K,Vn _ E,H,fun s hs a=>?_⟩;rcases VK.1 hs with rfl | hs
      ·exact absurd hg a
      ·exact hm s hs a
     ·refine ⟨g,Vt ..,hg,fun s hs a=>?_⟩;rcases VK.1 hs with rfl | hs
      ·exact .inl rfl
      ·exact .inr (h1 s hs)
   exact this F h.sorted hr
  refine ⟨r,m,?_⟩;obtain ⟨q1,q2,q3⟩:=h.pos m;by_cases he:pv r=p
  ·exact he
  ·exfalso
   rcases pP q3 k he with hb | hb
   ·exact l (v _ q3 hb)
   ·
    have:∀ r∈F,at_ x (pv r)≠0->at_ r p=0:=fun s hs a=>by
     obtain ⟨t1,L,t3⟩:=h.pos hs;refine (pivot_some.1 t1).2.2 p (by rw [h.len s hs]; exact k) ?_;rcases D s hs a with rfl | hlt
     ·exact hb
     ·exact lD k q3 t3 hb hlt
    have key:∀ (G:List V) (y:V),y.length=d->Spn d (· ∈ F) y->(∀ g∈G,g∈F)->(∀ s∈F,s ∉ G->at_ y (pv s)=0)->(∀ s∈F,at_ y (pv s)≠0->at_ s p=0)->G.Nodup->at_ y p=0:=by
     intro G
     induction G with
     | nil=>intro y hy hs _ o _ _; exact h.spn_zero hs (fun s hs=>o s hs (by simp)) p
     | cons g G q =>
      intro y hy hs t o w n;obtain ⟨M,C⟩:=XX.1 n;have b:=t g (Vt ..);obtain ⟨t1,L,t3⟩:=h.pos b;have f:=h.len g b;have j:at_ (mix (at_ g (pv g)) y (-(at_ y (pv g))) g) p=0:=by
       refine q _ (mix_length hy f) (Spn.sum2 (fun x hx=>h.len x hx) hs (dI f b) _ _) (fun x hx=>t x (Vn _ hx)) (fun s i J=>?_) (fun s i a=>?_) C
       ·rw [ak (hy.trans f.symm)];by_cases c:s=g
        ·subst c; grind
        ·rw [h.clear_of b i (fun e=>c e.symm),o s i (fun hm=>by rcases VK.1 hm with e | hm <;> first | exact c e | exact J hm)]; simp
       ·refine w s i fun e=>a ?_;rw [ak (hy.trans f.symm),e];by_cases c:s=g
        ·subst c; rw [e]; simp
        ·rw [h.clear_of b i (fun e=>c e.symm)]; simp
      rw [ak (hy.trans f.symm)] at j;by_cases A:at_ y (pv g)=0
      ·rw [A] at j;rcases VH.1 (show at_ g (pv g)*at_ y p=0 by simpa using j) with h1 | h1
       ·omega
       ·exact h1
      ·rw [w g b A] at j;rcases VH.1 (show at_ g (pv g)*at_ y p=0 by simpa using j) with h1 | h1
       ·omega
       ·exact h1
    have n:F.Nodup:=(h.clear.imp_of_mem fun {r s} hr hs hc e=>by
     subst e
     have:=(h.pos hr).2.1
     omega)
    exact u (key F x z hx (fun g hg=>hg) (fun s hs hn=>absurd hs hn) this n)
 ·exfalso
  exact u (h.spn_zero hx (fun r m=>YZ.1 fun e=>hr ⟨r,m,e⟩) p)
def Ech.unique {G:List V} (h:Ech d F) (j:Ech d G) (hs:∀ x,Spn d (· ∈ F) x ↔ Spn d (· ∈ G) x):F=G:=by
 have sub:∀ {A B:List V},Ech d A->Ech d B->(∀ x,Spn d (· ∈ A) x ↔ Spn d (· ∈ B) x)->∀ r∈A,r∈B:=by
  intro A B hA c hs r hr;obtain ⟨p1,p2,v⟩:=hA.pos hr;have f:=hA.len r hr;obtain ⟨s,g,l⟩:=c.pivot_spn f ((hs r).1 (dI f hr)) p1;obtain ⟨t1,n,t3⟩:=c.pos g;have k:=c.len s g;have t:∀ a∈A,a≠r->at_ s (pv a)=0:=fun a b hne=>by
   obtain ⟨s',q,e'⟩:=c.pivot_spn (hA.len a b) ((hs a).1 (dI (hA.len a b) b)) (hA.pos b).1;rw [<- e'];refine c.clear_of g q fun e=>hne ?_;subst e;exact hA.pv_inj b hr (e'.symm.trans l)
  rw [l] at n;have u:=hA.spn_zero (x:=mix (at_ s (pv r)) r (-(at_ r (pv r))) s) (Spn.sum2 (fun x hx=>hA.len x hx) (dI f hr) ((hs s).2 (dI k g)) _ _) (fun a b=>by
   rw [ak (f.trans k.symm)];by_cases hne:a=r
   ·subst hne; grind
   ·rw [t a b hne,hA.clear_of hr b (fun e=>hne e.symm)]; simp)
  have:r=s:=uH (hA.cont r hr) (c.cont s g) n p2 (aK (by rw [scl_length f,scl_length k]) fun i=>by
   have:=u i
   rw [ak (f.trans k.symm)] at this;rw [az,az]; grind)
  rw [this]; exact g
 have o:∀ x,x∈F ↔ x∈G:=fun x=>⟨sub h j hs x,sub j h (fun x=>(hs x).symm) x⟩
 have m:∀ {A:List V},Ech d A->A.Nodup:=fun hA=>hA.clear.imp_of_mem fun {r s} hr hs hc e=>by
  subst e
  have:=(hA.pos hr).2.1
  omega
 have p:F.Perm G:=(ZB (m h) (m j)).2 o;refine ZU (le:=fun r s=>before (pv r) (pv s)=true) (fun r s hr hs h1 h2=>?_) h.sorted j.sorted p
 exfalso
 have q1:=(h.pos hr).2.2;have q2:=(j.pos hs).2.2
 have:=lD q1 q2 q1 h1 h2
 rw [BJ] at this;cases this
def qD (h:Ech d F) {x y:V} (hx:x.length=d) (hy:y.length=d) (b:∀ r∈F,at_ x (pv r)=0) (e:∀ r∈F,at_ y (pv r)=0) (a:content x=1) (c:content y=1) {m n:Int} (hm:0<m) (hn:0<n) (hs:Spn d (· ∈ F) (mix m x (-n) y)):x=y:=by
 have f:=h.spn_zero hs fun r hr=>by rw [ak (hx.trans hy.symm),b r hr,e r hr]; simp
 exact uH a c hm hn (aK (by rw [scl_length hx,scl_length hy]) fun i=>by
  have:=f i
  rw [ak (hx.trans hy.symm)] at this;rw [az,az]; grind)
end
end Go.Proofs.YtkmepoeklibegaaGreat.Lin
