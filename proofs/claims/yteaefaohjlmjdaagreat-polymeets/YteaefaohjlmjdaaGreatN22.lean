/- A part. -/
import Derived.Test.YteaefaohjlmjdaaGreatA0
import Derived.Test.YteaefaohjlmjdaaGreatN7
set_option linter.all false
namespace Go.Proofs.YteaefaohjlmjdaaGreat.Ev
open Go Nn
def Dk (H:Heap) (id size bytes ty:Nat) (z:List AV) (x y:AV):Option (AV × Heap):=match pq y with
 | none=>none
 | some m=>if z.length=size/\m*bytes<=2^46/\m<2^62 then cQ H id size bytes ty x m ((List.replicate m z).flatten) none else none
def Dt {tab:Nat->Option az} (ev:Src->AV) (H:Heap) (id:Nat) (Q:AV->Heap->Prop) (size bytes ty:Nat) (z:List AV) (x y:Src) :
  mF tab ev H id (.appendZ size bytes ty z x y) Q=gV (Dk H id size bytes ty z (ev x) (ev y)) (fun r=>Q r.1 r.2) ():=by
 rw [ck,iv tab ev H id Q (o:=.appendZ size bytes ty z x y) (fun f a e=>by cases e) rfl]; rfl
def Pd {H:Heap} {id b n m M:Nat} {l E:List Nat} (hb:H.get b=some (.cells (aM (l++E)) ae true)) (hn:l.length=n) (q:E.length=m) (d:n+m=M) (r:M<2199023255552) (i:H.get id=none) (hl:Lim l) :
  ∃ rb x R H',Dk H id 1 8 ae [.int .u64 0] (.own b 0 n n 1 true) (.int .i64 (m:Int))=some (.own rb 0 M M 1 x,H')/\H'.get rb=some (.cells (aM R) ae true)/\R.length=M/\val R=val l/\Lim R/\(rb=b\/rb=id)/\H'.next=H.next/\(∀ c e,H.get c=some e->H'.get c=some e)/\(∀ H0,Kp H0 H->H0.next<=id->id<H.next->Kp H0 H'):=by
 have k:(aM (l++E)).length=M:=by rw [pd,Vr]; omega
 have a:Dk H id 1 8 ae [.int .u64 0] (.own b 0 n n 1 true) (.int .i64 (m:Int))=if m=0 then some (.own b 0 n n 1 true,H) else some (.own id 0 (n+m) (n+m) 1 false,H.put id (.cells ((aM (l++E)).take n++aM (List.replicate m 0)) ae true)):=by
  unfold Dk;rw [gq];simp only;rw [if_pos ⟨rfl,zO,zO⟩,lB];simp only [cQ,hb];rw [if_pos ⟨trivial,zO,zO,trivial,by rw [k]; omega⟩];by_cases h0:m=0
  ·rw [if_pos zO,if_pos h0,if_pos h0]
  ·rw [if_neg zO,if_pos trivial,if_neg h0]
   simp
 by_cases h0:m=0
 ·have g:E=[]:=VB zO;subst g;rw [WH] at hb;have o:n=M:=zO;subst o;exact ⟨b,true,l,H,by rw [a,if_pos h0],hb,hn,rfl,hl,.inl rfl,rfl,fun _ _ h=>h,fun _ h _ _=>h⟩
 ·have p:(aM (l++E)).take n=aM l:=by
   unfold aM;rw [V9,XM (by simp [hn])]
  have hc:aM l++aM (List.replicate m 0)=aM (l++List.replicate m 0):=by simp [aM]
  rw [p,hc,d] at a;exact ⟨id,false,l++List.replicate m 0,_,by rw [a,if_neg h0],ap _ _ _,by simp [hn,d],by rw [px,gw,XS,WM],hl.append (Lim.replicate m),.inr rfl,rfl,fun c e h=>by
   rw [aB (fun f=>by rw [f,i] at h; cases h)]; exact h,fun H0 j h1 h2=>j.put h1 h2⟩
section
variable {tab:Nat->Option az} {H:Heap}
set_option maxHeartbeats 4000000 in
def J6 (C:Code tab) (hw:Wf H) {a b:AV} {x y:Nat} (ha:bA H a x) (hb:bA H b y) (hx:Sm x) (hy:Sm y) (h0:0<y) :
  Ans tab (.fn xu [a,b]) H fun v H'=>∃ q r,v=.tup [q,r,.int .i64 0]/\bA H' q (x / y)/\bA H' r (x % y)/\Kp H H':=by
 refine bk C.q174 zU fun T hl j p=>?_;refine zW (aE hl j p) ?_;refine AnsH.eq (Gz C zF (ha.mono (Sub.bump H _)) (hb.mono (Sub.bump H _)) hx hy h0) fun H2 bx=>?_;obtain ⟨k2,_,w2⟩:=zT H zK bx;have n2:=k2.le;have aX:=ha.mono k2.sub;have a0:=hb.mono k2.sub;have bX:=hx;have bY:=hy;unfold Sm at bX bY;have ci:=(cm y).2 zO;by_cases h1:(ag y).length=1
 ·obtain ⟨bc,bZ⟩:=LG h1;have a2:lenV b=some (.int .i64 1):=by have:=hb.lenV; rw [h1] at this; exact this
  have aG:=SlV.idx1 hb .i64 0 zO;have ah:=cW a0 (i:=0) zO;rw [bZ] at ah;have bw:cd 1 b (.int .i64 0)=some (aA b 0):=aG;refine zW (dx hl j p a2 bw ah) ?_;refine AnsH.use (OK C zF (aX.mono (Sub.bump H2 _)) hx h0 bc) ?_;rintro v H3 ⟨q,rfl,hq,ab⟩;obtain ⟨k3,_,w3⟩:=zT H zK ab;refine zW (aE hl j p) ?_;refine AnsH.use (Ij C zF (Y7 (VS x h0) bc)) ?_;rintro v H4 ⟨h4,-,aq⟩;obtain ⟨k4,_,_⟩:=zT H zK aq;refine zW (aE hl j p) ?_;exact ⟨q,v,rfl,hq.mono (Kp.sub (H:=H3) (Kp.trans zK aq)),h4,zK⟩
 ·obtain ⟨m,hm⟩:∃ m,(ag y).length=m+2:=⟨(ag y).length-2,zO⟩
  have bK:¬ ((m+2:Nat):Int)=1:=zO;have aF:lenV b=some (.int .i64 ((m+2:Nat):Int)):=by have:=hb.lenV; rwa [hm] at this
  obtain ⟨f,aJ⟩:∃ f,(ag x).length=f:=⟨_,rfl⟩
  have aY:lenV a=some (.int .i64 (f:Int)):=by have:=ha.lenV; rwa [aJ] at this
  refine zW (dx hl j p aF aY bK) ?_;refine iteH.split (fun h2=>?_) fun h2=>?_
  ·have hlt:x<y:=Er zO;refine zW (aE hl j p) ?_;refine AnsH.use (kL C zF (aX.mono (Sub.bump H2 _)) zO) ?_;rintro v H3 ⟨h3,ab⟩;obtain ⟨k3,_,_⟩:=zT H zK ab;refine zW (aE hl j p) ?_;rw [WG hlt,VE hlt];exact ⟨.nilSl,v,rfl,dM _,h3,zK⟩
  ·obtain ⟨top,am⟩:∃ top,(ag y).getD (m+1) 0=top:=⟨_,rfl⟩
   have bT:top<18446744073709551616:=by rw [<- am]; exact (aL y).at _
   have bS:0<top:=by
    rw [<- am,jw];have h3:=Ga (y:=y) (n:=m+1) (by rw [hm]);have h4:=ii y;rw [hm] at h4;have h5:y / B^(m+1)<B:=by
     apply (VD (VY zU)).2
     rw [Vw,<- VG]; exact h4
    rw [VE h5];exact Nat.div_pos h3 (VY zU)
   have aG:=SlV.idx1 hb .i64 (m+1) zO;have ah:=cW a0 (i:=m+1) zO;rw [am] at ah;have bU:IntKind.i64.wrap (((m+2:Nat):Int)-1)=((m+1:Nat):Int):=by rw [wrap_i64] <;> omega
   refine zW (fE hl j p aF bU aG ah) ?_;refine AnsH.use (Di C zF bS bT) ?_;rintro v H3 ⟨⟨z,rfl,hz,bd,bf⟩,ab⟩;obtain ⟨k3,_,w3⟩:=zT H zK ab;obtain ⟨ay,Y,ao⟩:=Ig hm am hz bd bf;have Z:=Fq (k:=f-(m+1)) aJ hz ao zO;refine zW (aE hl j p) ?_;refine AnsH.use (N8 C zF (ha.mono (zG H)) hx zO) ?_;rintro v H4 ⟨o1,rfl,bH,aq,b1,E1,rfl,aC,bu,a3,-⟩;obtain ⟨k4,_,w4⟩:=zT H zK aq;refine zW (aE hl j p) ?_;refine AnsH.use (N8 C zF (hb.mono (zG H)) hy zO) ?_;rintro v J ⟨o2,rfl,bI,aH,t,E2,rfl,aD,bv,-,a4⟩;obtain ⟨k5,_,w5⟩:=zT H zK aH;obtain ⟨V,eV⟩:∃ V,y*2^z=V:=⟨_,rfl⟩
   obtain ⟨X,eX⟩:∃ X,x*2^z=X:=⟨_,rfl⟩
   rw [eV] at ay Y ao Z bI aD a4;rw [eX] at Z bH aC a3;rw [eX,eV,Y];have b2:z / 64=0:=WG hz;obtain ⟨n1,ax⟩:∃ n1,(ag X).length=n1:=⟨_,rfl⟩
   rw [aJ,b2,Vr,ax] at a3;rw [ax];have c1:=aH.get aC;have a7:IntKind.i64.wrap ((f:Int)+1)=((f+1:Nat):Int):=by rw [wrap_i64] <;> omega
   have a8:IntKind.i64.wrap (((f+1:Nat):Int)-(n1:Int))=((E1.length:Nat):Int):=by rw [wrap_i64] <;> omega
   obtain ⟨e,cc⟩:∃ e,f-(m+2)+1=e:=⟨_,rfl⟩
   have a9:IntKind.i64.wrap ((f:Int)-((m+2:Nat):Int))=((f-(m+2):Nat):Int):=by rw [wrap_i64] <;> omega
   have ba:IntKind.i64.wrap (((f-(m+2):Nat):Int)+1)=(e:Int):=by rw [wrap_i64] <;> omega
   have bG:∀ H' id,Io H' id ae 1 8 [.int .u64 0] (.int .i64 (e:Int)) (.int .i64 (e:Int))=some (.own id 0 e e 1 true,H'.put id (.cells (aM (List.replicate e 0)) ae true)):=fun H' id =>
    (jg H' id ae 1 8 [.int .u64 0] .i64 .i64 e zO zO rfl).trans (by rw [lB])
   obtain ⟨k5,_,_⟩:=zT H zK aH;obtain ⟨rb,x1,R,S,e6,hR,lR,vR,limR,aK,bJ,bQ,bz⟩:=Pd (H:=J.up 12) (id:=J.next+7) (b:=b1) (E:=E1) (m:=E1.length) (M:=f+1) (l:=ag X) (n:=n1) c1 ax rfl zO zO (w5.fresh (b:=J.next+7) zO) (aL X);have k6:Kp H S:=bz H (k5.up 12) (by have:=k5.le; omega) (by show _<J.next+12; omega);have ck:=k6.le;have w6:=k6.wf;have cg:S.next=J.next+12:=bJ
   have c2:S.get t=some (.cells (aM (ag V++E2)) ae true):=bQ _ _ aD;have cl:=k4.wf _ _ aC;have cn:=k5.wf _ _ aD;have cp:=k5.le;have co:H4.next<=t:=Vn (VL _ _) bv
   have hne:rb≠t:=by
    rcases aK with h | h <;> omega
   have a6:H.next<=rb:=by
    have q1:H3.next<=b1:=Vn (VL _ _) bu
    have q2:=k3.le;rcases aK with h | h <;> omega
   have cr:=k6.wf _ _ hR;simp -dsimp (maxSteps:=1000000) (disch:=(first | omega | assumption | exact aI _ | exact aZ _ _ | exact bD | exact cH _ _ _ | exact bN _ _ | exact bC _ _ _ _ _ _ | exact cR _ _ | exact bR _)) only [↓uV,uU,Nat.reduceLT,Nat.reduceEqDiff,Nat.reduceAdd,reduceIte,reduceCtorEq,Nat.reduceBEq,Int.reduceEq,Int.reduceLT,Int.reduceLE,Int.reduceAdd,Int.reduceSub,hl,j,p,aY,aF,a7,a8,↓Dt,e6,a9,ba,bG];obtain ⟨d,ed⟩:∃ d,J.next+10=d:=⟨_,rfl⟩
   obtain ⟨g,eq⟩:∃ g,S.next+6=g:=⟨_,rfl⟩
   simp only [ed,eq];have D0:Dv (((S.up 12).put d (.cells [.own rb 0 (f+1) (f+1) 1 x1,.own t 0 (m+2) (m+2) 1 true] gy true)).put g (.cells (aM (List.replicate e 0)) ae true)) d rb t (f+1) (m+2) x1 R (ag V++E2):=by
    have z1:d≠rb:=by rcases aK with h | h <;> omega
    refine ⟨?_,?_,?_,lR,by rw [Vr,Y]; omega,hne,limR,?_⟩
    ·exact cy
    ·exact zV hR
    ·exact zV @c2
    ·exact a4
   obtain ⟨L,eL⟩:∃ L,ag V++E2=L:=⟨_,rfl⟩
   have bm:∀ i,i<m+2->L.getD i 0=V / B^i % B:=fun i hi=>by
    rw [<- eL,U5,VK zO,<- U5,jw]
   have aV:val (L.take (m+2))=V:=by
    rw [<- eL,XM Y,bB]
   rw [eL] at D0;have hV0:0<V:=Vu (Zs zU (VY zU)) ao;have bl:DivI X V e (List.replicate e 0) R:=⟨by rw [gw,XS,VN,vR,bB],by
    rw [vR,bB]
    have:f-(m+1)=e:=zO
    rw [this] at Z; exact Z,fun i _=>by simp [U5,We]; split <;> rfl⟩
   have br:d≠g:=zO;have aN:rb≠g:=zO;have bq:t≠g:=zO;have ch:H.next<=g:=zO
   clear bd bf ao Z a7 a8 a9 ba;refine mr H [16] (fun k vs H'=>vs=[.int .i64 ((k:Int)-1)]/\k<=e/\∃ (Q R:List Nat),H'.get g=some (.cells (aM Q) ae true)/\Q.length=e/\Lim Q/\Dv H' d rb t (f+1) (m+2) x1 R L/\DivI X V k Q R)
    (fun vs H'=>∃ (Q R:List Nat),H'.get g=some (.cells (aM Q) ae true)/\Q.length=e/\Lim Q/\Dv H' d rb t (f+1) (m+2) x1 R L/\DivI X V 0 Q R) e (by simp only [U4]; exact hl) rfl zK ⟨?_,Vc _,_,R,ap _ _ _,by simp,Lim.replicate e,D0,bl⟩ ?_ ?_
   ·have bW:IntKind.i64.wrap ((e:Int)-1)=(e:Int)-1:=by rw [wrap_i64] <;> omega
    exact zV (aW hl j p bW)
   ·rintro k T1 bi s K aa ⟨w,ce,Q,R,hQ,lQ,ar,D,I⟩;simp only [Vb,Vf,Vd,and_true] at w;have w1:=aa.wf;have b5:=aa.le;have t4:ad T1 4=.own g 0 e e 1 true:=(K.at_ 4 zU).trans (zV (aE hl j p));have N:ad T1 15=.ptr d 0:=(K.at_ 15 zU).trans (zV (aE hl j p));cases k with
    | zero =>
     have bL:¬ (0:Int)<=((0:Nat):Int)-1:=zO;refine zW (aE s w bL) ?_;exact ⟨zK,Q,R,hQ,lQ,ar,D.up _,I⟩
    | succ a =>
     have hz:((a+1:Nat):Int)-1=(a:Int):=zO;rw [hz] at w;have bM:(0:Int)<=(a:Int):=zO;have aB:a+(m+2)<f+1:=zO;refine zW (aW s w bM N) ?_;refine AnsH.use (Mc C zF (D.up _) aB zO (I.guess ay D.limR hV0 bm)) ?_;rintro v A ⟨q,rfl,G,hge,F⟩;have aQ:Kp H A:=Kp.trans zK F;have b9:=aQ.wf;have D2:=(D.up 6).kp F;have bn:A.get g=some (.cells (aM Q) ae true):=F.get hQ;have b3:=I.zeros ay D.limR;refine zW (aE s w N) ?_;refine AnsH.use (OI C (H0:=H) zK (D2.up _) a6 aB zO G rfl (fun i hi=>b3 i zO)) ?_;rintro v P ⟨R1,l1,rfl,bF,D3,aO,b0,aR,bs⟩;rw [aV] at aO;have ca:=aR.wf;have bo:P.get g=some (.cells (aM Q) ae true):=bs _ _ (Ne.symm aN) bn;have S3:SubI (val R) V a (m+2) R1 q l1:=⟨aO,hge⟩
     clear aO hge;refine zW (aE s w N) ?_;refine mr H [17,18] (fun k vs H'=>∃ (q l:Nat) (R':List Nat),vs=[.int .u64 (q:Int),.bool (decide (0<l))]/\k=q/\l<=1/\q<B/\H'.get g=some (.cells (aM Q) ae true)/\Dv H' d rb t (f+1) (m+2) x1 R' L/\SubI (val R) V a (m+2) R' q l/\∀ i,a+(m+2)<i->R'.getD i 0=0)
      (fun vs H'=>∃ (q:Nat) (bb:AV) (R':List Nat),vs=[.int .u64 (q:Int),bb]/\q<B/\H'.get g=some (.cells (aM Q) ae true)/\Dv H' d rb t (f+1) (m+2) x1 R' L/\SubI (val R) V a (m+2) R' q 0) q (by simp only [U4]; exact s) rfl zK ⟨q,l1,R1,by exact zV s,rfl,bF,G,bo,D3,S3,b0⟩ ?_ ?_
     ·rintro k T2 av af ai u ⟨q,l,R',aj,bE,cf,G,W,O,U,bg⟩;obtain rfl:=bE.symm;simp only [Vb,Vf,Vd,and_true] at aj;obtain ⟨al,aT⟩:=aj;have cb:=u.wf;have b6:=u.le;have b8:ad T2 15=.ptr d 0:=(ai.at_ 15 zU).trans (zV (aw s N));have aS:ad T2 16=.int .i64 (a:Int):=(ai.at_ 16 zU).trans (zV (aw s w));rcases (show l=0\/l=1 by omega) with rfl | rfl
      ·have e0:decide (0<0)=false:=rfl;refine zW (aW af al aT e0) ?_;exact ⟨zK,q,_,R',rfl,G,W,O.up _,U⟩
      ·have e1:decide (0<1)=true:=rfl;have hlt:=qJ (m:=a+(m+2)+1) O.limR (fun i hi=>bg i zO);have hq0:=U.pos hlt;have z1:=um (a:=q) hq0 G;refine zW (fE af al aT e1 b8 aS z1) ?_;refine AnsH.use (OJ C (H0:=H) zK (O.up _) a6 aB zO rfl bg) ?_;rintro v bj ⟨R2,c,rfl,hc,D5,aP,ct,b4,bt⟩;rw [aV] at aP;have cs:=b4.wf;have bp:bj.get g=some (.cells (aM Q) ae true):=bt _ _ (Ne.symm aN) W;obtain ⟨-,S5⟩:=U.back hlt hV0 aP hc;clear aP;have ec:(!decide (0<c))=decide (0<1-c):=by
        rcases (show c=0\/c=1 by omega) with rfl | rfl <;> rfl
       refine zW (aW af al aT ec) ?_;exact ⟨zK,q-1,zO,q-1,1-c,R2,rfl,rfl,zO,zO,bp,D5,S5,ct⟩
     ·rintro T2 av af ai u ⟨q,bb,R',aj,G,W,O,U⟩;simp only [Vb,Vf,Vd,and_true] at aj;obtain ⟨al,-⟩:=aj;have cb:=u.wf;have b6:=u.le;have u4:ad T2 4=.own g 0 e e 1 true:=(ai.at_ 4 zU).trans (zV (aw s t4));have aS:ad T2 16=.int .i64 (a:Int):=(ai.at_ 16 zU).trans (zV (aw s w));have bV:IntKind.i64.wrap ((a:Int)-1)=(a:Int)-1:=by rw [wrap_i64] <;> omega
      have cq:=u.wf _ _ W;have I2:=I.next U hV0 zO
      refine zW (dx af u4 aS al W bV) ?_;exact ⟨zK,a,zO,rfl,zO,_,R',rfl,by simp [lQ],lp ar G,(O.up _).put br aN bq,I2⟩
   ·rintro T1 bi s K aa ⟨Q,R',hQ,lQ,ar,D,I⟩;have w1:=aa.wf;have b5:=aa.le;have t4:ad T1 4=.own g 0 e e 1 true:=(K.at_ 4 zU).trans (zV (aE hl j p));have N:ad T1 15=.ptr d 0:=(K.at_ 15 zU).trans (zV (aE hl j p));have b7:ad T1 10=.int .i64 (z:Int):=(K.at_ 10 zU).trans (zV (aE hl j p));have a2:(ag (val R')).length<=m+2:=by
     have h:=I.lt;rw [Ye,WF] at h
     have:=AU (Xd h)
     rwa [Y] at this
    have bh:0<2^z:=VY zU;rw [<- eX,<- eV] at I;obtain ⟨f1,f2⟩:=I.fin bh;have hd1:=D.hd;refine zW (aE s N hd1) ?_;refine AnsH.eq (p9 C zF (rw':=true) D.lr D.hr zO) fun A F=>?_;have aQ:Kp H A:=Kp.trans zK F;have b9:=aQ.wf;have bP:A.get rb=some (.cells (aM R') ae true):=F.get D.hr;have bO:A.get g=some (.cells (aM Q) ae true):=F.get hQ;obtain ⟨E,hE⟩:=sv R';rw [dR D.limR] at hE ⊢;have hn:bA A (.own rb 0 (ag (val R')).length (ag (val R')).length 1 true) (val R'):=Eb (rw':=true) (E:=E) (by rw [<- hE]; exact bP);refine zW (aw s b7) ?_;refine AnsH.use (N9 C zF hn (by unfold Sm; omega) zO) ?_;rintro v P ⟨o,rfl,ho,a1⟩;have aR:Kp H P:=Kp.trans zK a1;have ca:=aR.wf;have a5:P.get g=some (.cells (aM Q) ae true):=a1.get bO;rw [f2,Nat.mul_div_cancel _ bh] at ho;refine zW (aw s t4) ?_;refine AnsH.eq (p9 C zF (rw':=true) lQ a5 zO) fun av u=>?_;have cj:Kp H av:=Kp.trans zK u;obtain ⟨E',aU⟩:=sv Q;rw [dR ar,f1] at aU ⊢;refine zW s ?_;refine ⟨_,o,rfl,Eb (rw':=true) (E:=E') ?_,ho.mono (Kp.sub (H:=P) (Kp.trans zK u)),zK⟩;rw [<- aU];exact u.get a5
def P7 {x y:Int} (h:y≠0):(if (decide ((x<0)≠(y<0)))=true then -((x.natAbs / y.natAbs:Nat):Int) else ((x.natAbs / y.natAbs:Nat):Int))=x.tdiv y:=by
 have key:∀ z:Int,z<0->∃ n:Nat,z = -(n:Int):=fun z a=>⟨z.natAbs,zO⟩
 rcases Int.lt_or_le x 0 with h1 | h1 <;> rcases Int.lt_or_le y 0 with h2 | h2
 ·have e:decide ((x<0)≠(y<0))=false:=by simp [h1,h2]
  obtain ⟨n,rfl⟩:=key x h1;obtain ⟨m,rfl⟩:=key y h2;rw [e];simp [Int.neg_tdiv,Int.tdiv_neg,Zi]
 ·have e:decide ((x<0)≠(y<0))=true:=by simp [h1]; omega
  obtain ⟨n,rfl⟩:=key x h1;obtain ⟨m,rfl⟩:=X7 h2;rw [e];simp [Int.neg_tdiv,Zi]
 ·have e:decide ((x<0)≠(y<0))=true:=by simp [h2]; omega
  obtain ⟨n,rfl⟩:=X7 h1;obtain ⟨m,rfl⟩:=key y h2;rw [e];simp [Int.tdiv_neg,Zi]
 ·have e:decide ((x<0)≠(y<0))=false:=by
   have:¬ x<0:=zO
   have:¬ y<0:=zO
   simp [*]
  obtain ⟨n,rfl⟩:=X7 h1;obtain ⟨m,rfl⟩:=X7 h2;rw [e];simp [Zi]
def Qj (n:Nat):decide (0<(ag n).length)=decide (n≠0):=by
 have:=cm n
 congr 1;simp only [eq_iff_iff];omega
def Sa (a b c d:Option AV):Option AV:=a.bind fun a=>b.bind fun b=>c.bind fun c=>d.bind fun d=>some (.tup [a,b,c,d])
theorem KM (a b c d:AV):Sa (some a) (some b) (some c) (some d)=some (.tup [a,b,c,d]):=rfl
def Qf (T:Tm) (H:Heap) (r s t u:Nat) (k l m n:Option (Option Nat)):cx T H [(r,k),(s,l),(t,m),(u,n)]=Sa (vz H (ad T r) k) (vz H (ad T s) l) (vz H (ad T t) m) (vz H (ad T u) n):=by
 show (List.mapM (oV T H) [(r,k),(s,l),(t,m),(u,n)]).bind _=_;rw [<- lc T H (r,k),<- lc T H (s,l),<- lc T H (t,m),<- lc T H (u,n)];simp only [WL,Zx,Sa];cases oV T H (r,k) <;> cases oV T H (s,l) <;> cases oV T H (t,m) <;> cases oV T H (u,n) <;> rfl
def Sx (x y:Int):(!(decide (x<0) == decide (y<0)))=decide ((x<0)≠(y<0)):=by
 by_cases h1:x<0 <;> by_cases h2:y<0 <;> simp [h1,h2]
def zB (C:Code tab) (N:Wf H) {a b:AV} {x y:Int} (ha:IntV H a x) (hb:IntV H b y) (hx:fq x) (hy:fq y) (h0:y≠0) :
  Ans tab (.fn kP [a,b]) H fun v H'=>∃ q,v=.tup [q,.bool (decide (x.natAbs % y.natAbs≠0)),.bool (decide ((x<0)≠(y<0))),.int .i64 0]/\IntV H' q (x.tdiv y)/\Kp H H':=by
 obtain ⟨p,rfl,hp⟩:=ha;obtain ⟨q,rfl,l⟩:=hb;have op:=hp.one;have R:=l.one;refine bk C.q175 zU fun T hl c d=>?_;refine zW (aE hl c d) ?_;refine AnsH.eq (iw C zF (F7 (x:=x) (y:=y) (H:=H) hp l (zG H) (by refine wO ?_; rfl)) (by simp) fun z A=>?_) fun H2 f=>?_
 ·simp at A; rcases A with rfl | rfl <;> assumption
 obtain ⟨k2,_,S⟩:=zT H zK f;have b0:=f.get (b:=H.next) (e:=.cells [.bool (decide (x<0)),p] aa true) (cy);have s:=f.get (b:=H.next+1) (e:=.cells [.bool (decide (y<0)),q] aa true) (cy);have E:=f.get (b:=H.next+2) (e:=.cells [.bool false,.nilSl] aa true) (cy);refine zW (bO hl c d @b0 s) ?_;refine AnsH.use (J6 C zF (hp.mono (zG H)) (l.mono (zG H)) hx hy zO) ?_;rintro v D ⟨o,r,rfl,i,hr,g⟩;obtain ⟨O,_,U⟩:=zT H zK g;have F:=g.get (b:=H.next) b0;have G:=g.get (b:=H.next+1) s;have I:=g.get (b:=H.next+2) E;obtain ⟨B,k⟩:∃ B,B=decide ((x<0)≠(y<0)):=⟨_,rfl⟩
 obtain ⟨rb,m⟩:∃ rb,rb=decide (x.natAbs % y.natAbs≠0):=⟨_,rfl⟩
 obtain ⟨M,t⟩:∃ n,n=x.natAbs / y.natAbs:=⟨_,rfl⟩
 obtain ⟨Rn,j⟩:∃ n,n=x.natAbs % y.natAbs:=⟨_,rfl⟩
 have hne:=Sx x y;rw [<- k] at hne;rw [<- t] at i;rw [<- j] at hr;have u:=Qj Rn;have w:=P7 (x:=x) h0;rw [<- k,<- t] at w;rw [<- j] at m;rw [<- m] at u;rw [<- j,<- m,<- k];refine zW (dx hl c d F @G hne) ?_;refine AnsH.use (fK C zF (i.mono (zG D)) _) ?_;rintro v4 L ⟨rfl,h⟩;obtain ⟨K,_,_⟩:=zT H zK h;have Q:=i.one;have d2:=h.get (b:=H.next+2) I;have P:=K.wf _ _ d2;have J:=hr.mono h.sub;refine zW (jC hl c d d2 J.lenV u @Qf @KM) ?_;refine ⟨_,rfl,?_,zK⟩;rw [<- w];exact pb _ ((i.mono h.sub).monoT (SubT.put_ty d2 zU))
theorem Uu (a b c d:AV) (l:List AV):Gq 3 (.tup (a :: b :: c :: d :: l))=some d:=rfl
def E9 (C:Code tab) (l:Wf H) {a b:AV} {x y:Int} (ha:IntV H a x) (hb:IntV H b y) (hx:fq x) (hy:fq y) (h0:y≠0) (hd:x.natAbs % y.natAbs=0) :
  Ans tab (.fn oh [a,b]) H fun v H'=>∃ q,v=.tup [q,.int .i64 0]/\IntV H' q (x.tdiv y)/\Kp H H':=by
 obtain ⟨p,rfl,hp⟩:=ha;obtain ⟨q,rfl,h⟩:=hb;have op:=hp.one;have t:=h.one;refine bk C.q161 zU fun T hl f g=>?_;refine zW (aE hl f g) ?_;refine AnsH.use (zB C zF ⟨p,rfl,hp.mono (zG H)⟩ ⟨q,rfl,h.mono (zG H)⟩ hx hy h0) ?_;rintro v c ⟨w,rfl,⟨r,rfl,hr⟩,d⟩;obtain ⟨i,_,u⟩:=zT H zK d;have s:=hr.one;have k:decide (x.natAbs % y.natAbs≠0)=false:=by simp [hd]
 rw [k];have d2:=d.get (b:=H.next+2) (e:=.cells [.bool false,.nilSl] aa true) (cy);have m:=i.wf _ _ d2;have n:H.next+17<=c.next:=d.le
 have f3:c.get (H.next+12)=none:=d.free (show _<H.next+17 by omega) (by rw [aB zO,aB zO,aB zO]; exact l.fresh (b:=H.next+12) zO);refine zW (bO hl f g d2 @Uu) ?_;have s3:Sub (c.up 8) (((c.up 8).put (H.next+12) (Ent.cells [AV.bool false,AV.nilSl] aa true)).put (H.next+12) (Ent.cells [AV.bool (decide (x.tdiv y<0)),r] aa true)):=(aV (H:=c.up 8) f3).put f3 _;have j:=(hr.mono (Sub.bump c 8)).mono s3;have d3:(((c.up 8).put (H.next+12) (Ent.cells [AV.bool false,AV.nilSl] aa true)).put (H.next+12) (Ent.cells [AV.bool (decide (x.tdiv y<0)),r] aa true)).get (H.next+2)=some (.cells [.bool false,.nilSl] aa true):=by exact zV d2
 refine ⟨_,rfl,⟨r,rfl,j.monoT (SubT.put_ty d3 zU)⟩,?_⟩;have o:c.next<=(c.up 8).next:=VL _ _
 refine ((((i.up 8).put ?_ ?_).put ?_ ?_).put ?_ ?_)
 all_goals (first | omega | (simp only [next_put]; omega))
def QN (C:Code tab) (U:Wf H) {a b:AV} {x y:Nat} (ha:bA H a x) (hb:bA H b y) (hx:Sm x) (hy:Sm y) :
  Ans tab (.fn xq [a,b]) H fun v H'=>∃ r,v=.tup [r,.int .i64 0]/\bA H' r (Nat.gcd x y)/\Kp H H':=by
 have R:=ha.one;have S:=hb.one;refine bk C.q160 zU fun T hl q s=>?_;refine zW (aE hl q s) ?_;refine AnsH.eq (A9 C zF (Cc (H:=H) ha hb (zG H) (by refine wO ?_; rfl)) (by simp) fun c hc=>?_) fun H2 F=>?_
 ·unfold Sm at hx hy;simp at hc; rcases hc with rfl | rfl
  ·exact ⟨zO,(dO _)⟩
  ·exact ⟨zO,(dO _)⟩
 obtain ⟨k2,_,Y⟩:=zT H zK F;refine zW (aE hl q s) ?_;refine mr H2 [0,1] (fun k vs H'=>∃ a' b' f d,vs=[a',b']/\bA H' a' f/\bA H' b' d/\Sm f/\Sm d/\Nat.gcd f d=Nat.gcd x y/\k=d) (fun vs H'=>∃ a' b',vs=[a',b']/\bA H' a' (Nat.gcd x y)/\Sm (Nat.gcd x y)) y (by simp only [U4,hl]; rfl) rfl zK ⟨a,b,x,y,by exact zV (aE hl q s),ha.mono k2.sub,hb.mono k2.sub,hx,hy,rfl,rfl⟩ ?_ ?_
 ·rintro k T1 e i G g ⟨a',b',f,d,j,m,p,w,t,hg,O⟩;have w1:=g.wf;have K:=g.le;have X:=p.one;simp only [Vb,Vf,Vd,and_true] at j;obtain ⟨v0,v1⟩:=j;have P:=cm d;refine zW (aW i v0 v1 p.lenV) ?_;refine iteH.split (fun h=>?_) fun h=>?_
  ·refine zW (aE i v0 v1) ?_;refine AnsH.use (J6 C zF (m.mono (zG e)) (p.mono (zG e)) w t zO) ?_;rintro v N ⟨o,r,rfl,Q,hr,u⟩;obtain ⟨V,_,Z⟩:=zT H2 zK u;refine zW (aE i v0 v1) ?_;have hlt:f % d<d:=VS _ zO;refine ⟨zK,f % d,zO,_,_,d,f % d,rfl,p.mono u.sub,hr,t,Sm.mono (Xd hlt) t,?_,rfl⟩;rw [<- hg,Nat.gcd_comm f d,Nat.gcd_rec d f,Nat.gcd_comm]
  ·refine zW (aE i v0 v1) ?_;refine ⟨zK,_,_,rfl,?_⟩;have D:d=0:=zO;rw [D,Nat.gcd_zero_right] at hg;rw [<- hg];exact ⟨m.mono (zG e),w⟩
 ·rintro T1 e i G g ⟨a',b',j,m,L⟩;have w1:=g.wf;have K:=g.le;simp only [Vb,Vf,Vd,and_true] at j;obtain ⟨v0,v1⟩:=j;unfold Sm at L;have I:SlV (bz bp) ae (e.up 4) a' (ag (Nat.gcd x y)):=m.mono (Sub.bump e 4);obtain ⟨M,z,A,h2,J,W,-,-⟩:=Bl.app (E:=bz bp) (ty:=ae) (bytes:=8) (id:=e.next+1) (H0:=e) (H:=e.up 4) (v:=.nilSl) (l:=[]) (.inl ⟨rfl,rfl⟩) zU zK I zO (by refine wO ?_; omega) (w1.fresh (b:=e.next+1) zO) (fun b n h=>by cases h) (by simp; omega) (by simp; omega);have B:cC (e.up 4) (e.next+1) 1 8 ae .nilSl a'=some (M,z):=A;refine zW (aE i v0 B) ?_;exact ⟨_,rfl,Bl.sl h2,Kp.trans (Kp.trans k2 g) J⟩
end
section
variable {tab:Nat->Option az} {H:Heap} {s:AV}
def rawE:fF (Bool × List Nat) where
 sz:=2
 tys:=[ae]
 R H cs z:=∃ v,cs=[.bool z.1,v]/\Lb H v z.2
 pos:=zO
 len:=by rintro H cs z ⟨v,rfl,h⟩; exact ⟨rfl,by simp [h.one.2]; rfl⟩
 mono:=by rintro H H' cs z hs ⟨v,rfl,h⟩; exact ⟨v,rfl,h.monoT hs⟩
def qi (z:Bool × List Nat):Bool:=decide (z.2.getLast? = some 0) || (z.1 && decide (z.2.length=0))
def Fa (C:Code tab) (g:Wf H) {b:Bool} {l:List Nat} {w:AV} (hn:Lb H w l) (f:l.length<4611686018427387904):Ans tab (.fn lh [.agg [.bool b,w]]) H fun v H'=>v=.int .i64 (if qi (b,l) then 8 else 0)/\Kp H H':=by
 have j:=hn.one;refine cY C.q92 zU fun T hl a=>?_;refine zW (aw hl a) ?_;have k1:Kp H ((H.up 16).put H.next (.cells [.bool b,w] aa true)):=zK;have i:=k1.le;refine AnsH.eq (o0 C k1.wf (hn.mono k1.sub) f) fun H2 d=>?_;have k2:=k1.trans d;have b0:H2.get H.next=some (.cells [.bool b,w] aa true):=d.get (ap _ _ _)
 by_cases c:l.getLast? = some 0
 ·rw [if_pos c];refine zW (aE hl a @b0) ?_;exact ⟨by simp [qi,c],zK⟩
 ·rw [if_neg c];cases b with
  | false =>
   refine zW (aE hl a @b0) ?_;exact ⟨by simp [qi,c],zK⟩
  | true =>
   refine zW (aW hl a @b0 hn.lenV) ?_;refine iteH.split (fun h=>?_) fun h=>?_
   ·have e:l=[]:=VB zO;refine zW (aw hl a) ?_;exact ⟨by simp [qi,c,e],zK⟩
   ·have e:l≠[]:=fun e=>h (by rw [e]; rfl);refine zW (aw hl a) ?_;exact ⟨by simp [qi,c,e],zK⟩
def nL {α:Type} (p:α->Bool) (l:List α):Int:=match l.findIdx? p with
 | some i=>(i:Int)
 | none=>-1
def sM {α:Type} {p:α->Bool} {l:List α} {j:Nat} (hj:j<l.length) (h0:∀ k (h:k<l.length),k<j->p l[k]=false) (h1:p l[j]=true):nL p l=(j:Int):=by
 have:l.findIdx? p=some j:=by
  rw [V7];exact ⟨hj,h1,fun k a=>by rw [h0 k zO a]; simp⟩
 simp [nL,this]
def pU {α:Type} {p:α->Bool} {l:List α} (h0:∀ k (h:k<l.length),p l[k]=false):nL p l = -1:=by
 have:l.findIdx? p=none:=by
  rw [Xx];intro x hx;obtain ⟨k,a,rfl⟩:=Wm hx;exact h0 k a
 simp [nL,this]
def sN {α:Type} (p:α->Bool) (l:List α):decide (nL p l ≥ 0)=l.any p:=by
 cases h:l.findIdx? p with
 | none =>
  have:l.any p=false:=by
   rw [Xx] at h;rw [Ww]; intro x hx; simp [h x hx]
  simp [nL,h,this]
 | some i =>
  have:l.any p=true:=by
   rw [V7] at h;obtain ⟨hi,h1,-⟩:=h;rw [VQ]; exact ⟨_,U9 hi,h1⟩
  simp [nL,h,this]
def Ck (C:Code tab) (z:Wf H) {α:Type} {E:fF α} {ty fi:Nat} {first caps:List AV} {l:List α} (q:E.sz=2) (hs:SlV E ty H s l) (w:l.length<4611686018427387904) (p:α->Bool)
  (r:∀ a∈l,∀ H' cs,Kp H H'->E.R H' cs a->Ans tab (.fn fi (first++[.agg cs]++caps)) H' fun v H2=>v=.bool (p a)/\Kp H' H2) :
  Ans tab (.fn cJ [s,.fn (.func fi) first caps]) H fun v H'=>v=.int .i64 (nL p l)/\Kp H H':=by
 refine bk C.q122 zU fun T hl c d=>?_;refine zW (aW hl c d hs.lenV) ?_;refine aq H [] (fun j _ _=>∀ k (h:k<l.length),k<j->p l[k]=false) (a:=0) (N:=l.length) rfl (by refine zW (aE hl c d) ?_; rfl) (zV (aE hl c d)) (Vk _) zO (by simp only [U4,hl]; rfl) rfl (fun _ _ _ _ h=>h) zK (fun k _ h=>by omega) ?_ ?_
 ·intro j T1 m _ hj b t i g f;have w1:=g.wf;have A:=g.le;have t0:ad T1 0=s:=(i.at_ 0 zU).trans (zV (aw hl c));have t1:ad T1 1=.fn (.func fi) first caps:=(i.at_ 1 zU).trans (zV (aW hl c d d))
  obtain ⟨cs,hr,y,-,o⟩:=(hs.mono g.sub).at (U7 hj);have n:=SlV.idx hs .i64 j hj;rw [q] at o n;simp only [U4,hl] at b;refine zW (dx b t0 t1 t n o) ?_;refine AnsH.eq (r _ (U9 hj) _ cs zK (E.mono ((zG m).t _) hr)) fun H2 u=>?_;obtain ⟨k2,_,_⟩:=zT H zK u;cases hp:p l[j] with
  | true =>
   refine zW b ?_;exact ⟨by rw [sM hj f hp],zK⟩
  | false =>
   refine zW b ?_;refine ⟨zK,fun k h x=>?_⟩;by_cases e:k=j
   ·subst e; exact hp
   ·exact f k h zO
 ·intro T1 m b i g f;simp only [U4,hl] at b;refine zW b ?_;exact ⟨by rw [pU fun k h=>f k h h],zK⟩
def xU (C:Code tab) (i:Wf H) {α:Type} {E:fF α} {ty fi:Nat} {first caps:List AV} {l:List α} (d:E.sz=2) (hs:SlV E ty H s l) (e:l.length<4611686018427387904) (p:α->Bool)
  (f:∀ a∈l,∀ H' cs,Kp H H'->E.R H' cs a->Ans tab (.fn fi (first++[.agg cs]++caps)) H' fun v H2=>v=.bool (p a)/\Kp H' H2) :
  Ans tab (.fn cu [s,.fn (.func fi) first caps]) H fun v H'=>v=.bool (l.any p)/\Kp H H':=by
 refine bk C.q107 zU fun T hl b c=>?_;refine zW (aE hl b c) ?_;refine AnsH.eq (Ck C zF d (hs.mono (zG H)) e p fun a ha H' cs g hr=>f a ha H' cs (Kp.trans (H:=H) zK g) hr) fun H2 h=>?_;obtain ⟨k2,_,_⟩:=zT H zK h;refine zW (aE hl b c) ?_;exact ⟨by rw [sN],zK⟩
def DF (C:Code tab) (f:Wf H) {cs:List AV} {z:Bool × List Nat} (e:rawE.R H cs z) (c:z.2.length<4611686018427387904) :
  Ans tab (.fn mU [.agg cs]) H fun v H'=>v=.bool (qi z)/\Kp H H':=by
 obtain ⟨w,rfl,hn⟩:=e;obtain ⟨b,l⟩:=z;have g:=hn.one;refine cY C.q108 zU fun T hl a=>?_;refine zW (aw hl a) ?_;refine AnsH.eq (Fa C zF (hn.mono (zG H)) c) fun H2 d=>?_;obtain ⟨k2,_,_⟩:=zT H zK d;cases qi (b,l) with
 | true =>
  rw [if_pos rfl];refine zW (aw hl a) ?_;exact zK
 | false =>
  rw [if_neg zU];refine zW (aw hl a) ?_;exact zK
def vE (l:List (Bool × List Nat)):Bool:=decide (l.length<=64) && !l.any qi
def qG (l:List (Bool × List Nat)):Prop:=l.length<4611686018427387904/\∀ z∈l,z.2.length<4611686018427387904
def su (C:Code tab) (h:Wf H) {l:List (Bool × List Nat)} (hs:SlV rawE aa H s l) (d:qG l) :
  Ans tab (.fn nB [s]) H fun v H'=>v=.int .i64 (if vE l then 0 else 8)/\Kp H H':=by
 refine cY C.q78 zU fun T hl b=>?_;by_cases c:l.length<=64
 ·have e:¬ (64:Int)<(l.length:Int):=zO;refine zW (aW hl b hs.lenV e) ?_;refine AnsH.eq (xU C zF rfl (hs.mono (zG H)) d.1 qi fun a ha H' cs f hr=>DF C f.wf hr (d.2 a ha)) fun H2 g=>?_;obtain ⟨k2,_,_⟩:=zT H zK g;cases ha:l.any qi with
  | true =>
   refine zW (aw hl b) ?_;exact ⟨by simp only [vE,ha]; simp,zK⟩
  | false =>
   refine zW (aw hl b) ?_;exact ⟨by simp only [vE,ha]; simp [c],zK⟩
 ·have e:(64:Int)<(l.length:Int):=zO;refine zW (aW hl b hs.lenV e) ?_;exact ⟨by simp [vE,c],zK⟩
end
def NoTy (tys:List Nat) (H:Heap) (b:Nat):Prop:=∀ cs t r,t∈tys->H.get b≠some (.cells cs t r)
def NoTy.none {tys:List Nat} {H:Heap} {b:Nat} (h:H.get b=none):NoTy tys H b:=fun cs t r _ e=>by rw [h] at e; cases e
def NoTy.ty {tys:List Nat} {H:Heap} {b ty:Nat} {cs:List AV} {r:Bool} (h:H.get b=some (.cells cs ty r)) (hn:ty ∉ tys):NoTy tys H b:=fun c t d a e=>by rw [h] at e; cases e; exact hn a
def NoTy.fresh {tys:List Nat} {H:Heap} {b:Nat} (a:Wf H) (h:H.next<=b):NoTy tys H b:=NoTy.none (a.fresh h)
def SubT.refl (tys:List Nat) (H:Heap):SubT tys H H:=fun _ _ _ _ _ h=>h
def SubT.upR {tys:List Nat} {H H':Heap} {m:Nat} (h:SubT tys H H'):SubT tys H (H'.up m):=h
def SubT.puts {tys:List Nat} {H H':Heap} {b:Nat} {e:Ent} (h:SubT tys H H') (hb:NoTy tys H b):SubT tys H (H'.put b e):=fun c cs t r a hc=>by
 rw [aB (fun d=>hb cs t r a (by rw [<- d]; exact hc))]; exact h c cs t r a hc
def SubT.kills {tys:List Nat} {H H':Heap} {b:Nat} (h:SubT tys H H') (hb:NoTy tys H b):SubT tys H (H'.kill b):=fun c cs t r a hc=>by
 rw [cP (fun d=>hb cs t r a (by rw [<- d]; exact hc))]; exact h c cs t r a hc
def SubT.trans {tys:List Nat} {H H' H'':Heap} (h:SubT tys H H') (h':SubT tys H' H''):SubT tys H H'':=fun c cs t r a hc=>h' c cs t r a (h c cs t r a hc)
def zS {P:Prop} (h:P:=by repeat (first | assumption | exact SubT.refl _ _ | exact Sub.t (by assumption) _ | refine SubT.upR ?_ | refine SubT.puts ?_ (by first | assumption | exact NoTy.fresh (by assumption) zO) | refine SubT.kills ?_ (by first | assumption | exact NoTy.fresh (by assumption) zO))):P:=h
def IntV.monoT {H H':Heap} {v:AV} {z:Int} (hs:SubT [ae] H H') (h:IntV H v z):IntV H' v z:=by
 obtain ⟨w,rfl,h⟩:=h; exact ⟨w,rfl,SlV.monoT (E:=bz bp) hs h⟩
def Bt (e:Nat) (z:Int):Prop:=z.natAbs<2^e
def Bt.mono {e f:Nat} {z:Int} (h:Bt e z) (a:e<=f):Bt f z:=Vu h (VI zU a)
def Bt.zero (e:Nat):Bt e 0:=VY zU
def Bt.neg {e:Nat} {z:Int} (h:Bt e z):Bt e (-z):=by unfold Bt at *; rwa [Ym]
def Bt.mul {e f:Nat} {x y:Int} (h:Bt e x) (h':Bt f y):Bt (e+f) (x*y):=by
 unfold Bt at *;rw [Yq,V4];exact ZD h h'
def Bt.add {e f:Nat} {x y:Int} (h:Bt e x) (h':Bt f y):Bt (max e f+1) (x+y):=by
 have h1:=h.mono (Nat.le_max_left e f);have h2:=h'.mono (Nat.le_max_right e f);unfold Bt at *;rw [VG]
 have:=YF x y
 omega
def Bt.len {e:Nat} {z:Int} (h:Bt e z) (he:e<=8796093022208):(ag z.natAbs).length<274877906944:=by
 have h1:z.natAbs<B^(e / 64+1):=by
  have hb:B=2^64:=by decide
  rw [hb,<- Xl];exact Vu h (VI zU zO)
 have:=br h1
 omega
def Bt.sm {e:Nat} {z:Int} (h:Bt e z) (he:e<=8796093022208):fq z:=by
 have:=h.len he
 unfold fq Sm; omega
def kb:AV->Option Nat
 | .own b _ _ _ _ _=>some b
 | _=>none
def Fr (H:Heap) (v:AV):Prop:=∀ b,kb v=some b->H.next<=b
abbrev RowV (H:Heap) (v:AV) (l:List Int):Prop:=SlV intE aa H v l
abbrev eF (H:Heap) (v:AV) (ls:List (List Int)):Prop:=y8 (tx intE aa) af H v ls
def dU (z:Int):Bool × List Nat:=(decide (z<0),ag z.natAbs)
def SlV.raw {ty:Nat} {H:Heap} {v:AV} {l:List Int} (h:SlV intE ty H v l):SlV rawE ty H v (l.map dU):=by
 obtain ⟨cells,hr,c,hc,ha⟩:=h;refine ⟨cells,hr,c,by rw [hc,Vh]; rfl,fun i a hi=>?_⟩;rw [V6] at hi;cases b:l[i]? with
 | none=>rw [b] at hi; cases hi
 | some z =>
  rw [b] at hi; cases hi;obtain ⟨w,h1,h2⟩:=ha i z b;exact ⟨w,h1,h2⟩
def GX (z:Int):qi (dU z)=false:=by
 have h1:¬ (ag z.natAbs).getLast? = some 0:=dO z.natAbs;have h2:=cm z.natAbs;show (decide ((ag z.natAbs).getLast? = some 0) || (decide (z<0) && decide ((ag z.natAbs).length=0)))=false;rw [decide_eq_false h1,YU];by_cases h:z<0
 ·have h3:¬ (ag z.natAbs).length=0:=by have:=h2.2 zO; omega
  rw [decide_eq_false h3,Bool.and_false]
 ·rw [decide_eq_false h,ZU]
section
variable {tab:Nat->Option az} {H:Heap} {s:AV}
def uY (C:Code tab) (c:Wf H) {l:List Int} (hs:RowV H s l) (b:l.length<=64) (d:∀ z∈l,fq z):Ans tab (.fn nB [s]) H fun v H'=>v=.int .i64 0/\Kp H H':=by
 refine (su C c hs.raw ⟨by rw [Vh]; omega,fun z h=>?_⟩).mono fun v H' h=>?_
 ·rw [Va] at h;obtain ⟨a,ha,rfl⟩:=h
  have:=d a ha
  unfold fq Sm at this;show (ag a.natAbs).length<_;omega
 ·have e:vE (l.map dU)=true:=by
   simp only [vE,Vh,List.any_map,VH,decide_eq_true_eq,Wk,Ww];exact ⟨b,fun z _=>by simp [GX]⟩
  rw [e,if_pos rfl] at h;exact h
def dI {ty:Nat} {ls:List (List Int)} (hs:y8 (tx intE aa) ty H s ls) {i:Nat} (hi:i<ls.length):∃ w,RowV H w ls[i]/\bc H none (aA s i)=some w:=SlV.at1 hs (U7 hi)
def gR (C:Code tab) (L:Wf H) {ls:List (List Int)} {ty d:Nat} (hs:y8 (tx intE aa) ty H s ls) (h0:0<ls.length) (K:ls.length<4611686018427387904) (hd:d<=64) (hc:∀ r∈ls,r.length=d/\∀ z∈r,fq z) :
  Ans tab (.fn oj [s]) H fun v H'=>v=.int .i64 0/\Kp H H':=by
 refine cY C.q89 zU fun T hl g=>?_;refine zW (aE hl g hs.lenV) ?_;refine aq H [] (fun _ _ _=>True) (a:=0) (N:=ls.length) rfl (by refine zW (aw hl g) ?_; rfl) (zV (aw hl g)) (Vk _) zO (by simp only [U4,hl]; rfl) rfl (fun _ _ _ _ h=>h) zK trivial ?_ ?_
 ·intro j T1 p _ hj b u m f _;have w1:=f.wf;have F:=f.le;have J:ad T1 8=s:=(m.at_ 8 zU).trans (zV (aw hl g));obtain ⟨w,hr,l⟩:=dI (hs.mono f.sub) hj;have k:=SlV.idx1 hs .i64 j hj;have t:=hc _ (U9 hj);simp only [U4,hl] at b;refine zW (bO b J u k l) ?_;refine AnsH.eq (uY C zF (hr.mono (zG p)) zO t.2) fun H2 c=>?_;obtain ⟨k2,_,_⟩:=zT H zK c;refine zW b ?_;exact zK
 ·intro T1 p b m f _;have w1:=f.wf;have F:=f.le;have t0:ad T1 0=s:=(m.at_ 0 zU).trans (zV (aw hl g));obtain ⟨o,e,hr⟩:=hs.lo .i64 1 zO;have e':bQ 1 s (some (.int .i64 1)) none none=some o:=e;have q:y8 (tx intE aa) ty H o (ls.drop 1):=hr;simp only [U4,hl] at b;refine zW (aW b t0 e' hr.lenV) ?_;refine aq H [] (fun _ _ _=>True) (a:=0) (N:=(ls.drop 1).length) rfl (by refine zW b ?_; rfl) (zV b) (Vk _) (by simp; omega) (by simp only [U4,b]; rfl) rfl (fun _ _ _ _ h=>h) zK trivial ?_ ?_
  ·intro j T2 H2 _ hj i x n c _;have O:=c.wf;have M:=c.le;have I:ad T2 21=o:=(n.at_ 21 zU).trans (zV b);have G:ad T2 0=s:=(n.at_ 0 zU).trans (zV (aw b t0));obtain ⟨w,D,l⟩:=dI (q.mono c.sub) hj;obtain ⟨w0,B,A⟩:=dI (hs.mono c.sub) h0;have k:=SlV.idx1 q .i64 j hj;have y:cd 1 s (.int .i64 0)=some (aA s 0):=SlV.idx1 hs .i64 0 h0;have l2:lenV w=some (.int .i64 (d:Int)):=by rw [D.lenV,(hc _ (XP (U9 hj))).1]
   have E:lenV w0=some (.int .i64 (d:Int)):=by rw [B.lenV,(hc _ (U9 h0)).1]
   simp only [U4,b] at i;refine zW (np i I x k l G y A l2 E) ?_;exact zK
  ·intro T2 H2 i n c _;simp only [U4,b] at i;refine zW i ?_;exact zK
def MuI (z:Int):Prop:=(ag z.natAbs).length<274877906944
def MuI.sm {z:Int} (h:MuI z):fq z:=by unfold MuI at h; unfold fq Sm; omega
def Jk (C:Code tab) (i:Wf H) {a b:AV} {x y:Int} (ha:IntV H a x) (hb:IntV H b y) (hx:fq x) (hy:fq y):Ans tab (.fn xf [a,b]) H fun v H'=>IntV H' v (x+y)/\Kp H H':=by
 obtain ⟨p,rfl,hp⟩:=ha;obtain ⟨q,rfl,g⟩:=hb;have op:=hp.one;have l:=g.one;refine bk C.q91 zU fun T hl d f=>?_;refine zW (aE hl d f) ?_;refine AnsH.use (KH C zF ⟨p,rfl,hp.mono (zG H)⟩ ⟨q,rfl,g.mono (zG H)⟩ hx hy) ?_;rintro v H2 ⟨r,rfl,⟨w,rfl,hr⟩,c⟩;obtain ⟨k2,_,n⟩:=zT H zK c;have m:=hr.one;have k:H.next+12<=H2.next:=c.le
 have d2:=c.get (b:=H.next+2) (e:=.cells [.bool false,.nilSl] aa true) (cy);have h:H2.get (H.next+9)=none:=c.free (show _<H.next+12 by omega) (by rw [aB zO,aB zO,aB zO]; exact i.fresh (b:=H.next+9) zO);have m2:NoTy [ae] H2 (H.next+2):=NoTy.ty d2 zU;have j:NoTy [ae] H2 (H.next+9):=NoTy.none h;refine zW (aW hl d f d2) ?_;exact ⟨⟨w,rfl,SlV.monoT (E:=bz bp) zS hr⟩,zK⟩
def nu (C:Code tab) (i:Wf H) {a b:AV} {x y:Int} (ha:IntV H a x) (hb:IntV H b y) (hx:MuI x) (hy:MuI y):Ans tab (.fn oi [a,b]) H fun v H'=>IntV H' v (x*y)/\Kp H H':=by
 obtain ⟨p,rfl,hp⟩:=ha;obtain ⟨q,rfl,g⟩:=hb;have op:=hp.one;have l:=g.one;refine bk C.q90 zU fun T hl d f=>?_;refine zW (aE hl d f) ?_;refine AnsH.use (KF C zF ⟨p,rfl,hp.mono (zG H)⟩ ⟨q,rfl,g.mono (zG H)⟩ hx hy) ?_;rintro v H2 ⟨r,rfl,⟨w,rfl,hr⟩,c⟩;obtain ⟨k2,_,n⟩:=zT H zK c;have m:=hr.one;have k:H.next+12<=H2.next:=c.le
 have d2:=c.get (b:=H.next+2) (e:=.cells [.bool false,.nilSl] aa true) (cy);have h:H2.get (H.next+9)=none:=c.free (show _<H.next+12 by omega) (by rw [aB zO,aB zO,aB zO]; exact i.fresh (b:=H.next+9) zO);have m2:NoTy [ae] H2 (H.next+2):=NoTy.ty d2 zU;have j:NoTy [ae] H2 (H.next+9):=NoTy.none h;refine zW (aW hl d f d2) ?_;exact ⟨⟨w,rfl,SlV.monoT (E:=bz bp) zS hr⟩,zK⟩
def tp (g:Nat->Int->Int) (l:List Int) (j:Nat):List Int:=(List.range l.length).map fun i=>if i<j then g i (l.getD i 0) else 0
def Lt (g:Nat->Int->Int) (l:List Int):tp g l 0=List.replicate l.length 0:=by
 simp [tp,List.map_const']
def FT (g:Nat->Int->Int) (l:List Int) (j:Nat):(tp g l j).length=l.length:=by simp [tp]
def NX (g:Nat->Int->Int) (l:List Int) {j:Nat} (hj:j<l.length):(tp g l j).set j (g j l[j])=tp g l (j+1):=by
 apply Xb
 ·simp [tp]
 ·intro i h1 h2;have hi:i<l.length:=by simpa [tp] using h2
  rw [List.getElem_set];by_cases e:j=i
  ·subst e; simp [tp,hj]
  ·rw [if_neg e];simp only [tp,X8,List.getElem_range];by_cases h:i<j
   ·rw [if_pos h,if_pos zO]
   ·rw [if_neg h,if_neg zO]
def NY (g:Nat->Int->Int) (l:List Int):tp g l l.length=l.mapIdx g:=by
 apply Xb
 ·simp [tp]
 ·intro i h1 h2;have hi:i<l.length:=by simpa [tp] using h1
  simp [tp,hi]
def DB (C:Code tab) (O:Wf H) {l:List Int} {fi:Nat} {first caps:List AV} (hs:RowV H s l) (L:l.length<1099511627776) (g:Nat->Int->Int)
  (y:∀ i (hi:i<l.length) H' w,Kp H H'->IntV H' w l[i]->Ans tab (.fn fi (first++[.int .i64 (i:Int),w]++caps)) H' fun v H2=>IntV H2 v (g i l[i])/\Kp H' H2) :
  Ans tab (.fn mQ [s,.fn (.func fi) first caps]) H fun v H'=>Kp H H'/\∃ b,Own intE aa H H' b true v (l.mapIdx g):=by
 refine bk C.q136 zU fun T hl c d=>?_;have D:∀ H':Heap,Io H' (H.next+3) aa 2 32 [.bool false,.nilSl] (.int .i64 (l.length:Int)) (.int .i64 (l.length:Int))=some (.own (H.next+3) 0 l.length l.length 2 true,H'.put (H.next+3) (.cells ((List.replicate l.length [AV.bool false,AV.nilSl]).flatten) aa true)):=fun H'=>jg _ _ _ _ _ _ _ _ _ zO zO rfl;refine zW (bO hl c d hs.lenV D) ?_;have F:intE.R H [.bool false,.nilSl] 0:=⟨.nilSl,by simp,dM H⟩
 refine aq H [] (fun j _ H'=>∃ cells,H'.get (H.next+3)=some (.cells cells aa true)/\Cells intE H' cells (tp g l j)) (a:=0) (N:=l.length) rfl (by refine zW (aE hl c d) ?_; rfl) (zV (aE hl c d)) (Vk _) zO (by simp only [U4,hl]; rfl) rfl (fun j vs H' m ⟨cells,h1,h2⟩=>⟨cells,h1,h2.mono ((Sub.bump H' m).t _)⟩) zK ⟨_,by refine wO ?_; rfl,?_⟩ ?_ ?_
 ·rw [Lt];exact (sC F _).mono ((zG H).t _)
 ·rintro j T1 k _ hj h z n f ⟨cells,hb,hcl⟩;have w1:=f.wf;have G:=f.le;have J:ad T1 11=s:=(n.at_ 11 zU).trans (zV (aw hl c));have t5:ad T1 5=.own (H.next+3) 0 l.length l.length 2 true:=(n.at_ 5 zU).trans (zV (aE hl c d));have t1:ad T1 1=.fn (.func fi) first caps:=(n.at_ 1 zU).trans (zV (aW hl c d d))
  obtain ⟨w,hn,B,-,-⟩:=jO (hs.mono f.sub) hj;have A:cd 2 s (.int .i64 (j:Int))=some (aA s (j*2)):=SlV.idx hs .i64 j hj;have R:=hn.one;have P:=w1 _ _ hb;simp only [U4,hl] at h;refine zW (fE h J t5 t1 z A B) ?_;refine AnsH.use (y j hj _ (.agg [.bool (decide (l[j]<0)),w]) zK ⟨w,rfl,hn.mono (zG k)⟩) ?_;rintro v H2 ⟨⟨q,rfl,t⟩,p⟩;obtain ⟨k2,_,_⟩:=zT H zK p;have K:=k2.wf;have I:=t.one;have o:=p.get (b:=H.next+3) (e:=.cells cells aa true) (zV hb);have Q:=K _ _ o;have M:cells.length=l.length*2:=by have:=hcl.1; rwa [FT] at this
  have u:Fs (some (.cells cells aa true)) 2 (0+j*2) (.agg [.bool (decide (g j l[j]<0)),q])=some (.cells (cells.take (0+j*2)++[.bool (decide (g j l[j]<0)),q]++cells.drop (0+j*2+2)) aa true):=jF (Gn (aI _) I) zO;have r:cd 2 (.own (H.next+3) 0 l.length l.length 2 true) (.int .i64 (j:Int))=some (.ptr (H.next+3) (0+j*2)):=nK hj;rw [VN] at u r;have m3:NoTy [ae] H2 (H.next+3):=NoTy.ty o zU;refine zW (aW h r o u) ?_;refine ⟨zK,_,rfl,?_⟩;rw [<- NX g l hj];have x:Cells intE H2 cells (tp g l j):=hcl.mono ((Kp.sub (H:=k) (Kp.trans zK p)).t _);exact Cells.mono (E:=intE) zS (x.set (i:=j) (by rw [FT]; exact hj) ⟨q,rfl,t⟩)
 ·rintro T1 k h n f ⟨cells,hb,hcl⟩;have w1:=f.wf;have G:=f.le;have t5:ad T1 5=.own (H.next+3) 0 l.length l.length 2 true:=(n.at_ 5 zU).trans (zV (aE hl c d));simp only [U4,hl] at h;refine zW (aw h t5) ?_;refine ⟨zK,H.next+3,?_⟩;rw [NY] at hcl
  have:Own intE aa H k (H.next+3) true (.own (H.next+3) 0 l.length l.length 2 true) (l.mapIdx g):=⟨cells,by simp [intE],hb,hcl,zO⟩
  exact this.mono (Sub.bump k _)
def xX (C:Code tab) (d:Wf H) {l:List Int} {fi:Nat} {first caps:List AV} (hs:RowV H s l) (a:l.length<1099511627776) (g:Nat->Int->Int)
  (c:∀ i (hi:i<l.length) H' w,Kp H H'->IntV H' w l[i]->Ans tab (.fn fi (first++[.int .i64 (i:Int),w]++caps)) H' fun v H2=>IntV H2 v (g i l[i])/\Kp H' H2) :
  Ans tab (.fn mQ [s,.fn (.func fi) first caps]) H fun v H'=>RowV H' v (l.mapIdx g)/\Kp H H'/\Fr H v :=
 (DB C d hs a g c).mono fun _ _ ⟨h1,b,h2⟩=>⟨h2.sl,h1,fun b' hb=>by obtain ⟨cells,rfl,-,-,h⟩:=h2; cases hb; exact h⟩
def zJ (C:Code tab) (c:Wf H) {l:List Int} {fi:Nat} {first caps:List AV} (hs:RowV H s l) (a:l.length<1099511627776) (g:Nat->Int->Int)
  (b:∀ i (hi:i<l.length) H' w,Kp H H'->IntV H' w l[i]->Ans tab (.fn fi (first++[.int .i64 (i:Int),w]++caps)) H' fun v H2=>IntV H2 v (g i l[i])/\Kp H' H2) :
  Ans tab (.fn mQ [s,.fn (.func fi) first caps]) H fun v H'=>RowV H' v (l.mapIdx g)/\Kp H H':=(xX C c hs a g b).mono fun _ _ ⟨h1,h2,_⟩=>⟨h1,h2⟩
end
end Go.Proofs.YteaefaohjlmjdaaGreat.Ev
namespace Go.Proofs.YteaefaohjlmjdaaGreat.Lin
abbrev V:=List Int
def dot:V->V->Int
 | a :: x,b :: y=>a*b+dot x y
 | _,_=>0
def mix (m:Int) (x:V) (n:Int) (y:V):V:=List.zipWith (fun a b=>m*a+n*b) x y
def scl (m:Int) (x:V):V:=x.map (m * ·)
def mp (d:Nat):V:=List.replicate d 0
def mix_length {m n:Int} {x y:V} {d:Nat} (h:x.length=d) (h':y.length=d):(mix m x n y).length=d:=by simp [mix,h,h']
def ah {m:Int} {x:V} {d:Nat} (h:x.length=d):(scl m x).length=d:=by simp [scl,h]
def cz (d:Nat):(mp d).length=d:=by simp [mp]
def dot_comm:∀ x y:V,dot x y=dot y x
 | [],[]=>rfl
 | [],_ :: _=>rfl
 | _ :: _,[]=>rfl
 | a :: x,b :: y=>by simp only [dot]; rw [dot_comm x y,Int.mul_comm]
def nN:∀ (c:V) (d:Nat),dot c (mp d)=0
 | [],d=>by cases d <;> rfl
 | a :: c,0=>rfl
 | a :: c,d+1=>by
  show a*0+dot c (mp d)=0;rw [nN c d]; simp
def bo:∀ (c:V) {x y:V} (m n:Int),x.length=y.length->dot c (mix m x n y)=m*dot c x+n*dot c y
 | [],x,y,m,n,_=>by cases x <;> cases y <;> simp [dot,mix]
 | a :: c,[],[],m,n,_=>by simp [dot,mix]
 | a :: c,[],_ :: _,m,n,h=>by simp at h
 | a :: c,_ :: _,[],m,n,h=>by simp at h
 | a :: c,u :: x,v :: y,m,n,h=>by
  have b:=bo c (x:=x) (y:=y) m n (by simpa using h);simp only [mix,List.zipWith_cons_cons,dot] at b ⊢;rw [b]
  grind
def dot_scl:∀ (c x:V) (m:Int),dot c (scl m x)=m*dot c x
 | [],x,m=>by cases x <;> simp [dot,scl]
 | a :: c,[],m=>by simp [dot,scl]
 | a :: c,u :: x,m=>by
  have b:=dot_scl c x m;simp only [scl,Vb,dot] at b ⊢;rw [b]
  grind
def at_ (x:V) (i:Nat):Int:=x.getD i 0
def aO {x y:V} (h:x.length=y.length) (hi:∀ i,at_ x i=at_ y i):x=y:=by
 apply Xb h
 intro i h1 h2
 have:=hi i
 simpa [at_,h1,h2] using this
def al {m n:Int} {x y:V} (h:x.length=y.length) (i:Nat):at_ (mix m x n y) i=m*at_ x i+n*at_ y i:=by
 simp only [at_,mix,U5,List.getElem?_zipWith];by_cases hi:i<x.length
 ·have a:i<y.length:=h ▸ hi;simp [U7 hi,U7 a]
 ·have a:¬ i<y.length:=h ▸ hi;simp [VM (Xz hi),VM (Xz a)]
def aD {m:Int} {x:V} (i:Nat):at_ (scl m x) i=m*at_ x i:=by
 simp only [at_,scl,U5,V6];cases x[i]? <;> simp
def iU {d i:Nat}:at_ (mp d) i=0:=by
 simp only [at_,mp,U5,We];split <;> rfl
inductive Con (d:Nat) (L R:V->Prop):V->Prop
 | zero:Con d L R (mp d)
 | line {x l:V} (c:Int):Con d L R x->L l->Con d L R (mix 1 x c l)
 | ray {x r:V} (c:Int):0<=c->Con d L R x->R r->Con d L R (mix 1 x c r)
 | div {x:V} (k:Int):0<k->x.length=d->Con d L R (scl k x)->Con d L R x
abbrev Spn (d:Nat) (L:V->Prop):V->Prop:=Con d L (fun _=>False)
section
variable {d:Nat} {L R L' R':V->Prop}
def Con.length (hL:∀ l,L l->l.length=d) (b:∀ r,R r->r.length=d) {x:V} (h:Con d L R x):x.length=d:=by
 induction h with
 | zero=>exact cz d
 | line c _ hl a=>exact mix_length a (hL _ hl)
 | ray c _ _ hr a=>exact mix_length a (b _ hr)
 | div k _ h _ _=>exact h
def Con.mono (hL:∀ l,L l->L' l) (b:∀ r,R r->R' r) {x:V} (h:Con d L R x):Con d L' R' x:=by
 induction h with
 | zero=>exact .zero
 | line c _ hl a=>exact .line c a (hL _ hl)
 | ray c hc _ hr a=>exact .ray c hc a (b _ hr)
 | div k e h _ a=>exact .div k e h a
def Con.smul (hL:∀ l,L l->l.length=d) (e:∀ r,R r->r.length=d) {x:V} (h:Con d L R x):∀ k:Int,0<=k->Con d L R (scl k x):=by
 induction h with
 | zero =>
  intro k _
  have:scl k (mp d)=mp d:=aO (by simp [scl,mp]) fun i=>by rw [aD,iU]; simp
  rw [this]; exact .zero
 | @line x l c hx hl b =>
  intro k a;have h1:=hx.length hL e;have h2:=hL _ hl
  have:scl k (mix 1 x c l)=mix 1 (scl k x) (k*c) l:=aO (by rw [ah (mix_length h1 h2),mix_length (ah h1) h2]) fun i=>by
   rw [aD,al (h1.trans h2.symm),al ((ah h1).trans h2.symm),aD]; grind
  rw [this]; exact .line _ (b k a) hl
 | @ray x r c hc hx hr b =>
  intro k a;have h1:=hx.length hL e;have h2:=e _ hr
  have:scl k (mix 1 x c r)=mix 1 (scl k x) (k*c) r:=aO (by rw [ah (mix_length h1 h2),mix_length (ah h1) h2]) fun i=>by
   rw [aD,al (h1.trans h2.symm),al ((ah h1).trans h2.symm),aD]; grind
  rw [this]; exact .ray _ (VW a hc) (b k a) hr
 | @div x j hj h hx b =>
  intro k a;refine .div j hj (ah h) ?_
  have:scl j (scl k x)=scl k (scl j x):=aO (by rw [ah (ah h),ah (ah h)]) fun i=>by
   rw [aD,aD,aD,aD]; grind
  rw [this]; exact b k a
def Con.add (hL:∀ l,L l->l.length=d) (a:∀ r,R r->r.length=d) {y:V} (h:Con d L R y):∀ x,Con d L R x->Con d L R (mix 1 x 1 y):=by
 induction h with
 | zero =>
  intro x hx;have h1:=hx.length hL a
  have:mix 1 x 1 (mp d)=x:=aO (by rw [mix_length h1 (cz d),h1]) fun i=>by rw [al (h1.trans (cz d).symm),iU]; grind
  rw [this]; exact hx
 | @line y l c hy hl b =>
  intro x hx;have h1:=hx.length hL a;have h2:=hy.length hL a;have h3:=hL _ hl
  have:mix 1 x 1 (mix 1 y c l)=mix 1 (mix 1 x 1 y) c l:=aO (by rw [mix_length h1 (mix_length h2 h3),mix_length (mix_length h1 h2) h3]) fun i=>by
   rw [al (h1.trans (mix_length h2 h3).symm),al (h2.trans h3.symm),al ((mix_length h1 h2).trans h3.symm),al (h1.trans h2.symm)]; grind
  rw [this]; exact .line _ (b x hx) hl
 | @ray y r c hc hy hr b =>
  intro x hx;have h1:=hx.length hL a;have h2:=hy.length hL a;have h3:=a _ hr
  have:mix 1 x 1 (mix 1 y c r)=mix 1 (mix 1 x 1 y) c r:=aO (by rw [mix_length h1 (mix_length h2 h3),mix_length (mix_length h1 h2) h3]) fun i=>by
   rw [al (h1.trans (mix_length h2 h3).symm),al (h2.trans h3.symm),al ((mix_length h1 h2).trans h3.symm),al (h1.trans h2.symm)]; grind
  rw [this]; exact .ray _ hc (b x hx) hr
 | @div y k e h hy b =>
  intro x hx;have h1:=hx.length hL a;refine .div k e (mix_length h1 h) ?_
  have:scl k (mix 1 x 1 y)=mix 1 (scl k x) 1 (scl k y):=aO (by rw [ah (mix_length h1 h),mix_length (ah h1) (ah h)]) fun i=>by
   rw [aD,al (h1.trans h.symm),al ((ah h1).trans (ah h).symm),aD,aD]; grind
  rw [this]; exact b _ (hx.smul hL a k zO)
def Con.sum2 (hL:∀ l,L l->l.length=d) (a:∀ r,R r->r.length=d) {x y:V} (hx:Con d L R x) (hy:Con d L R y) {m n:Int} (hm:0<=m) (hn:0<=n):Con d L R (mix m x n y):=by
 have h1:=hx.length hL a;have h2:=hy.length hL a
 have:mix m x n y=mix 1 (scl m x) 1 (scl n y):=aO (by rw [mix_length h1 h2,mix_length (ah h1) (ah h2)]) fun i=>by
  rw [al (h1.trans h2.symm),al ((ah h1).trans (ah h2).symm),aD,aD]; grind
 rw [this];exact (hy.smul hL a n hn).add hL a _ (hx.smul hL a m hm)
def Con.of_ray {r:V} (hl:r.length=d) (hr:R r):Con d L R r:=by
 have:r=mix 1 (mp d) 1 r:=aO (by rw [mix_length (cz d) hl,hl]) fun i=>by rw [al ((cz d).trans hl.symm),iU]; grind
 rw [this]; exact .ray 1 zO .zero hr
def Con.of_line {l:V} (hl:l.length=d) (hr:L l) (c:Int):Con d L R (scl c l):=by
 have:scl c l=mix 1 (mp d) c l:=aO (by rw [ah hl,mix_length (cz d) hl]) fun i=>by rw [aD,al ((cz d).trans hl.symm),iU]; grind
 rw [this]; exact .line c .zero hr
def Con.trans (b:∀ l,L' l->l.length=d) (f:∀ r,R' r->r.length=d) (hL:∀ l,L l->∀ c:Int,Con d L' R' (scl c l)) (g:∀ r,R r->Con d L' R' r) (e:∀ l,L l->l.length=d) (j:∀ r,R r->r.length=d) {x:V} (h:Con d L R x):Con d L' R' x:=by
 induction h with
 | zero=>exact .zero
 | @line x l c hx hl a =>
  have h1:=hx.length e j;have h2:=e _ hl
  have:mix 1 x c l=mix 1 x 1 (scl c l):=aO (by rw [mix_length h1 h2,mix_length h1 (ah h2)]) fun i=>by
   rw [al (h1.trans h2.symm),al (h1.trans (ah h2).symm),aD]; grind
  rw [this]; exact (hL _ hl c).add b f _ a
 | @ray x r c hc hx hr a =>
  exact a.sum2 b f (g _ hr) zO hc
 | div k m h _ a=>exact .div k m h a
def Con.dot_nonneg (e:∀ l,L l->l.length=d) (f:∀ r,R r->r.length=d) {a:V} (hL:∀ l,L l->dot a l=0) (g:∀ r,R r->0<=dot a r) {x:V} (h:Con d L R x):0<=dot a x:=by
 induction h with
 | zero=>rw [nN]; omega
 | @line x l c hx hl b =>
  rw [bo _ _ _ ((hx.length e f).trans (e _ hl).symm),hL _ hl]; simpa using b
 | @ray x r c hc hx hr b =>
  rw [bo _ _ _ ((hx.length e f).trans (f _ hr).symm)]
  have:=VW hc (g _ hr)
  omega
 | @div x k i h _ b =>
  rw [dot_scl] at b;exact Xe b i
def Con.dot_zero (e:∀ l,L l->l.length=d) (f:∀ r,R r->r.length=d) {a:V} (hL:∀ l,L l->dot a l=0) (g:∀ r,R r->dot a r=0) {x:V} (h:Con d L R x):dot a x=0:=by
 induction h with
 | zero=>rw [nN]
 | @line x l c hx hl b=>rw [bo _ _ _ ((hx.length e f).trans (e _ hl).symm),hL _ hl,b]; simp
 | @ray x r c hc hx hr b=>rw [bo _ _ _ ((hx.length e f).trans (f _ hr).symm),g _ hr,b]; simp
 | @div x k i h _ b =>
  rw [dot_scl] at b;rcases VJ.1 b with h | h
  ·omega
  ·exact h
def Spn.smul (hL:∀ l,L l->l.length=d) {x:V} (h:Spn d L x):∀ k:Int,Spn d L (scl k x):=by
 induction h with
 | zero =>
  intro k
  have:scl k (mp d)=mp d:=aO (by simp [scl,mp]) fun i=>by rw [aD,iU]; simp
  rw [this]; exact .zero
 | @line x l c hx hl a =>
  intro k;have h1:=hx.length hL (fun r h=>h.elim);have h2:=hL _ hl
  have:scl k (mix 1 x c l)=mix 1 (scl k x) (k*c) l:=aO (by rw [ah (mix_length h1 h2),mix_length (ah h1) h2]) fun i=>by
   rw [aD,al (h1.trans h2.symm),al ((ah h1).trans h2.symm),aD]; grind
  rw [this]; exact .line _ (a k) hl
 | ray c hc hx hr a=>exact hr.elim
 | @div x j hj h hx a =>
  intro k;refine .div j hj (ah h) ?_
  have:scl j (scl k x)=scl k (scl j x):=aO (by rw [ah (ah h),ah (ah h)]) fun i=>by
   rw [aD,aD,aD,aD]; grind
  rw [this]; exact a k
def Spn.sum2 (hL:∀ l,L l->l.length=d) {x y:V} (hx:Spn d L x) (hy:Spn d L y) (m n:Int):Spn d L (mix m x n y):=by
 have h1:=hx.length hL (fun r h=>h.elim);have h2:=hy.length hL (fun r h=>h.elim)
 have:mix m x n y=mix 1 (scl m x) 1 (scl n y):=aO (by rw [mix_length h1 h2,mix_length (ah h1) (ah h2)]) fun i=>by
  rw [al (h1.trans h2.symm),al ((ah h1).trans (ah h2).symm),aD,aD]; grind
 rw [this];exact (Spn.smul hL hy n).add hL (fun r h=>h.elim) _ (Spn.smul hL hx m)
end
structure Keep (d:Nat) (E I:V->Prop) (x:V):Prop where
 len:x.length=d
 eq:∀ e,E e->dot e x=0
 ge:∀ i,I i->0<=dot i x
structure DD (d:Nat) (E I:V->Prop) (L:V->Prop) (R:List V):Prop where
 lenL:∀ l,L l->l.length=d
 lineE:∀ l,L l->∀ e,E e->dot e l=0
 lineI:∀ l,L l->∀ i,I i->dot i l=0
 lines:∀ x,x.length=d->(∀ e,E e->dot e x=0)->(∀ i,I i->dot i x=0)->Spn d L x
 keep:∀ r∈R,Keep d E I r
 all:∀ x,Keep d E I x->Con d L (· ∈ R) x
 off:∀ r∈R,∃ i,I i/\dot i r≠0
 ext:∀ r∈R,∀ y,Keep d E I y->(∀ i,I i->dot i r=0->dot i y=0)->∃ k c:Int,0<k/\0<=c/\Spn d L (mix k y (-c) r)
 apart:R.Pairwise fun r s=>¬ ∀ i,I i->(dot i r=0 ↔ dot i s=0)
section
variable {d:Nat} {E I L:V->Prop} {R:List V}
def Keep.add {x y:V} (hx:Keep d E I x) (hy:Keep d E I y) {m n:Int} (hm:0<=m) (hn:0<=n):Keep d E I (mix m x n y):=by
 refine ⟨mix_length hx.len hy.len,fun e he=>?_,fun i hi=>?_⟩
 ·rw [bo _ _ _ (hx.len.trans hy.len.symm),hx.eq e he,hy.eq e he]; simp
 ·rw [bo _ _ _ (hx.len.trans hy.len.symm)]
  have:=VW hm (hx.ge i hi)
  have:=VW hn (hy.ge i hi)
  omega
def DD.lenR (h:DD d E I L R):∀ r,r∈R->r.length=d:=fun r hr=>(h.keep r hr).len
def DD.con_keep (h:DD d E I L R) {x:V} (hx:Con d L (· ∈ R) x):Keep d E I x :=
 ⟨hx.length h.lenL h.lenR,fun e he=>hx.dot_zero h.lenL h.lenR (fun l hl=>h.lineE l hl e he) (fun r hr=>(h.keep r hr).eq e he),
  fun i hi=>hx.dot_nonneg h.lenL h.lenR (fun l hl=>h.lineI l hl i hi) (fun r hr=>(h.keep r hr).ge i hi)⟩
def DD.face (h:DD d E I L R) {S:V->Prop} (b:∀ i,S i->I i) {x:V} (hx:Con d L (· ∈ R) x) (f:∀ i,S i->dot i x=0):Con d L (fun r=>r∈R/\∀ i,S i->dot i r=0) x:=by
 induction hx with
 | zero=>exact .zero
 | @line x l c hx hl a =>
  refine .line c (a fun i hi=>?_) hl
  have:=f i hi
  rw [bo _ _ _ ((hx.length h.lenL h.lenR).trans (h.lenL _ hl).symm),h.lineI l hl i (b i hi)] at this
  simpa using this
 | @ray x r c hc hx hr a =>
  have key:∀ i,S i->dot i x=0/\(0<c->dot i r=0):=fun i hi=>by
   have:=f i hi
   rw [bo _ _ _ ((hx.length h.lenL h.lenR).trans (h.lenR _ hr).symm)] at this;have h1:=(h.con_keep hx).ge i (b i hi);have h2:=(h.keep r hr).ge i (b i hi);have h3:=VW hc h2;refine ⟨zO,fun g=>?_⟩;have j:c*dot i r=0:=zO;rcases VJ.1 j with h5 | h5
   ·omega
   ·exact h5
  by_cases g:c=0
  ·subst g;have e:mix 1 x 0 r=x:=aO (by rw [mix_length (hx.length h.lenL h.lenR) (h.lenR _ hr),hx.length h.lenL h.lenR]) fun i=>by
    rw [al ((hx.length h.lenL h.lenR).trans (h.lenR _ hr).symm)]; grind
   rw [e]; exact a fun i hi=>(key i hi).1
  ·exact .ray c hc (a fun i hi=>(key i hi).1) ⟨hr,fun i hi=>(key i hi).2 zO⟩
 | @div x k m hl hx a =>
  refine .div k m hl (a fun i hi=>?_);rw [dot_scl,f i hi]; simp
def DD.same (h:DD d E I L R) {i j:Nat} {r s:V} (hi:R[i]? = some r) (hj:R[j]? = some s) (hs:∀ a,I a->(dot a r=0 ↔ dot a s=0)):i=j:=by
 rcases Xp i j with hlt | heq | hlt
 ·exfalso
  obtain ⟨b,rfl⟩:=Vl.1 hi;obtain ⟨c,rfl⟩:=Vl.1 hj;exact V3.1 h.apart i j b c hlt hs
 ·exact heq
 ·exfalso
  obtain ⟨b,rfl⟩:=Vl.1 hi;obtain ⟨c,rfl⟩:=Vl.1 hj;exact V3.1 h.apart j i c b hlt fun a ha=>(hs a ha).symm
def DD.lin_of (h:DD d E I L R) {x:V} (hx:Keep d E I x) (a:∀ i,I i->dot i x=0):Spn d L x:=h.lines x hx.len hx.eq a
end
def AW:∀ (l:List V) (u v:V->Int),(∃ i∈l,0<v i)->∃ i∈l,0<v i/\∀ j∈l,0<v j->u i*v j<=u j*v i
 | [],u,v,h=>by obtain ⟨i,hi,_⟩:=h; cases hi
 | a :: l,u,v,h=>by
  by_cases hl:∃ i∈l,0<v i
  ·obtain ⟨i,hi,c,hm⟩:=AW l u v hl;by_cases ha:0<v a/\u a*v i<u i*v a
   ·refine ⟨a,Vm ..,ha.1,fun j hj b=>?_⟩;rcases VF.1 hj with rfl | hj
    ·exact Yy _
    ·have h1:=hm j hj b;have h2:u a*v i*v j<=u i*v a*v j:=YT zO zO;have h3:u i*v j*v a<=u j*v i*v a:=YT h1 zO;have f:(u a*v j)*v i<=(u j*v a)*v i:=by
      have d:u a*v j*v i=u a*v i*v j:=by grind
      have e:u j*v a*v i=u j*v i*v a:=by grind
      have e3:u i*v a*v j=u i*v j*v a:=by grind
      rw [d,e]; rw [e3] at h2; exact Int.le_trans h2 h3
     exact Int.le_of_mul_le_mul_right f c
   ·refine ⟨i,Vi _ hi,c,fun j hj b=>?_⟩;rcases VF.1 hj with rfl | hj
    ·exact Int.not_lt.1 fun hlt=>ha ⟨b,hlt⟩
    ·exact hm j hj b
  ·obtain ⟨i,hi,c⟩:=h;rcases VF.1 hi with rfl | hi
   ·refine ⟨i,Vm ..,c,fun j hj b=>?_⟩;rcases VF.1 hj with rfl | hj
    ·exact Yy _
    ·exact absurd ⟨j,hj,b⟩ hl
   ·exact absurd ⟨i,hi,c⟩ hl
def qV (l:List V) (x:V):Nat:=(l.filter fun i=>!decide (dot i x=0)).length
def Ee {l:List V} {x y:V} (h:∀ i∈l,dot i x=0->dot i y=0):qV l y<=qV l x:=by
 unfold qV
 induction l with
 | nil=>simp
 | cons a l b =>
  have b:=b fun i hi=>h i (Vi _ hi);have ha:=h a (Vm ..);simp only [Xk];by_cases hx:dot a x=0
  ·simp [hx,ha hx]; exact b
  ·by_cases hy:dot a y=0
   ·simp [hx,hy]; omega
   ·simp [hx,hy]; exact b
def JE {l:List V} {x y:V} (h:∀ i∈l,dot i x=0->dot i y=0) {b:V} (hb:b∈l) (hx:dot b x≠0) (hy:dot b y=0):qV l y<qV l x:=by
 unfold qV
 induction l with
 | nil=>cases hb
 | cons a l d =>
  have h':=fun i hi=>h i (Vi _ hi);have ha:=h a (Vm ..);simp only [Xk];rcases VF.1 hb with rfl | hb
  ·have:=Ee h'
   unfold qV at this;simp [hx,hy]; omega
  ·have d:=d h' hb;by_cases c:dot a x=0
   ·simp [c,ha c]; exact d
   ·by_cases e:dot a y=0
    ·simp [c,e]; omega
    ·simp [c,e]; exact d
section
variable {d:Nat} {E L:V->Prop} {R:List V} {l:List V} {a:V}
def oP {x m:V} (hx:Keep d E (· ∈ l) x) (hm:Keep d E (· ∈ l) m) (k:∀ i∈l,dot i x=0->dot i m=0) (hne:∃ i∈l,dot i m≠0) :
  ∃ b∈l,0<dot b m/\0<dot b x/\Keep d E (· ∈ l) (mix (dot b m) x (-(dot b x)) m)/\qV l (mix (dot b m) x (-(dot b x)) m)<qV l x/\∀ j∈l,0<dot j m->dot b x*dot j m<=dot j x*dot b m:=by
 obtain ⟨o,g,s⟩:=hne;have h0:=hm.ge o g;obtain ⟨b,hb,f,h⟩:=AW l (fun i=>dot i x) (fun i=>dot i m) ⟨o,g,zO⟩;have p:0<dot b x:=by
  have h1:=hx.ge b hb;have h2:dot b x≠0:=fun e=>by have:=k b hb e; omega
  omega
 have r:=hx.len.trans hm.len.symm;have a:∀ c,dot c (mix (dot b m) x (-(dot b x)) m)=dot b m*dot c x-dot b x*dot c m:=fun c=>by rw [bo _ _ _ r]; grind
 refine ⟨b,hb,f,p,⟨mix_length hx.len hm.len,fun e he=>by rw [a,hx.eq e he,hm.eq e he]; simp,fun j hj=>?_⟩,JE (fun j hj n=>by rw [a,n,k j hj n]; simp) hb zO (by rw [a]; grind),h⟩;rw [a];by_cases q:0<dot j m
 ·have:=h j hj q
  have e:dot b m*dot j x=dot j x*dot b m:=Int.mul_comm _ _;omega
 ·have h1:=hm.ge j hj;have h2:dot j m=0:=zO;have h3:=VW (Xc f) (hx.ge j hj);rw [h2]; simpa using h3
def gf:∀ (c x:V) (m:Int),dot (scl m c) x=m*dot c x:=fun c x m=>by rw [dot_comm,dot_scl,dot_comm]
def Con.face1 {L' R':V->Prop} (f:∀ l,L' l->l.length=d) (b:∀ r,R' r->r.length=d) (hL:∀ l,L' l->dot a l=0) (j:∀ r,R' r->0<=dot a r) {x:V} (hx:Con d L' R' x) (h:dot a x=0):Con d L' (fun r=>R' r/\dot a r=0) x:=by
 induction hx with
 | zero=>exact .zero
 | @line x l c hx hl g =>
  refine .line c (g ?_) hl;rw [bo _ _ _ ((hx.length f b).trans (f _ hl).symm),hL l hl] at h
  simpa using h
 | @ray x r c hc hx hr g =>
  rw [bo _ _ _ ((hx.length f b).trans (b _ hr).symm)] at h;have h1:=hx.dot_nonneg f b hL j;have h2:=VW hc (j r hr);by_cases n:c=0
  ·subst n;have e:mix 1 x 0 r=x:=aO (by rw [mix_length (hx.length f b) (b _ hr),hx.length f b]) fun i=>by
    rw [al ((hx.length f b).trans (b _ hr).symm)]; grind
   rw [e]; exact g zO
  ·refine .ray c hc (g zO) ⟨hr,?_⟩;have m:c*dot a r=0:=zO;rcases VJ.1 m with h5 | h5
   ·omega
   ·exact h5
 | @div x k o hl hx g =>
  refine .div k o hl (g ?_);rw [dot_scl,h]; simp
def mx (a p n:V):V:=mix (-(dot a n)) p (dot a p) n
variable {Rn:V->Prop} {k:Nat}
def rM (b:∀ l,L l->l.length=d) (c:∀ r,Rn r->r.length=d) {x m:V} (hx:x.length=d) {α β:Int} (f:0<α) (g:0<=β) (hy:Con d L Rn (mix α x (-β) m)) (hm:Con d L Rn m):Con d L Rn x:=by
 have a:=hm.length b c;refine .div α f hx ?_;have e:scl α x=mix 1 (mix α x (-β) m) β m:=aO (by rw [ah hx,mix_length (mix_length hx a) a]) fun i=>by
  rw [aD,al ((mix_length hx a).trans a.symm),al (hx.trans a.symm)]; grind
 rw [e];exact hy.sum2 b c hm zO g
def Jo (h:DD d E (· ∈ l) L R) (s:∀ r,Rn r->r.length=d) (n:∀ y,Keep d E (· ∈ l) y->dot a y=0->qV l y<k->Con d L Rn y) {m m':V} (hm:Keep d E (· ∈ l) m) (f:Keep d E (· ∈ l) m')
  (ha:dot a m=0) (o:dot a m'=0) (j:∀ b∈l,dot b m=0->dot b m'=0) (v:∃ b∈l,dot b m'≠0) (O:qV l m<=k) (G:∀ α β:Int,0<α->0<β->¬ Spn d L (mix α m (-β) m')):Con d L Rn m:=by
 have g:=hm.len.trans f.len.symm;obtain ⟨b0,N,x,z,hy,Q,F⟩:=oP hm f j v;have A:dot a (mix (dot b0 m') m (-(dot b0 m)) m')=0:=by rw [bo _ _ _ g,ha,o]; simp
 have u:=n _ hy A zO;by_cases hlt:qV l m'<k
 ·exact rM h.lenL s hm.len x zO u (n m' f o hlt)
 ·have I:∀ b∈l,dot b m'=0->dot b m=0:=fun b hb J=>by
   by_cases t:dot b m=0
   ·exact t
   ·have:=JE j hb t J
    omega
  have H:∃ b∈l,dot b m≠0:=by
   obtain ⟨b,hb,hn⟩:=v;exact ⟨b,hb,fun e=>hn (j b hb e)⟩
  obtain ⟨c,C,K,M,w,S,-⟩:=oP f hm I H;have B:dot a (mix (dot c m) m' (-(dot c m')) m)=0:=by rw [bo _ _ _ g.symm,ha,o]; simp
  have D:=n _ w B (by have:=Ee j; omega);have P:=F c C M;by_cases heq:dot b0 m*dot c m'=dot c m*dot b0 m'
  ·exfalso
   refine G (dot b0 m') (dot b0 m) x z (h.lin_of hy fun i hi=>?_);have p:=hy.ge i hi;have q:=w.ge i hi;rw [bo _ _ _ g] at p ⊢;rw [bo _ _ _ g.symm] at q;have e:dot c m*(dot b0 m'*dot i m + -(dot b0 m)*dot i m')+dot b0 m*(dot c m*dot i m' + -(dot c m')*dot i m)=0:=by grind
   have p1:=VW (Xc K) p;have p2:=VW (Xc z) q;have p3:dot c m*(dot b0 m'*dot i m + -(dot b0 m)*dot i m')=0:=zO;rcases VJ.1 p3 with p4 | p4
   ·omega
   ·exact p4
  ·refine .div (dot c m*dot b0 m'-dot b0 m*dot c m') zO hm.len ?_;have e:scl (dot c m*dot b0 m'-dot b0 m*dot c m') m=mix (dot c m) (mix (dot b0 m') m (-(dot b0 m)) m') (dot b0 m) (mix (dot c m) m' (-(dot c m')) m) :=
    aO (by rw [ah hm.len,mix_length (mix_length hm.len f.len) (mix_length f.len hm.len)]) fun i=>by
     rw [aD,al ((mix_length hm.len f.len).trans (mix_length f.len hm.len).symm),al g,al g.symm]; grind
   rw [e];exact u.sum2 h.lenL s D zO zO
def DD.sub_same (h:DD d E (· ∈ l) L R) {i j:Nat} {p q:V} (hi:R[i]? = some p) (hj:R[j]? = some q) (hs:∀ b∈l,dot b p=0->dot b q=0):i=j:=by
 have hp:=Vo hi;have f:=Vo hj;obtain ⟨k,c,s,hc,n⟩:=h.ext p hp q (h.keep q f) hs;refine h.same hi hj fun b hb=>⟨hs b hb,fun o=>?_⟩
 have key:∀ b∈l,k*dot b q=c*dot b p:=fun b hb=>by
  have:=Con.dot_zero (a:=b) h.lenL (fun r h=>h.elim) (fun x hx=>h.lineI x hx b hb) (fun r h=>h.elim) n
  rw [bo _ _ _ ((h.keep q f).len.trans (h.keep p hp).len.symm),Zt] at this;omega
 have m:c≠0:=fun e=>by
  obtain ⟨b',g,hn⟩:=h.off q f
  have:=key b' g
  rw [e] at this;rcases VJ.1 (show k*dot b' q=0 by omega) with h1 | h1
  ·omega
  ·exact hn h1
 have:=key b hb
 rw [o] at this;rcases VJ.1 (show c*dot b p=0 by omega) with h1 | h1
 ·exact absurd h1 m
 ·exact h1
def DD.three (h:DD d E (· ∈ l) L R) {i j:Nat} {p q n:V} (hi:R[i]? = some p) (hj:R[j]? = some q) (hn:n∈R) {u v w:Int} (m:0<u) (a:0<v) (c:0<=w) (hs:∀ b∈l,u*dot b p=v*dot b q+w*dot b n):i=j:=by
 refine h.sub_same hi hj fun b hb f=>?_;have e:=hs b hb;rw [f] at e;have g:=VW (Xc a) ((h.keep q (Vo hj)).ge b hb);have k:=VW c ((h.keep n hn).ge b hb);rcases VJ.1 (show v*dot b q=0 by omega) with h1 | h1
 ·omega
 ·exact h1
def fY {p n:V} (hp:Keep d E (· ∈ l) p) (hn:Keep d E (· ∈ l) n) (h1:0<dot a p) (h2:dot a n<0):Keep d E (· ∈ l) (mx a p n):=hp.add hn zO zO
def xv {p n:V} (hp:p.length=d) (hn:n.length=d) (c:V):dot c (mx a p n) = -(dot a n)*dot c p+dot a p*dot c n:=bo _ _ _ (hp.trans hn.symm)
def pT {p n:V} (hp:p.length=d) (hn:n.length=d):dot a (mx a p n)=0:=by rw [xv hp hn]; grind
def nf {p n:V} (hp:Keep d E (· ∈ l) p) (hn:Keep d E (· ∈ l) n) (h1:0<dot a p) (h2:dot a n<0) {b:V} (hb:b∈l):dot b (mx a p n)=0 ↔ dot b p=0/\dot b n=0:=by
 rw [xv hp.len hn.len];have g:=VW (show 0 <= -(dot a n) by omega) (hp.ge b hb);have i:=VW (Xc h1) (hn.ge b hb);constructor
 ·intro e;constructor
  ·rcases VJ.1 (show -(dot a n)*dot b p=0 by omega) with h | h
   ·omega
   ·exact h
  ·rcases VJ.1 (show dot a p*dot b n=0 by omega) with h | h
   ·omega
   ·exact h
 ·rintro ⟨c,f⟩;rw [c,f]; simp
def Hi (l:List V) (R:List V) (i j:Nat) (p n:V):Prop:=∀ (t:Nat) (q:V),R[t]? = some q->t≠i->t≠j->¬ ∀ b∈l,dot b p=0->dot b n=0->dot b q=0
def Qy (h:DD d E (· ∈ l) L R) (Q:∀ x,L x->dot a x=0) (A:∀ r,Rn r->r.length=d) (f:∀ r∈R,dot a r=0->Rn r)
  (N:∀ i j p n,R[i]? = some p->R[j]? = some n->0<dot a p->dot a n<0->Hi l R i j p n->Con d L Rn (mx a p n))
  (z:∀ y,Keep d E (· ∈ l) y->dot a y=0->qV l y<k->Con d L Rn y) {i j:Nat} {p n:V} (hi:R[i]? = some p) (hj:R[j]? = some n) (h1:0<dot a p) (h2:dot a n<0) (F:qV l (mx a p n)<=k):Con d L Rn (mx a p n):=by
 have hp:=h.keep p (Vo hi);have hn:=h.keep n (Vo hj);by_cases G:Hi l R i j p n
 ·exact N i j p n hi hj h1 h2 G
 ·have ⟨t,q,g,H,I,P⟩:∃ t q,R[t]? = some q/\t≠i/\t≠j/\∀ b∈l,dot b p=0->dot b n=0->dot b q=0:=by
   apply V8
   intro O;exact G fun t q g h1 h2 h3=>O ⟨t,q,g,h1,h2,h3⟩
  have s:=Vo g;have c:=h.keep q s;have D:∀ b∈l,dot b (mx a p n)=0->dot b q=0:=fun b hb f=>by
   obtain ⟨J,K⟩:=(nf hp hn h1 h2 hb).1 f;exact P b hb J K
  rcases Int.lt_trichotomy (dot a q) 0 with hq0 | hq0 | hq0
  ·
   refine Jo (m':=mx a p q) h A z (fY hp hn h1 h2) (fY hp c h1 hq0) (pT hp.len hn.len) (pT hp.len c.len) (fun b hb f=>?_) ?_ F (fun α β m o C=>?_)
   ·exact (nf hp c h1 hq0 hb).2 ⟨((nf hp hn h1 h2 hb).1 f).1,D b hb f⟩
   ·obtain ⟨b,hb,B⟩:=h.off q s;exact ⟨b,hb,fun e=>B ((nf hp c h1 hq0 hb).1 e).2⟩
   ·have key:∀ b∈l,α*(-(dot a n)*dot b p+dot a p*dot b n)=β*(-(dot a q)*dot b p+dot a p*dot b q):=fun b hb=>by
     have:=Con.dot_zero (a:=b) h.lenL (fun r h=>h.elim) (fun x hx=>h.lineI x hx b hb) (fun r h=>h.elim) C
     rw [bo _ _ _ ((fY hp hn h1 h2).len.trans (fY hp c h1 hq0).len.symm),xv hp.len hn.len,xv hp.len c.len] at this
     grind
    by_cases hg:0<=α*(-(dot a n))-β*(-(dot a q))
    ·
     have:=h.three g hj (Vo hi) (u:=β*dot a p) (v:=α*dot a p) (w:=α*(-(dot a n))-β*(-(dot a q))) (WQ o h1) (WQ m h1) hg (fun b hb=>by have:=key b hb; grind)
     exact I this
    ·have:=h.three hj g (Vo hi) (u:=α*dot a p) (v:=β*dot a p) (w:=β*(-(dot a q))-α*(-(dot a n))) (WQ m h1) (WQ o h1) zO (fun b hb=>by have:=key b hb; grind)
     exact I this.symm
  ·
   obtain ⟨b0,S,m,o,hy,T,-⟩:=oP (fY hp hn h1 h2) c D (h.off q s);have M:dot a (mix (dot b0 q) (mx a p n) (-(dot b0 (mx a p n))) q)=0:=by
    rw [bo _ _ _ ((fY hp hn h1 h2).len.trans c.len.symm),pT hp.len hn.len,hq0]; simp
   exact rM h.lenL A (fY hp hn h1 h2).len m zO (z _ hy M zO) (Con.of_ray c.len (f q s hq0))
  ·
   refine Jo (m':=mx a q n) h A z (fY hp hn h1 h2) (fY c hn hq0 h2) (pT hp.len hn.len) (pT c.len hn.len) (fun b hb f=>?_) ?_ F (fun α β m o C=>?_)
   ·exact (nf c hn hq0 h2 hb).2 ⟨D b hb f,((nf hp hn h1 h2 hb).1 f).2⟩
   ·obtain ⟨b,hb,B⟩:=h.off q s;exact ⟨b,hb,fun e=>B ((nf c hn hq0 h2 hb).1 e).1⟩
   ·have key:∀ b∈l,α*(-(dot a n)*dot b p+dot a p*dot b n)=β*(-(dot a n)*dot b q+dot a q*dot b n):=fun b hb=>by
     have:=Con.dot_zero (a:=b) h.lenL (fun r h=>h.elim) (fun x hx=>h.lineI x hx b hb) (fun r h=>h.elim) C
     rw [bo _ _ _ ((fY hp hn h1 h2).len.trans (fY c hn hq0 h2).len.symm),xv hp.len hn.len,xv c.len hn.len] at this
     grind
    by_cases hg:0<=β*dot a q-α*dot a p
    ·have:=h.three hi g (Vo hj) (u:=α*(-(dot a n))) (v:=β*(-(dot a n))) (w:=β*dot a q-α*dot a p) (WQ m zO) (WQ o zO) hg (fun b hb=>by have:=key b hb; grind)
     exact H this.symm
    ·have:=h.three g hi (Vo hj) (u:=β*(-(dot a n))) (v:=α*(-(dot a n))) (w:=α*dot a p-β*dot a q) (WQ o zO) (WQ m zO) zO (fun b hb=>by have:=key b hb; grind)
     exact H this
def GA (h:DD d E (· ∈ l) L R) (o:∀ x,L x->dot a x=0) (z:∀ r,Rn r->r.length=d) (u:∀ r∈R,dot a r=0->Rn r)
  (G:∀ i j p n,R[i]? = some p->R[j]? = some n->0<dot a p->dot a n<0->Hi l R i j p n->Con d L Rn (mx a p n)) :
  ∀ (k:Nat) (x:V),qV l x=k->Keep d E (· ∈ l) x->dot a x=0->Con d L Rn x:=by
 intro k
 induction k using Nat.strongRecOn with
 | _ k K =>
  intro x N hx q;have v:∀ y,Keep d E (· ∈ l) y->dot a y=0->qV l y<k->Con d L Rn y:=fun y hy s hlt=>K _ hlt y rfl hy s;have B:=h.face (S:=fun i=>i∈l/\dot i x=0) (fun i hi=>hi.1) (h.all x hx) (fun i hi=>hi.2);have w:∀ r,(r∈R/\∀ i,(i∈l/\dot i x=0)->dot i r=0)->r.length=d:=fun r hr=>h.lenR r hr.1;by_cases hp:∃ p,p∈R/\(∀ i,(i∈l/\dot i x=0)->dot i p=0)/\0<dot a p
  ·by_cases hn:∃ n,n∈R/\(∀ i,(i∈l/\dot i x=0)->dot i n=0)/\dot a n<0
   ·obtain ⟨p,t,I,g⟩:=hp;obtain ⟨n,C,H,c⟩:=hn;obtain ⟨i,hi⟩:=VX t;obtain ⟨j,hj⟩:=VX C;have m:=h.keep p t;have f:=h.keep n C;have D:∀ b∈l,dot b x=0->dot b (mx a p n)=0:=fun b hb A=>(nf m f g c hb).2 ⟨I b ⟨hb,A⟩,H b ⟨hb,A⟩⟩;have hm:=Qy h o z u G v hi hj g c (by have:=Ee D; omega);obtain ⟨b0,M,J,P,hy,O,-⟩:=oP hx (fY m f g c) D (by
     obtain ⟨b,hb,F⟩:=h.off p t;exact ⟨b,hb,fun e=>F ((nf m f g c hb).1 e).1⟩)
    have s:dot a (mix (dot b0 (mx a p n)) x (-(dot b0 x)) (mx a p n))=0:=by
     rw [bo _ _ _ (hx.len.trans (fY m f g c).len.symm),q,pT m.len f.len]; simp
    exact rM h.lenL z hx.len J zO (v _ hy s zO) hm
   ·have:=Con.face1 (a:=a) h.lenL w (fun x hx=>o x hx) (fun r hr=>Int.not_lt.1 fun hlt=>hn ⟨r,hr.1,hr.2,hlt⟩) B q
    exact this.mono (fun _ h=>h) fun r hr=>u r hr.1.1 hr.2
  ·have:=Con.face1 (a:=scl (-1) a) h.lenL w (fun x hx=>by rw [gf,o x hx]; simp) (fun r hr=>by
    rw [gf]
    have:¬ 0<dot a r:=fun hlt=>hp ⟨r,hr.1,hr.2,hlt⟩
    omega) B (by rw [gf,q]; simp)
   refine this.mono (fun _ h=>h) fun r hr=>u r hr.1.1 ?_
   have:=hr.2
   rw [gf] at this;omega
def QU (h:DD d E (· ∈ l) L R) (q:∀ x,L x->dot a x=0) (m:∀ r,Rn r->r.length=d) (w:∀ r∈R,0<=dot a r->Rn r)
  (G:∀ i j p n,R[i]? = some p->R[j]? = some n->0<dot a p->dot a n<0->Hi l R i j p n->Con d L Rn (mx a p n)) :
  ∀ (k:Nat) (x:V),qV l x=k->Keep d E (· ∈ l) x->0<=dot a x->Con d L Rn x:=by
 have y:=GA h q m (fun r hr e=>w r hr zO) G;intro k
 induction k using Nat.strongRecOn with
 | _ k J =>
  intro x P hx C;by_cases D:dot a x=0
  ·exact y _ x rfl hx D
  ·have F:=h.face (S:=fun i=>i∈l/\dot i x=0) (fun i hi=>hi.1) (h.all x hx) (fun i hi=>hi.2);have B:∀ r,(r∈R/\∀ i,(i∈l/\dot i x=0)->dot i r=0)->r.length=d:=fun r hr=>h.lenR r hr.1;obtain ⟨p,o,H,v⟩:∃ p,p∈R/\(∀ i,(i∈l/\dot i x=0)->dot i p=0)/\0<dot a p:=by
    by_cases hp:∃ p,p∈R/\(∀ i,(i∈l/\dot i x=0)->dot i p=0)/\0<dot a p
    ·exact hp
    ·exfalso
     have:=Con.dot_nonneg (a:=scl (-1) a) h.lenL B (fun x hx=>by rw [gf,q x hx]; simp) (fun r hr=>by
      rw [gf]
      have:¬ 0<dot a r:=fun hlt=>hp ⟨r,hr.1,hr.2,hlt⟩
      omega) F
     rw [gf] at this;omega
   have f:=h.keep p o;obtain ⟨b0,O,z,T,hy,Q,-⟩:=oP hx f (fun b hb e=>H b ⟨hb,e⟩) (h.off p o);have u:=hx.len.trans f.len.symm;have t:Con d L Rn p:=Con.of_ray f.len (w p o zO);by_cases s:0<=dot a (mix (dot b0 p) x (-(dot b0 x)) p)
   ·exact rM h.lenL m hx.len z zO (J _ zO _ rfl hy s) t
   ·
    have hd:∀ c,dot c (mix (dot a p) x (-(dot a x)) p)=dot a p*dot c x-dot a x*dot c p:=fun c=>by rw [bo _ _ _ u]; grind
    have I:Keep d E (· ∈ l) (mix (dot a p) x (-(dot a x)) p):=by
     refine ⟨mix_length hx.len f.len,fun e he=>by rw [hd,hx.eq e he,f.eq e he]; simp,fun j hj=>?_⟩;rw [hd];have g:=hy.ge j hj;rw [bo _ _ _ u] at g s;have N:=hx.ge j hj;have A:=f.ge j hj;have K:dot b0 p*(dot a p*dot j x-dot a x*dot j p)=dot a p*(dot b0 p*dot j x + -(dot b0 x)*dot j p)+dot j p * -(dot b0 p*dot a x + -(dot b0 x)*dot a p):=by grind
     have M:=VW (Xc v) g;have e3:=VW A (show 0 <= -(dot b0 p*dot a x + -(dot b0 x)*dot a p) by omega);refine Xe (a:=dot b0 p) ?_ z;omega
    exact rM h.lenL m hx.len v C (y _ _ rfl I (by rw [hd]; grind)) t
end
def content (x:V):Nat:=x.foldl (fun g a=>Nat.gcd g a.natAbs) 0
def prime (x:V):V:=if content x=0 then x else x.map (fun a=>a / (content x:Int))
def Bk:∀ (x:V) (g:Nat),(x.foldl (fun g a=>Nat.gcd g a.natAbs) g) ∣ g/\∀ a∈x,((x.foldl (fun g a=>Nat.gcd g a.natAbs) g:Nat):Int) ∣ a
 | [],g=>⟨Nat.dvd_refl _,fun a h=>by cases h⟩
 | b :: x,g=>by
  obtain ⟨h1,h2⟩:=Bk x (Nat.gcd g b.natAbs);simp only [WT];refine ⟨Nat.dvd_trans h1 (Nat.gcd_dvd_left _ _),fun a ha=>?_⟩;rcases VF.1 ha with rfl | ha
  ·exact Yv.2 (Nat.dvd_trans h1 (Nat.gcd_dvd_right _ _))
  ·exact h2 a ha
def content_dvd {x:V} {a:Int} (h:a∈x):(content x:Int) ∣ a:=(Bk x 0).2 a h
def prime_length (x:V):(prime x).length=x.length:=by unfold prime; split <;> simp
def vu (x:V):scl 1 x=x:=by
 unfold scl
 conv=>rhs; rw [<- YY x]
 exact W2 fun a _=>by simp
def kO (x:V):∃ c:Int,0<c/\scl c (prime x)=x:=by
 by_cases h:content x=0
 ·exact ⟨1,zO,by unfold prime; rw [if_pos h,vu]⟩
 ·refine ⟨(content x:Int),zO,?_⟩;unfold prime scl;rw [if_neg h,Xo]
  conv=>rhs; rw [<- YY x]
  refine W2 fun a ha=>?_;exact ZX (content_dvd ha)
section
variable {d:Nat} {E L L' Rn:V->Prop} {R:List V} {l:List V} {a:V}
def Keep.of_scl {I:V->Prop} {c:Int} (hc:0<c) {x:V} (hx:x.length=d) (h:Keep d E I (scl c x)):Keep d E I x:=by
 refine ⟨hx,fun e he=>?_,fun i hi=>?_⟩
 ·have:=h.eq e he
  rw [dot_scl] at this;rcases VJ.1 this with h1 | h1
  ·omega
  ·exact h1
 ·have:=h.ge i hi
  rw [dot_scl] at this;exact Xe this hc
def ml {c:Int} (hc:0<c) {b x:V}:dot b (scl c x)=0 ↔ dot b x=0:=by
 rw [dot_scl];constructor
 ·intro h;rcases VJ.1 h with h1 | h1
  ·omega
  ·exact h1
 ·intro h; rw [h]; simp
def Con.image {g:V->Prop} (h:∀ x,L x->x.length=d) (j:∀ x,g x->x.length=d) (l:∀ x,L' x->x.length=d) (m:∀ x,Rn x->x.length=d) (f:V->V) (o:f (mp d)=mp d)
  (n:∀ x y c,x.length=d->y.length=d->f (mix 1 x c y)=mix 1 (f x) c (f y)) (p:∀ x c,x.length=d->f (scl c x)=scl c (f x)) (a:∀ x,x.length=d->(f x).length=d)
  (h1:∀ x,L x->∀ c:Int,Con d L' Rn (scl c (f x))) (h2:∀ x,g x->Con d L' Rn (f x)) {x:V} (hx:Con d L g x):Con d L' Rn (f x):=by
 induction hx with
 | zero=>rw [o]; exact .zero
 | @line x y c hx hy b =>
  have l1:=hx.length h j;have l2:=h _ hy;rw [n x y c l1 l2];have e:mix 1 (f x) c (f y)=mix 1 (f x) 1 (scl c (f y)):=aO (by rw [mix_length (a x l1) (a y l2),mix_length (a x l1) (ah (a y l2))]) fun i=>by
   rw [al ((a x l1).trans (a y l2).symm),al ((a x l1).trans (ah (a y l2)).symm),aD]; grind
  rw [e];exact (h1 y hy c).add l m _ b
 | @ray x y c hc hx hy b =>
  rw [n x y c (hx.length h j) (j _ hy)];exact b.sum2 l m (h2 y hy) zO hc
 | @div x k q hl hx b =>
  rw [p x k hl] at b;exact .div k q (a x hl) b
def mv (a u:V) (x:V):V:=mix (dot a u) x (-(dot a x)) u
def bE {u x:V} (b:u.length=d) (hx:x.length=d):(mv a u x).length=d:=mix_length hx b
def xw {u x:V} (c:u.length=d) (hx:x.length=d) (b:V):dot b (mv a u x)=dot a u*dot b x-dot a x*dot b u:=by
 unfold mv; rw [bo _ _ _ (hx.trans c.symm)]; grind
def Ik {u:V} (b:u.length=d):mv a u (mp d)=mp d:=aO (by rw [bE b (cz d),cz]) fun i=>by
 unfold mv; rw [al ((cz d).trans b.symm),iU,nN]; simp
def Il {u x y:V} {c:Int} (b:u.length=d) (hx:x.length=d) (hy:y.length=d):mv a u (mix 1 x c y)=mix 1 (mv a u x) c (mv a u y) :=
 aO (by rw [bE b (mix_length hx hy),mix_length (bE b hx) (bE b hy)]) fun i=>by
  rw [al ((bE b hx).trans (bE b hy).symm)];unfold mv;rw [al ((mix_length hx hy).trans b.symm),al (hx.trans hy.symm),al (hx.trans b.symm),al (hy.trans b.symm),bo _ _ _ (hx.trans hy.symm)]; grind
def Eh {u x:V} {c:Int} (b:u.length=d) (hx:x.length=d):mv a u (scl c x)=scl c (mv a u x) :=
 aO (by rw [bE b (ah hx),ah (bE b hx)]) fun i=>by
  rw [aD];unfold mv;rw [al ((ah hx).trans b.symm),aD,al (hx.trans b.symm),dot_scl]; grind
def JG {u:V} (b:u.length=d):mv a u u=mp d:=aO (by rw [bE b b,cz]) fun i=>by
 unfold mv; rw [al rfl,iU]; grind
def xx {u x:V} (b:u.length=d) (hx:x.length=d) (h:dot a x=0):mv a u x=scl (dot a u) x:=aO (by rw [bE b hx,ah hx]) fun i=>by
 unfold mv; rw [al (hx.trans b.symm),aD,h]; simp
def foldV (a u:V) (x:V):V:=prime (mv a u x)
def fZ {u x:V} (b:u.length=d) (hx:x.length=d):(foldV a u x).length=d:=by unfold foldV; rw [prime_length]; exact bE b hx
def mC (u x:V):∃ c:Int,0<c/\scl c (foldV a u x)=mv a u x:=kO _
def QQ {L0:V->Prop} {Ls:List V} {u:V} (h:DD d E (· ∈ l) L0 R) (ha:a.length=d) (S:∀ x,L0 x->x∈Ls\/∃ s:Int,x=scl s u) (D:∀ x∈Ls,L0 x) (f:u.length=d) (G:∀ e,E e->dot e u=0) (n:∀ i∈l,dot i u=0) (v:0<dot a u) (eq:Bool) :
  DD d (fun e=>E e\/(eq=true/\e=a)) (· ∈ l++(if eq then [] else [a])) (· ∈ Ls.map (foldV a u)) (R.map (foldV a u)++(if eq then [] else [u])):=by
 have w:∀ x∈Ls,x.length=d:=fun x hx=>h.lenL x (D x hx);have j:∀ i,i∈l++(if eq then [] else [a]) ↔ i∈l\/(eq=false/\i=a):=fun i=>by cases eq <;> simp
 have m:∀ x,x.length=d->∀ b,(dot b u=0\/b=a)->(dot b (foldV a u x)=0 ↔ b=a\/dot b x=0):=fun x hx b hb=>by
  obtain ⟨c,hc,e⟩:=mC (a:=a) u x;rw [<- ml hc,e,xw f hx];rcases hb with hb | rfl
  ·rw [hb];constructor
   ·intro h;rcases VJ.1 (show dot a u*dot b x=0 by omega) with h1 | h1
    ·omega
    ·exact .inr h1
   ·rintro (rfl | h)
    ·omega
    ·rw [h]; simp
  ·constructor
   ·intro _; exact .inl rfl
   ·intro _; grind
 have U:∀ x,x.length=d->∀ b,dot b u=0->0<=dot b x->0<=dot b (foldV a u x):=fun x hx b hb h0=>by
  obtain ⟨c,hc,e⟩:=mC (a:=a) u x
  have:0<=dot b (scl c (foldV a u x)):=by
   rw [e,xw f hx,hb]
   have:=VW (Xc v) h0
   omega
  rw [dot_scl] at this;exact Xe this hc
 have B:∀ x,x∈Ls.map (foldV a u)->x.length=d:=fun x hx=>by
  obtain ⟨y,hy,rfl⟩:=Va.1 hx;exact fZ f (w y hy)
 have H:∀ x,x∈R.map (foldV a u)++(if eq then [] else [u])->x.length=d:=fun x hx=>by
  rcases Vq.1 hx with hx | hx
  ·obtain ⟨y,hy,rfl⟩:=Va.1 hx;exact fZ f (h.lenR y hy)
  ·cases eq
   ·simp at hx; rw [hx]; exact f
   ·simp at hx
 have O:∀ (Q:V->Prop) x,L0 x->∀ c:Int,Con d (· ∈ Ls.map (foldV a u)) Q (scl c (mv a u x)):=fun Q x hx c=>by
  rcases S x hx with hx | ⟨s,rfl⟩
  ·obtain ⟨c',L,e⟩:=mC (a:=a) u x;rw [<- e];have C:scl c (scl c' (foldV a u x))=scl (c*c') (foldV a u x):=aO (by simp [scl]) fun i=>by rw [aD,aD,aD]; grind
   rw [C];exact Con.of_line (fZ f (w x hx)) (W3 hx) _
  ·have e:scl c (mv a u (scl s u))=mp d:=by
    rw [Eh f f,JG f];exact aO (by simp [scl,mp]) fun i=>by rw [aD,aD,iU]; simp
   rw [e]; exact .zero
 have I:∀ {x},Spn d L0 x->Spn d (· ∈ Ls.map (foldV a u)) (mv a u x):=fun hx =>
  Con.image h.lenL (fun r h=>h.elim) B (fun r h=>h.elim) (mv a u) (Ik f) (fun x y c hx hy=>Il f hx hy) (fun x c hx=>Eh f hx) (fun x hx=>bE f hx) (O _) (fun r h=>h.elim) hx
 have P:∀ {x},Con d L0 (· ∈ R) x->Con d (· ∈ Ls.map (foldV a u)) (· ∈ R.map (foldV a u)++(if eq then [] else [u])) (mv a u x):=fun hx =>
  Con.image h.lenL h.lenR B H (mv a u) (Ik f) (fun x y c hx hy=>Il f hx hy) (fun x c hx=>Eh f hx) (fun x hx=>bE f hx) (O _) (fun r hr=>by
   obtain ⟨c',L,e⟩:=mC (a:=a) u r;rw [<- e];exact (Con.of_ray (fZ f (h.lenR r hr)) (Wg _ (W3 hr))).smul B H c' zO) hx
 have old:∀ {x},Keep d (fun e=>E e\/(eq=true/\e=a)) (· ∈ l++(if eq then [] else [a])) x->Keep d E (· ∈ l) x:=fun hx=>⟨hx.len,fun e he=>hx.eq e (.inl he),fun i hi=>hx.ge i ((j i).2 (.inl hi))⟩
 refine ⟨B,?_,?_,?_,?_,?_,?_,?_,?_⟩
 ·
  intro x hx e he;obtain ⟨y,hy,rfl⟩:=Va.1 hx;rcases he with he | ⟨-,rfl⟩
  ·exact (m y (w y hy) e (.inl (G e he))).2 (.inr (h.lineE y (D y hy) e he))
  ·exact (m y (w y hy) e (.inr rfl)).2 (.inl rfl)
 ·
  intro x hx i hi;obtain ⟨y,hy,rfl⟩:=Va.1 hx;rcases (j i).1 hi with hi | ⟨-,rfl⟩
  ·exact (m y (w y hy) i (.inl (n i hi))).2 (.inr (h.lineI y (D y hy) i hi))
  ·exact (m y (w y hy) i (.inr rfl)).2 (.inl rfl)
 ·
  intro x hx J K;have A:dot a x=0:=by
   cases eq
   ·exact K a ((j a).2 (.inr ⟨rfl,rfl⟩))
   ·exact J a (.inr ⟨rfl,rfl⟩)
  have:=I (h.lines x hx (fun e he=>J e (.inl he)) (fun i hi=>K i ((j i).2 (.inl hi))))
  rw [xx f hx A] at this;exact .div _ v hx this
 ·
  intro r hr;rcases Vq.1 hr with hr | hr
  ·obtain ⟨y,hy,rfl⟩:=Va.1 hr;have t:=h.keep y hy;refine ⟨fZ f t.len,fun e he=>?_,fun i hi=>?_⟩
   ·rcases he with he | ⟨-,rfl⟩
    ·exact (m y t.len e (.inl (G e he))).2 (.inr (t.eq e he))
    ·exact (m y t.len e (.inr rfl)).2 (.inl rfl)
   ·rcases (j i).1 hi with hi | ⟨-,rfl⟩
    ·exact U y t.len i (n i hi) (t.ge i hi)
    ·have:=(m y t.len i (.inr rfl)).2 (.inl rfl); omega
  ·cases eq
   ·simp at hr;subst hr;refine ⟨f,fun e he=>?_,fun i hi=>?_⟩
    ·rcases he with he | ⟨h,_⟩
     ·exact G e he
     ·cases h
    ·rcases (j i).1 hi with hi | ⟨-,rfl⟩
     ·have:=n i hi; omega
     ·omega
   ·simp at hr
 ·
  intro x hx;have hc:=P (h.all x (old hx));cases p:eq with
  | true =>
   have A:dot a x=0:=hx.eq a (.inr ⟨p,rfl⟩);rw [xx f hx.len A] at hc;rw [p] at hc;exact .div _ v hx.len hc
  | false =>
   have A:0<=dot a x:=hx.ge a ((j a).2 (.inr ⟨p,rfl⟩));rw [p] at hc H;refine .div (dot a u) v hx.len ?_;have e:scl (dot a u) x=mix 1 (mv a u x) (dot a x) u:=aO (by rw [ah hx.len,mix_length (bE f hx.len) f]) fun i=>by
    rw [aD,al ((bE f hx.len).trans f.symm)];unfold mv;rw [al (hx.len.trans f.symm)]; grind
   rw [e];exact .ray _ A hc (by simp)
 ·
  intro r hr;rcases Vq.1 hr with hr | hr
  ·obtain ⟨y,hy,rfl⟩:=Va.1 hr;obtain ⟨b,hb,hn⟩:=h.off y hy;obtain ⟨c,hc,e⟩:=mC (a:=a) u y;refine ⟨b,(j b).2 (.inl hb),fun h0=>?_⟩;rw [<- ml hc,e,xw f (h.lenR y hy),n b hb] at h0;rcases VJ.1 (show dot a u*dot b y=0 by omega) with h1 | h1
   ·omega
   ·exact hn h1
  ·cases eq
   ·simp at hr;subst hr;exact ⟨a,(j a).2 (.inr ⟨rfl,rfl⟩),zO⟩
   ·simp at hr
 ·
  intro r hr y hy hs;have q:=old hy;rcases Vq.1 hr with hr | hr
  ·obtain ⟨z,N,rfl⟩:=Va.1 hr;have o:=h.lenR z N;have F:dot a y=0:=by
    cases eq
    ·exact hs a ((j a).2 (.inr ⟨rfl,rfl⟩)) ((m z o a (.inr rfl)).2 (.inl rfl))
    ·exact hy.eq a (.inr ⟨rfl,rfl⟩)
   obtain ⟨k,c,T,hc,W⟩:=h.ext z N y q (fun i hi h0=>hs i ((j i).2 (.inl hi)) ((m z o i (.inl (n i hi))).2 (.inr h0)));obtain ⟨c',L,e⟩:=mC (a:=a) u z;refine ⟨k*dot a u,c*c',WQ T v,VW hc zO,?_⟩
   have:=I W
   have C:mv a u (mix k y (-c) z)=mix (k*dot a u) y (-(c*c')) (foldV a u z):=aO (by rw [bE f (mix_length q.len o),mix_length q.len (fZ f o)]) fun i=>by
    have e3:at_ (mv a u z) i=c'*at_ (foldV a u z) i:=by rw [<- e,aD]
    rw [al (q.len.trans (fZ f o).symm)];unfold mv at e3 ⊢;rw [al ((mix_length q.len o).trans f.symm),al (q.len.trans o.symm),bo _ _ _ (q.len.trans o.symm),F];rw [al (o.trans f.symm)] at e3
    grind
   rw [C] at this;exact this
  ·cases p:eq with
   | true=>rw [p] at hr; simp at hr
   | false =>
    rw [p] at hr;simp at hr;subst hr;have F:0<=dot a y:=hy.ge a ((j a).2 (.inr ⟨p,rfl⟩));refine ⟨dot a r,dot a y,v,F,?_⟩
    have:=I (h.lin_of q fun i hi=>hs i ((j i).2 (.inl hi)) (n i hi))
    exact this
 ·
  refine XC.2 ⟨?_,by cases eq <;> simp,fun r hr s hs=>?_⟩
  ·refine Wz.2 (h.apart.imp_of_mem fun {r s} hr hs hne h2=>hne fun i hi=>?_);have g:=h2 i ((j i).2 (.inl hi));rw [m r (h.lenR r hr) i (.inl (n i hi)),m s (h.lenR s hs) i (.inl (n i hi))] at g;by_cases M:i=a
   ·subst M; have:=n i hi; omega
   ·simpa [M] using g
  ·cases eq
   ·simp at hs;subst hs;obtain ⟨y,hy,rfl⟩:=Va.1 hr;intro h2
    have:=(h2 a ((j a).2 (.inr ⟨rfl,rfl⟩))).1 ((m y (h.lenR y hy) a (.inr rfl)).2 (.inl rfl))
    omega
   ·simp at hs
def Ns (q:∀ x,L x->x.length=d) {p n:V} (hp:p.length=d) (hn:n.length=d) {y:V} (hy:Con d L (fun r=>r=p\/r=n) y) :
  ∃ k α β:Int,0<k/\0<=α/\0<=β/\Spn d L (mix k y (-1) (mix α p β n)):=by
 have s:∀ r,(r=p\/r=n)->r.length=d:=fun r hr=>by rcases hr with rfl | rfl <;> first | exact hp | exact hn
 induction hy with
 | zero =>
  refine ⟨1,0,0,zO,zO,zO,?_⟩;have e:mix 1 (mp d) (-1) (mix 0 p 0 n)=mp d:=aO (by rw [mix_length (cz d) (mix_length hp hn),cz]) fun i=>by
   rw [al ((cz d).trans (mix_length hp hn).symm),al (hp.trans hn.symm),iU]; grind
  rw [e]; exact .zero
 | @line x z c hx o m =>
  obtain ⟨k,α,β,b,g,l,h⟩:=m;have a:=hx.length q s;have f:=q _ o;refine ⟨k,α,β,b,g,l,?_⟩;have e:mix k (mix 1 x c z) (-1) (mix α p β n)=mix 1 (mix k x (-1) (mix α p β n)) (k*c) z:=aO (by rw [mix_length (mix_length a f) (mix_length hp hn),mix_length (mix_length a (mix_length hp hn)) f]) fun i=>by
   rw [al ((mix_length a f).trans (mix_length hp hn).symm),al (a.trans f.symm),al ((mix_length a (mix_length hp hn)).trans f.symm),al (a.trans (mix_length hp hn).symm)]; grind
  rw [e]; exact .line _ h o
 | @ray x z c hc hx o m =>
  obtain ⟨k,α,β,b,g,l,h⟩:=m;have a:=hx.length q s;rcases o with rfl | rfl
  ·refine ⟨k,α+k*c,β,b,by have:=VW (Xc b) hc; omega,l,?_⟩;have e:mix k (mix 1 x c z) (-1) (mix (α+k*c) z β n)=mix k x (-1) (mix α z β n):=aO (by rw [mix_length (mix_length a hp) (mix_length hp hn),mix_length a (mix_length hp hn)]) fun i=>by
    rw [al ((mix_length a hp).trans (mix_length hp hn).symm),al (a.trans hp.symm),al (hp.trans hn.symm),al (a.trans (mix_length hp hn).symm),al (hp.trans hn.symm)]; grind
   rw [e]; exact h
  ·refine ⟨k,α,β+k*c,b,g,by have:=VW (Xc b) hc; omega,?_⟩;have e:mix k (mix 1 x c z) (-1) (mix α p (β+k*c) z)=mix k x (-1) (mix α p β z):=aO (by rw [mix_length (mix_length a hn) (mix_length hp hn),mix_length a (mix_length hp hn)]) fun i=>by
    rw [al ((mix_length a hn).trans (mix_length hp hn).symm),al (a.trans hn.symm),al (hp.trans hn.symm),al (a.trans (mix_length hp hn).symm),al (hp.trans hn.symm)]; grind
   rw [e]; exact h
 | @div x j hj hl hx m =>
  obtain ⟨k,α,β,b,g,l,h⟩:=m;refine ⟨k*j,α,β,WQ b hj,g,l,?_⟩;have e:mix k (scl j x) (-1) (mix α p β n)=mix (k*j) x (-1) (mix α p β n):=aO (by rw [mix_length (ah hl) (mix_length hp hn),mix_length hl (mix_length hp hn)]) fun i=>by
   rw [al ((ah hl).trans (mix_length hp hn).symm),aD,al (hl.trans (mix_length hp hn).symm)]; grind
  rw [e] at h; exact h
def idxs (R:List V) (f:V->Bool):List Nat:=(List.range R.length).filter fun i=>f (R.getD i [])
def nearB (l R:List V) (i k:Nat):Bool:=(List.range R.length).all fun t=>t == i || t == k || !(l.all fun b=>!(dot b (R.getD i []) == 0 && dot b (R.getD k []) == 0) || dot b (R.getD t []) == 0)
def cutL (l:List V) (a:V) (eq:Bool) (R:List V):List V :=
 (idxs R fun r=>dot a r == 0).map (R.getD · []) ++
 (idxs R fun r=>decide (0<dot a r)).flatMap fun i=>(if eq then [] else [R.getD i []]) ++
  ((idxs R fun r=>decide (dot a r<0)).filter (nearB l R i)).map fun k=>prime (mx a (R.getD i []) (R.getD k []))
def mem_idxs {f:V->Bool} {i:Nat}:i∈idxs R f ↔ ∃ r,R[i]? = some r/\f r=true:=by
 unfold idxs;rw [Vv,Wo];constructor
 ·rintro ⟨h1,h2⟩;exact ⟨R[i],U7 h1,by simpa [h1] using h2⟩
 ·rintro ⟨r,h1,h2⟩;obtain ⟨h3,rfl⟩:=Vl.1 h1;exact ⟨h3,by simpa [h3] using h2⟩
def getD_of {i:Nat} {r:V} (h:R[i]? = some r):R.getD i []=r:=by simp [U5,h]
def oZ {i k:Nat} {p n:V} (hi:R[i]? = some p) (g:R[k]? = some n):nearB l R i k=true ↔ Hi l R i k p n:=by
 unfold nearB Hi;rw [getD_of hi,getD_of g,VA];constructor
 ·intro h t q a c d f
  have:=h t (Wo.2 (Vl.1 a).1)
  rw [getD_of a] at this;simp only [WU,beq_iff_eq,c,d,false_or,Wk,List.all_eq_false] at this;obtain ⟨b,hb,hn⟩:=this
  apply hn
  simp only [WU,Wk,ZP,beq_eq_false_iff_ne,beq_iff_eq];by_cases h1:dot b p=0
  ·by_cases h2:dot b n=0
   ·exact .inr (f b hb h1 h2)
   ·exact .inl (.inr h2)
  ·exact .inl (.inl h1)
 ·intro h t a;have a:=Wo.1 a;have e:R[t]? = some R[t]:=U7 a;rw [getD_of e];by_cases c:t=i
  ·simp [c]
  ·by_cases d:t=k
   ·simp [d]
   ·have:=h t _ e c d
    simp only [WU,beq_iff_eq,c,d,false_or,Wk,List.all_eq_false];simp only [YZ,Classical.not_imp] at this;obtain ⟨b,hb,h1,h2,h3⟩:=this;exact ⟨b,hb,by simp [h1,h2,h3]⟩
def mem_cutL {eq:Bool} {b:V}:b∈cutL l a eq R ↔ (∃ (i:Nat) (r:V),R[i]? = some r/\dot a r=0/\b=r)\/(∃ (i:Nat) (r:V),R[i]? = some r/\0<dot a r/\((eq=false/\b=r)\/∃ (k:Nat) (n:V),R[k]? = some n/\dot a n<0/\Hi l R i k r n/\b=prime (mx a r n))):=by
 unfold cutL;rw [Vq,Va,List.mem_flatMap];constructor
 ·rintro (⟨i,hi,rfl⟩ | ⟨i,hi,h⟩)
  ·obtain ⟨r,h1,h2⟩:=mem_idxs.1 hi;exact .inl ⟨i,r,h1,by simpa using h2,getD_of h1⟩
  ·obtain ⟨r,h1,h2⟩:=mem_idxs.1 hi;refine .inr ⟨i,r,h1,by simpa using h2,?_⟩;rw [getD_of h1] at h;rcases Vq.1 h with h | h
   ·cases eq
    ·exact .inl ⟨rfl,by simpa using h⟩
    ·simp at h
   ·obtain ⟨k,d,rfl⟩:=Va.1 h;obtain ⟨e,f⟩:=Vv.1 d;obtain ⟨n,h3,c⟩:=mem_idxs.1 e;exact .inr ⟨k,n,h3,by simpa using c,(oZ h1 h3).1 f,by rw [getD_of h3]⟩
 ·rintro (⟨i,r,h1,h2,rfl⟩ | ⟨i,r,h1,h2,h⟩)
  ·exact .inl ⟨i,mem_idxs.2 ⟨b,h1,by simp [h2]⟩,getD_of h1⟩
  ·refine .inr ⟨i,mem_idxs.2 ⟨r,h1,by simp [h2]⟩,?_⟩;rw [getD_of h1];rcases h with ⟨rfl,rfl⟩ | ⟨k,n,h3,c,h5,rfl⟩
   ·simp
   ·exact Wp _ (Va.2 ⟨k,Vv.2 ⟨mem_idxs.2 ⟨n,h3,by simp [c]⟩,(oZ h1 h3).2 h5⟩,by rw [getD_of h3]⟩)
def Ez (f:V->Bool):(idxs R f).Pairwise (· < ·):=Yl _ YC
def SS (h:DD d E (· ∈ l) L R) (O:∀ x,L x->dot a x=0) (eq:Bool) :
  DD d (fun e=>E e\/(eq=true/\e=a)) (· ∈ l++(if eq then [] else [a])) L (cutL l a eq R):=by
 have o:∀ i,i∈l++(if eq then [] else [a]) ↔ i∈l\/(eq=false/\i=a):=fun i=>by cases eq <;> simp
 have old:∀ {x},Keep d (fun e=>E e\/(eq=true/\e=a)) (· ∈ l++(if eq then [] else [a])) x->Keep d E (· ∈ l) x:=fun hx=>⟨hx.len,fun e he=>hx.eq e (.inl he),fun i hi=>hx.ge i ((o i).2 (.inl hi))⟩
 have f:∀ {i r},R[i]? = some r->Keep d E (· ∈ l) r:=fun h1=>h.keep _ (Vo h1);have u:∀ {p n},Keep d E (· ∈ l) p->Keep d E (· ∈ l) n->0<dot a p->dot a n<0->Keep d E (· ∈ l) (prime (mx a p n))/\dot a (prime (mx a p n))=0/\∀ b∈l,(dot b (prime (mx a p n))=0 ↔ dot b p=0/\dot b n=0):=fun {p n} hp hn h1 h2=>by
  obtain ⟨c,hc,e⟩:=kO (mx a p n);have hm:=fY hp hn h1 h2;refine ⟨Keep.of_scl hc (by rw [prime_length]; exact hm.len) (by rw [e]; exact hm),(ml hc).1 (by rw [e]; exact pT hp.len hn.len),fun b hb=>?_⟩;rw [<- ml hc,e]; exact nf hp hn h1 h2 hb
 have N:∀ r,r∈cutL l a eq R->r.length=d:=fun r hr=>by
  rcases mem_cutL.1 hr with ⟨i,r,h1,h2,rfl⟩ | ⟨i,r,h1,h2,⟨h3,rfl⟩ | ⟨k,n,h3,m,h5,rfl⟩⟩
  ·exact (f h1).len
  ·exact (f h1).len
  ·exact (u (f h1) (f h3) h2 m).1.len
 have U:∀ i j p n,R[i]? = some p->R[j]? = some n->0<dot a p->dot a n<0->Hi l R i j p n->Con d L (· ∈ cutL l a eq R) (mx a p n):=fun i j p n h1 h2 h3 m h5=>by
  obtain ⟨c,hc,e⟩:=kO (mx a p n);rw [<- e];have hm:prime (mx a p n)∈cutL l a eq R:=mem_cutL.2 (.inr ⟨i,p,h1,h3,.inr ⟨j,n,h2,m,h5,rfl⟩⟩);exact (Con.of_ray (N _ hm) hm).smul h.lenL N c zO
 refine ⟨h.lenL,?_,?_,?_,?_,?_,?_,?_,?_⟩
 ·intro x hx e he;rcases he with he | ⟨-,rfl⟩
  ·exact h.lineE x hx e he
  ·exact O x hx
 ·intro x hx i hi;rcases (o i).1 hi with hi | ⟨-,rfl⟩
  ·exact h.lineI x hx i hi
  ·exact O x hx
 ·intro x hx hE hI;exact h.lines x hx (fun e he=>hE e (.inl he)) (fun i hi=>hI i ((o i).2 (.inl hi)))
 ·
  intro r hr;rcases mem_cutL.1 hr with ⟨i,r,h1,h2,rfl⟩ | ⟨i,r,h1,h2,⟨h3,rfl⟩ | ⟨k,n,h3,m,h5,rfl⟩⟩
  ·refine ⟨(f h1).len,fun e he=>?_,fun i hi=>?_⟩
   ·rcases he with he | ⟨-,rfl⟩
    ·exact (f h1).eq e he
    ·exact h2
   ·rcases (o i).1 hi with hi | ⟨-,rfl⟩
    ·exact (f h1).ge i hi
    ·omega
  ·refine ⟨(f h1).len,fun e he=>?_,fun i hi=>?_⟩
   ·rcases he with he | ⟨h,rfl⟩
    ·exact (f h1).eq e he
    ·rw [h3] at h; cases h
   ·rcases (o i).1 hi with hi | ⟨-,rfl⟩
    ·exact (f h1).ge i hi
    ·omega
  ·obtain ⟨J,X,Z⟩:=u (f h1) (f h3) h2 m;refine ⟨J.len,fun e he=>?_,fun i hi=>?_⟩
   ·rcases he with he | ⟨-,rfl⟩
    ·exact J.eq e he
    ·exact X
   ·rcases (o i).1 hi with hi | ⟨-,rfl⟩
    ·exact J.ge i hi
    ·omega
 ·
  intro x hx;cases W:eq with
  | true =>
   rw [W] at U N;exact GA h O N (fun r hr e=>by
    obtain ⟨i,hi⟩:=VX hr;exact mem_cutL.2 (.inl ⟨i,r,hi,e,rfl⟩)) U _ x rfl (old hx) (hx.eq a (.inr ⟨W,rfl⟩))
  | false =>
   rw [W] at U N;exact QU h O N (fun r hr e=>by
    obtain ⟨i,hi⟩:=VX hr;by_cases h0:dot a r=0
    ·exact mem_cutL.2 (.inl ⟨i,r,hi,h0,rfl⟩)
    ·exact mem_cutL.2 (.inr ⟨i,r,hi,zO,.inl ⟨rfl,rfl⟩⟩)) U _ x rfl (old hx) (hx.ge a ((o a).2 (.inr ⟨W,rfl⟩)))
 ·
  intro r hr;rcases mem_cutL.1 hr with ⟨i,r,h1,h2,rfl⟩ | ⟨i,r,h1,h2,⟨h3,rfl⟩ | ⟨k,n,h3,m,h5,rfl⟩⟩
  ·obtain ⟨b,hb,hn⟩:=h.off _ (Vo h1);exact ⟨b,(o b).2 (.inl hb),hn⟩
  ·obtain ⟨b,hb,hn⟩:=h.off _ (Vo h1);exact ⟨b,(o b).2 (.inl hb),hn⟩
  ·obtain ⟨b,hb,hn⟩:=h.off _ (Vo h1);exact ⟨b,(o b).2 (.inl hb),fun e=>hn (((u (f h1) (f h3) h2 m).2.2 b hb).1 e).1⟩
 ·
  intro r hr y hy hs;have B:=old hy;rcases mem_cutL.1 hr with ⟨i,r,h1,h2,rfl⟩ | ⟨i,r,h1,h2,⟨h3,rfl⟩ | ⟨k,n,h3,m,h5,rfl⟩⟩
  ·exact h.ext _ (Vo h1) y B fun i hi e=>hs i ((o i).2 (.inl hi)) e
  ·exact h.ext _ (Vo h1) y B fun i hi e=>hs i ((o i).2 (.inl hi)) e
  ·obtain ⟨J,X,Z⟩:=u (f h1) (f h3) h2 m;have af:dot a y=0:=by
    cases eq
    ·exact hs a ((o a).2 (.inr ⟨rfl,rfl⟩)) X
    ·exact hy.eq a (.inr ⟨rfl,rfl⟩)
   have hf:=h.face (S:=fun b=>b∈l/\dot b r=0/\dot b n=0) (fun b hb=>hb.1) (h.all y B) (fun b hb=>hs b ((o b).2 (.inl hb.1)) ((Z b hb.1).2 hb.2));have ag:Con d L (fun x=>x=r\/x=n) y:=hf.mono (fun _ h=>h) fun x hx=>by
    obtain ⟨t,I⟩:=VX hx.1;by_cases ad:t=i
    ·rw [ad,h1] at I; cases I; exact .inl rfl
    ·by_cases ae:t=k
     ·rw [ae,h3] at I; cases I; exact .inr rfl
     ·exact absurd (fun b hb C z=>hx.2 b ⟨hb,C,z⟩) (h5 t x I ad ae)
   have H:=(f h1).len;have G:=(f h3).len;obtain ⟨M,α,β,P,hα,hβ,ab⟩:=Ns h.lenL H G ag;have hz:=Con.dot_zero (a:=a) h.lenL (fun r h=>h.elim) (fun x hx=>O x hx) (fun r h=>h.elim) ab;rw [bo _ _ _ (B.len.trans (mix_length H G).symm),af,bo _ _ _ (H.trans G.symm)] at hz;obtain ⟨c,hc,e⟩:=kO (mx a r n);refine ⟨dot a r*M,β*c,WQ h2 P,VW hβ zO,?_⟩
   have:=Spn.smul h.lenL ab (dot a r)
   have z:scl (dot a r) (mix M y (-1) (mix α r β n))=mix (dot a r*M) y (-(β*c)) (prime (mx a r n)):=aO (by rw [ah (mix_length B.len (mix_length H G)),mix_length B.len J.len]) fun i=>by
    have e3:at_ (mx a r n) i=c*at_ (prime (mx a r n)) i:=by rw [<- aD,e]
    unfold mx at e3;rw [al (H.trans G.symm)] at e3;rw [aD,al (B.len.trans (mix_length H G).symm),al (H.trans G.symm),al (B.len.trans J.len.symm)];unfold mx
    grind
   rw [z] at this;exact this
 ·
  have hne:∀ {i j:Nat} {r s:V},R[i]? = some r->R[j]? = some s->i≠j->¬ ∀ b,b∈l++(if eq then [] else [a])->(dot b r=0 ↔ dot b s=0):=fun h1 h2 ai h3=>ai (h.same h1 h2 fun b hb=>h3 b ((o b).2 (.inl hb)));have Q:∀ {i j:Nat} {r s:V},R[i]? = some r->R[j]? = some s->dot a r≠dot a s->i≠j:=fun h1 h2 h3 e=>by rw [e,h2] at h1; cases h1; exact h3 rfl
  unfold cutL;refine XC.2 ⟨?_,?_,fun r hr s hs=>?_⟩
  ·refine Wz.2 ((Ez _).imp_of_mem fun {i j} hi hj hlt=>?_);obtain ⟨r,h1,_⟩:=mem_idxs.1 hi;obtain ⟨s,h2,_⟩:=mem_idxs.1 hj;rw [getD_of h1,getD_of h2];exact hne h1 h2 zO
  ·refine List.pairwise_flatMap.2 ⟨fun i hi=>?_,(Ez _).imp_of_mem fun {i j} hi hj hlt x hx y hy=>?_⟩
   ·obtain ⟨p,h1,h2⟩:=mem_idxs.1 hi;have h2:0<dot a p:=by simpa using h2
    refine XC.2 ⟨by cases eq <;> simp,?_,fun x hx y hy=>?_⟩
    ·refine Wz.2 (((Ez _).filter _).imp_of_mem fun {k M} v P hlt=>?_);obtain ⟨w,A⟩:=Vv.1 v;obtain ⟨Y,aj⟩:=Vv.1 P;obtain ⟨n,h3,m⟩:=mem_idxs.1 w;obtain ⟨n',D,F⟩:=mem_idxs.1 Y;have m:dot a n<0:=by simpa using m
     have F:dot a n'<0:=by simpa using F
     rw [getD_of h1,getD_of h3,getD_of D];intro h5;refine (oZ h1 h3).1 A M n' D (Q D h1 zO) zO fun b hb C z=>?_;have g:=(h5 b ((o b).2 (.inl hb))).1 (((u (f h1) (f h3) h2 m).2.2 b hb).2 ⟨C,z⟩);exact (((u (f h1) (f D) h2 F).2.2 b hb).1 g).2
    ·obtain ⟨k,v,rfl⟩:=Va.1 hy;obtain ⟨w,A⟩:=Vv.1 v;obtain ⟨n,h3,m⟩:=mem_idxs.1 w;have m:dot a n<0:=by simpa using m
     rw [getD_of h1] at hx ⊢;rw [getD_of h3];cases eq
     ·simp at hx;subst hx;intro h5
      have:=(h5 a ((o a).2 (.inr ⟨rfl,rfl⟩))).2 (u (f h1) (f h3) h2 m).2.1
      omega
     ·simp at hx
   ·obtain ⟨p,h1,h2⟩:=mem_idxs.1 hi;obtain ⟨q,K,T⟩:=mem_idxs.1 hj;have h2:0<dot a p:=by simpa using h2
    have T:0<dot a q:=by simpa using T
    rw [getD_of h1] at hx;rw [getD_of K] at hy;rcases Vq.1 hx with hx | hx <;> rcases Vq.1 hy with hy | hy
    ·cases eq
     ·simp at hx hy; subst hx; subst hy; exact hne h1 K zO
     ·simp at hx
    ·obtain ⟨k,v,rfl⟩:=Va.1 hy;obtain ⟨w,A⟩:=Vv.1 v;obtain ⟨n,h3,m⟩:=mem_idxs.1 w;have m:dot a n<0:=by simpa using m
     rw [getD_of h3];cases eq
     ·simp at hx;subst hx;intro h5
      have:=(h5 a ((o a).2 (.inr ⟨rfl,rfl⟩))).2 (u (f K) (f h3) T m).2.1
      omega
     ·simp at hx
    ·obtain ⟨k,v,rfl⟩:=Va.1 hx;obtain ⟨w,A⟩:=Vv.1 v;obtain ⟨n,h3,m⟩:=mem_idxs.1 w;have m:dot a n<0:=by simpa using m
     rw [getD_of h3];cases eq
     ·simp at hy;subst hy;intro h5
      have:=(h5 a ((o a).2 (.inr ⟨rfl,rfl⟩))).1 (u (f h1) (f h3) h2 m).2.1
      omega
     ·simp at hy
    ·obtain ⟨k,v,rfl⟩:=Va.1 hx;obtain ⟨M,P,rfl⟩:=Va.1 hy;obtain ⟨w,A⟩:=Vv.1 v;obtain ⟨Y,aj⟩:=Vv.1 P;obtain ⟨n,h3,m⟩:=mem_idxs.1 w;obtain ⟨n',D,F⟩:=mem_idxs.1 Y;have m:dot a n<0:=by simpa using m
     have F:dot a n'<0:=by simpa using F
     rw [getD_of h3,getD_of D];intro h5;refine (oZ h1 h3).1 A j q K zO (Q K h3 zO) fun b hb C z=>?_;have g:=(h5 b ((o b).2 (.inl hb))).1 (((u (f h1) (f h3) h2 m).2.2 b hb).2 ⟨C,z⟩);exact (((u (f K) (f D) T F).2.2 b hb).1 g).1
  ·obtain ⟨t,I,rfl⟩:=Va.1 hr;obtain ⟨q,h0,aa⟩:=mem_idxs.1 I;have aa:dot a q=0:=by simpa using aa
   obtain ⟨i,hi,hs⟩:=List.mem_flatMap.1 hs;obtain ⟨p,h1,h2⟩:=mem_idxs.1 hi;have h2:0<dot a p:=by simpa using h2
   rw [getD_of h0];rw [getD_of h1] at hs;rcases Vq.1 hs with hs | hs
   ·cases eq
    ·simp at hs; subst hs; exact hne h0 h1 (Q h0 h1 zO)
    ·simp at hs
   ·obtain ⟨k,v,rfl⟩:=Va.1 hs;obtain ⟨w,A⟩:=Vv.1 v;obtain ⟨n,h3,m⟩:=mem_idxs.1 w;have m:dot a n<0:=by simpa using m
    rw [getD_of h3];intro h5;refine (oZ h1 h3).1 A t q h0 (Q h0 h1 zO) (Q h0 h3 zO) fun b hb C z=>?_;exact (h5 b ((o b).2 (.inl hb))).2 (((u (f h1) (f h3) h2 m).2.2 b hb).2 ⟨C,z⟩)
end
def lC {x:V} {g:Int} (h:∀ a∈x,g ∣ a):g ∣ (content x:Int):=by
 have key:∀ (x:V) (n:Nat),g ∣ (n:Int)->(∀ a∈x,g ∣ a)->g ∣ ((x.foldl (fun g a=>Nat.gcd g a.natAbs) n:Nat):Int):=by
  intro x
  induction x with
  | nil=>intro n hn _; exact hn
  | cons b x c =>
   intro n hn hx;simp only [WT];refine c _ ?_ fun a ha=>hx a (Vi _ ha);have h1:g.natAbs ∣ n:=by have:=Yh.2 hn; simpa using this
   have h2:g.natAbs ∣ b.natAbs:=Yh.2 (hx b (Vm ..));exact Int.natAbs_dvd.1 (Int.ofNat_dvd.2 (Nat.dvd_gcd h1 h2))
 exact key x 0 (Int.dvd_zero g) h
def content_eq_zero {x:V}:content x=0 ↔ ∀ a∈x,a=0:=by
 constructor
 ·intro h a ha
  have:=content_dvd ha
  rw [h] at this;exact Int.zero_dvd.1 this
 ·intro h
  have:(0:Int) ∣ (content x:Int):=lC fun a ha=>by rw [h a ha]; exact Int.dvd_zero 0
  have:=Int.zero_dvd.1 this
  omega
def Ir {x:V} {a:Int} (h:a∈x):∃ i,at_ x i=a:=by
 obtain ⟨i,hi⟩:=VX h;exact ⟨i,by simp [at_,hi]⟩
def Pc {x:V} {i:Nat} (h:at_ x i≠0):at_ x i∈x:=by
 unfold at_ at h ⊢;rw [U5] at h ⊢;cases hx:x[i]? with
 | none=>rw [hx] at h; exact absurd rfl h
 | some y=>exact Vo hx
def zero_iff {x:V}:(∀ a∈x,a=0) ↔ ∀ i,at_ x i=0:=by
 constructor
 ·intro h i;by_cases h0:at_ x i=0
  ·exact h0
  ·exact h _ (Pc h0)
 ·intro h a ha;obtain ⟨i,rfl⟩:=Ir ha;exact h i
def IQ {d:Nat} {x:V} (hx:x.length=d):x=mp d ↔ ∀ i,at_ x i=0:=by
 constructor
 ·rintro rfl i; exact iU
 ·intro h; exact aO (by rw [hx,cz]) fun i=>by rw [h i,iU]
def nP {c:Int} (hc:0<c) (x:V):(content (scl c x):Int)=c*content x:=by
 refine Int.dvd_antisymm ?_ ?_ ?_ ?_
 ·omega
 ·have:=VW (Xc hc) (Int.natCast_nonneg (content x)); exact this
 ·
  by_cases h0:content x=0
  ·rw [h0]; simp
  ·have h1:∀ a∈x,(content (scl c x):Int) ∣ c*a:=fun a ha=>content_dvd (W3 ha);have h2:c ∣ (content (scl c x):Int):=lC fun a ha=>by
    obtain ⟨b,-,rfl⟩:=Va.1 ha;exact Int.dvd_mul_right _ _
   obtain ⟨g,hg⟩:=h2;rw [hg];refine ZY c (lC fun a ha=>?_)
   have:=h1 a ha
   rw [hg] at this;exact Int.dvd_of_mul_dvd_mul_left zO this
 ·refine lC fun a ha=>?_;obtain ⟨b,hb,rfl⟩:=Va.1 ha;exact ZY c (content_dvd hb)
def iZ {x:V} (h:∃ i,at_ x i≠0):content (prime x)=1:=by
 have h0:content x≠0:=fun e=>by
  obtain ⟨i,hi⟩:=h;exact hi (zero_iff.1 (content_eq_zero.1 e) i)
 have e:scl (content x:Int) (prime x)=x:=by
  unfold prime scl;rw [if_neg h0,Xo]
  conv=>rhs; rw [<- YY x]
  exact W2 fun a ha=>ZX (content_dvd ha)
 have:=nP (show (0:Int)<content x by omega) (prime x)
 rw [e] at this;have h2:(content x:Int)*1=content x*content (prime x):=zO
 have:=Zq zO h2
 omega
def vD {x y:V} (hx:content x=1) (hy:content y=1) {m n:Int} (hm:0<m) (hn:0<n) (h:scl m x=scl n y):x=y:=by
 have h1:=nP hm x;have h2:=nP hn y;rw [hx] at h1;rw [hy] at h2;rw [h] at h1;have e:m=n:=zO;subst e;have hl:x.length=y.length:=by have:=congrArg List.length h; simpa [scl] using this
 refine aO hl fun i=>?_
 have:=congrArg (fun z=>at_ z i) h
 simp only [aD] at this;exact Zq zO this
def lx {x:V} (i:Nat):(at_ (prime x) i=0 ↔ at_ x i=0)/\(0<at_ (prime x) i ↔ 0<at_ x i):=by
 obtain ⟨c,hc,e⟩:=kO x
 have:at_ x i=c*at_ (prime x) i:=by rw [<- aD,e]
 rw [this];refine ⟨⟨fun h=>by rw [h]; simp,fun h=>?_⟩,⟨fun h=>WQ hc h,fun h=>?_⟩⟩
 ·rcases VJ.1 h with h1 | h1
  ·omega
  ·exact h1
 ·exact Int.pos_of_mul_pos_right h hc
def before (a b:Nat):Bool:=a != b && (a != 0 && (b == 0 || decide (a<b)))
def rank (i d:Nat):Nat:=if i=0 then d else i
def before_iff {a b d:Nat} (ha:a<d) (hb:b<d):before a b=true ↔ rank a d<rank b d:=by
 unfold before rank;simp only [VH,bne_iff_ne,WU,beq_iff_eq,decide_eq_true_eq];split <;> split <;> omega
def places (d:Nat):List Nat:=(List.range' 1 (d-1))++(if d=0 then [] else [0])
def pivot (a:V):Option Nat:=(places a.length).find? fun i=>!decide (at_ a i=0)
def pv (a:V):Nat:=(pivot a).getD 0
def mem_places {d i:Nat}:i∈places d ↔ i<d:=by
 unfold places;rw [Vq,Zv];by_cases hd:d=0
 ·simp [hd]; omega
 ·simp [hd]; omega
def tC (d:Nat):(places d).Pairwise fun a b=>before a b=true:=by
 unfold places;refine XC.2 ⟨?_,by split <;> simp,fun a ha b hb=>?_⟩
 ·refine XV (fun {a b} ha hb h=>?_) (List.pairwise_lt_range' (s:=1) (n:=d-1));rw [Zv] at ha hb;unfold before;simp only [VH,bne_iff_ne,WU,beq_iff_eq,decide_eq_true_eq];omega
 ·rw [Zv] at ha;split at hb
  ·cases hb
  ·simp only [Vp] at hb;subst hb;unfold before
   simp
   omega
def pivot_some {a:V} {p:Nat}:pivot a=some p ↔ p<a.length/\at_ a p≠0/\∀ q,q<a.length->before q p=true->at_ a q=0:=by
 unfold pivot;rw [List.find?_eq_some_iff_append];constructor
 ·rintro ⟨h1,l1,l2,e,h2⟩;have hp:p∈places a.length:=by rw [e]; simp
  refine ⟨mem_places.1 hp,by simpa using h1,fun q b hb=>?_⟩;have c:q∈places a.length:=mem_places.2 b;rw [e] at c;rcases Vq.1 c with h | h
  ·have:=h2 q h; simpa using this
  ·exfalso
   have hs:=tC a.length;rw [e] at hs;have hs:=(XC.1 hs).2.1;rcases VF.1 h with rfl | h
   ·simp [before] at hb
   ·have:=(W9.1 hs).1 q h
    unfold before at this hb;simp only [VH,bne_iff_ne,WU,beq_iff_eq,decide_eq_true_eq] at this hb;omega
 ·rintro ⟨h1,h2,h3⟩;obtain ⟨l1,l2,e⟩:=List.append_of_mem (mem_places.2 h1);refine ⟨by simpa using h2,l1,l2,e,fun q b=>?_⟩;have hs:=tC a.length;rw [e] at hs;have hb:=(XC.1 hs).2.2 q b p (Vm ..);have d:q<a.length:=mem_places.1 (by rw [e]; exact Wg _ b)
  simpa using h3 q d hb
def pivot_none {a:V}:pivot a=none ↔ ∀ i,at_ a i=0:=by
 unfold pivot;rw [List.find?_eq_none];constructor
 ·intro h i;by_cases hi:i<a.length
  ·have:=h i (mem_places.2 hi); simpa using this
  ·simp [at_,U5,VM (Xz hi)]
 ·intro h i _;simp [h i]
def NV {a:V} {p:Nat} (h:pivot a=some p):pv a=p:=by simp [pv,h]
def wo (a u:V) (p:Nat):V:=if at_ a p=0 then a else prime (mix (at_ u p) a (-(at_ a p)) u)
def restF (F:List V) (a:V):V:=F.foldl (fun a r=>wo a r (pv r)) (prime a)
def signed (a:V) (p:Nat):V:=if at_ a p<0 then scl (-1) a else a
def insP (x:V) (p:Nat):List V->List V
 | []=>[x]
 | r :: F=>if before (pv r) p=true then r :: insP x p F else x :: r :: F
def putF (F:List V) (a:V):List V :=
 match pivot (restF F a) with
 | none=>F
 | some p=>insP (signed (restF F a) p) p (F.map fun r=>wo r (signed (restF F a) p) p)
def formF (l:List V):List V:=l.foldl putF []
structure Ech (d:Nat) (F:List V):Prop where
 len:∀ r∈F,r.length=d
 piv:∀ r∈F,∃ p,pivot r=some p/\0<at_ r p
 cont:∀ r∈F,content r=1
 clear:F.Pairwise fun r s=>at_ r (pv s)=0/\at_ s (pv r)=0
 sorted:F.Pairwise fun r s=>before (pv r) (pv s)=true
def Ech.nil (d:Nat):Ech d []:=⟨by simp,by simp,by simp,by simp,by simp⟩
section
variable {d:Nat} {F:List V}
def Ech.pos (h:Ech d F) {r:V} (hr:r∈F):pivot r=some (pv r)/\0<at_ r (pv r)/\pv r<d:=by
 obtain ⟨p,hp,h0⟩:=h.piv r hr;rw [NV hp];exact ⟨hp,h0,h.len r hr ▸ (pivot_some.1 hp).1⟩
def Ech.clear_of (h:Ech d F) {r s:V} (hr:r∈F) (hs:s∈F) (hne:r≠s):at_ r (pv s)=0:=by
 obtain ⟨i,hi⟩:=VX hr;obtain ⟨j,hj⟩:=VX hs;obtain ⟨a,rfl⟩:=Vl.1 hi;obtain ⟨b,rfl⟩:=Vl.1 hj;rcases Xp i j with hlt | heq | hlt
 ·exact (V3.1 h.clear i j a b hlt).1
 ·subst heq; exact absurd rfl hne
 ·exact (V3.1 h.clear j i b a hlt).2
def Cg (a:Nat):before a a=false:=by simp [before]
def Ech.pv_inj (h:Ech d F) {r s:V} (hr:r∈F) (hs:s∈F) (he:pv r=pv s):r=s:=by
 by_cases hne:r=s
 ·exact hne
 ·exfalso
  have:=h.clear_of hr hs hne
  rw [<- he] at this
  have:=(h.pos hr).2.1
  omega
def Pb {a u:V} {p:Nat} (ha:a.length=d) (b:u.length=d) (h:0<at_ u p):∃ k:Int,0<k/\∃ c:Int,0<c/\∃ s:Int,scl k (wo a u p)=mix c a s u/\((s=0) ↔ (at_ a p=0)):=by
 unfold wo;split
 ·rename_i h0;refine ⟨1,zO,1,zO,0,aO (by rw [ah ha,mix_length ha b]) fun i=>?_,by simp [h0]⟩;rw [aD,al (ha.trans b.symm)]; grind
 ·rename_i h0;obtain ⟨k,f,e⟩:=kO (mix (at_ u p) a (-(at_ a p)) u);exact ⟨k,f,at_ u p,h,-(at_ a p),e,by simp [h0]⟩
def wo_length {a u:V} {p:Nat} (ha:a.length=d) (b:u.length=d):(wo a u p).length=d:=by
 unfold wo;split
 ·exact ha
 ·rw [prime_length]; exact mix_length ha b
def Dx {a u:V} {p:Nat} (ha:a.length=d) (b:u.length=d) (h:0<at_ u p):at_ (wo a u p) p=0:=by
 unfold wo;split
 ·rename_i h0; exact h0
 ·rw [(lx p).1,al (ha.trans b.symm)]; grind
def ze {a u:V} {p q:Nat} (ha:a.length=d) (c:u.length=d) (h0:at_ u q=0):at_ a q=0->at_ (wo a u p) q=0:=by
 intro b;unfold wo;split
 ·exact b
 ·rw [(lx q).1,al (ha.trans c.symm),b,h0]; simp
def RU {a u:V} {p q:Nat} (ha:a.length=d) (c:u.length=d) (h:0<at_ u p) (h0:at_ u q=0) (b:0<at_ a q):0<at_ (wo a u p) q:=by
 unfold wo;split
 ·exact b
 ·rw [(lx q).2,al (ha.trans c.symm),h0]
  have:=WQ h b
  simpa using this
def Jj {a u:V} {p q:Nat} (ha:a.length=d) (c:u.length=d) (hc:content a=1) (b:at_ (wo a u p) q≠0):content (wo a u p)=1:=by
 unfold wo at b ⊢;split at b
 ·rename_i h0; rw [if_pos h0]; exact hc
 ·rename_i h0;rw [if_neg h0];exact iZ ⟨q,fun e=>b ((lx q).1.2 e)⟩
def oS {A B:V->Prop} (hA:∀ x,A x->x.length=d) (a:∀ x,B x->x.length=d) (h:∀ x,A x->Spn d B x) {x:V} (hx:Spn d A x):Spn d B x :=
 Con.trans a (fun r h=>h.elim) (fun l hl c=>Spn.smul a (h l hl) c) (fun r h=>h.elim) hA (fun r h=>h.elim) hx
def eO {B:V->Prop} {x:V} (hx:x.length=d) (h:B x):Spn d B x:=by
 have:=Con.of_line (d:=d) (L:=B) (R:=fun _=>False) hx h 1
 rw [vu] at this; exact this
def pz {B:V->Prop} (a:∀ x,B x->x.length=d) {x:V} (hx:x.length=d) {k:Int} (b:k≠0) (h:Spn d B (scl k x)):Spn d B x:=by
 rcases Int.lt_or_gt_of_ne b with h0 | h0
 ·have:=Spn.smul a h (-1)
  have e:scl (-1) (scl k x)=scl (-k) x:=aO (by simp [scl]) fun i=>by rw [aD,aD,aD]; grind
  rw [e] at this;exact .div (-k) zO hx this
 ·exact .div k h0 hx h
def Jt (h:Ech d F):∀ (G:List V) (done:List V),done++G=F->∀ a:V,a.length=d->(∀ r∈done,at_ a (pv r)=0) ->
  (G.foldl (fun a r=>wo a r (pv r)) a).length=d/\(∀ r∈F,at_ (G.foldl (fun a r=>wo a r (pv r)) a) (pv r)=0) /\
  (∃ m k:Int,0<m/\0<k/\Spn d (· ∈ F) (mix m (G.foldl (fun a r=>wo a r (pv r)) a) (-k) a)) /\
  ((content a=1\/∀ i,at_ a i=0)->(content (G.foldl (fun a r=>wo a r (pv r)) a)=1\/∀ i,at_ (G.foldl (fun a r=>wo a r (pv r)) a) i=0))
 | [],done,e,a,ha,hd=>by
  rw [WH] at e;subst e;refine ⟨ha,hd,⟨1,1,zO,zO,?_⟩,fun h=>h⟩
  have:mix 1 a (-1) a=mp d:=aO (by rw [mix_length ha ha,cz]) fun i=>by rw [al rfl,iU]; grind
  show Spn d _ (mix 1 a (-1) a);rw [this]; exact .zero
 | r :: G,done,e,a,ha,hd=>by
  have hr:r∈F:=by rw [<- e]; simp
  have b:=h.len r hr;obtain ⟨C,g,D⟩:=h.pos hr;have A:∀ s∈done++[r],at_ (wo a r (pv r)) (pv s)=0:=fun s hs=>by
   rcases Vq.1 hs with hs | hs
   ·have z:s∈F:=by rw [<- e]; exact Wg _ hs
    by_cases hne:r=s
    ·subst hne; exact Dx ha b g
    ·exact ze ha b (h.clear_of hr z hne) (hd s hs)
   ·simp only [Vp] at hs;subst hs;exact Dx ha b g
  obtain ⟨f,t,⟨m,k,hm,w,u⟩,v⟩:=Jt h G (done++[r]) (by rw [Xg]; exact e) (wo a r (pv r)) (wo_length ha b) A;simp only [WT];refine ⟨f,t,?_,fun hc=>v ?_⟩
  ·obtain ⟨k1,y,c,hc,s,o,_⟩:=Pb ha b g;refine ⟨m*k1,k*c,WQ hm y,WQ w hc,?_⟩;have t1:=Spn.smul (fun x hx=>h.len x hx) u k1;have n:=Spn.sum2 (fun x hx=>h.len x hx) t1 (eO (d:=d) (B:=(· ∈ F)) b hr) 1 (k*s);have p:mix 1 (scl k1 (mix m (G.foldl (fun a r=>wo a r (pv r)) (wo a r (pv r))) (-k) (wo a r (pv r)))) (k*s) r=mix (m*k1) (G.foldl (fun a r=>wo a r (pv r)) (wo a r (pv r))) (-(k*c)) a :=
    aO (by rw [mix_length (ah (mix_length f (wo_length ha b))) b,mix_length f ha]) fun i=>by
     have e3:k1*at_ (wo a r (pv r)) i=c*at_ a i+s*at_ r i:=by rw [<- aD,o,al (ha.trans b.symm)]
     rw [al ((ah (mix_length f (wo_length ha b))).trans b.symm),aD,al (f.trans (wo_length ha b).symm),al (f.trans ha.symm)]
     grind
   rw [p] at n;exact n
  ·by_cases l:∀ i,at_ (wo a r (pv r)) i=0
   ·exact .inr l
   ·refine .inl ?_;have ⟨q,j⟩:∃ q,at_ (wo a r (pv r)) q≠0:=YZ.1 l;rcases hc with hc | hc
    ·exact Jj ha b hc j
    ·exfalso
     have:wo a r (pv r)=a:=by unfold wo; rw [if_pos (hc _)]
     rw [this] at j;exact j (hc q)
def FG (h:Ech d F) {a:V} (ha:a.length=d) :
  (restF F a).length=d/\(∀ r∈F,at_ (restF F a) (pv r)=0)/\(∃ m k:Int,0<m/\0<k/\Spn d (· ∈ F) (mix m (restF F a) (-k) a))/\(content (restF F a)=1\/∀ i,at_ (restF F a) i=0):=by
 have hl:(prime a).length=d:=by rw [prime_length]; exact ha
 obtain ⟨b,j,⟨m,k,hm,o,l⟩,n⟩:=Jt h F [] rfl (prime a) hl (by simp);obtain ⟨c,hc,e⟩:=kO a;refine ⟨b,j,⟨m*c,k,WQ hm hc,o,?_⟩,n ?_⟩
 ·have t:=Spn.smul (fun x hx=>h.len x hx) l c;have g:scl c (mix m (F.foldl (fun a r=>wo a r (pv r)) (prime a)) (-k) (prime a))=mix (m*c) (restF F a) (-k) a:=aO (by rw [ah (mix_length b hl),mix_length (show (restF F a).length=d from b) ha]) fun i=>by
   have e3:at_ a i=c*at_ (prime a) i:=by rw [<- aD,e]
   rw [aD,al (b.trans hl.symm)];unfold restF;rw [al (b.trans ha.symm),e3]; grind
  rw [g] at t; exact t
 ·by_cases f:∀ i,at_ a i=0
  ·exact .inr fun i=>(lx i).1.2 (f i)
  ·exact .inl (iZ (YZ.1 f))
def signed_length {a:V} {p:Nat} (ha:a.length=d):(signed a p).length=d:=by unfold signed; split <;> simp [scl,ha]
def KX {a:V} {p:Nat} (q:Nat):at_ (signed a p) q=0 ↔ at_ a q=0:=by
 unfold signed;split
 ·rw [aD]; omega
 ·exact YV
def HJ {a:V} {p:Nat} (h:at_ a p≠0):0<at_ (signed a p) p:=by
 unfold signed;split
 ·rw [aD]; omega
 ·omega
def Ag {B:V->Prop} (b:∀ x,B x->x.length=d) {a:V} {p:Nat} (ha:a.length=d):Spn d B (signed a p) ↔ Spn d B a:=by
 unfold signed;split
 ·exact ⟨fun h=>pz b ha zO h,fun h=>Spn.smul b h (-1)⟩
 ·exact YV
def yu (a:V):content (scl (-1) a)=content a:=by
 have key:∀ (x:V) (g:Nat),(scl (-1) x).foldl (fun g a=>Nat.gcd g a.natAbs) g=x.foldl (fun g a=>Nat.gcd g a.natAbs) g:=by
  intro x
  induction x with
  | nil=>intro g; rfl
  | cons b x c =>
   intro g;simp only [scl,Vb,WT] at c ⊢;rw [show (-1*b).natAbs=b.natAbs by rw [Int.neg_one_mul,Ym]];exact c _
 exact key a 0
def Fw {a:V} {p:Nat} (h:content a=1):content (signed a p)=1:=by
 unfold signed;split
 ·rw [yu]; exact h
 ·exact h
def mem_insP {x y:V} {p:Nat}:∀ {G:List V},y∈insP x p G ↔ y=x\/y∈G
 | []=>by simp [insP]
 | r :: G=>by
  unfold insP;split
  ·rw [VF,mem_insP,VF];constructor
   ·rintro (h | h | h)
    ·exact .inr (.inl h)
    ·exact .inl h
    ·exact .inr (.inr h)
   ·rintro (h | h | h)
    ·exact .inr (.inl h)
    ·exact .inl h
    ·exact .inr (.inr h)
  ·simp
def tE {a:V->V->Prop} {x:V} {p:Nat}:∀ {G:List V},G.Pairwise a->(∀ r∈G,a r x/\a x r)->(insP x p G).Pairwise a
 | [],_,_=>by simp [insP]
 | r :: G,h,hx=>by
  obtain ⟨h1,h2⟩:=W9.1 h;unfold insP;split
  ·refine W9.2 ⟨fun y hy=>?_,tE h2 fun s hs=>hx s (Vi _ hs)⟩;rcases mem_insP.1 hy with rfl | hy
   ·exact (hx r (Vm ..)).1
   ·exact h1 y hy
  ·refine W9.2 ⟨fun y hy=>(hx y hy).2,h⟩
def mo {a b c d:Nat} (ha:a<d) (hb:b<d) (hc:c<d) (h1:before a b=true) (h2:before b c=true):before a c=true:=by
 rw [before_iff ha hb] at h1;rw [before_iff hb hc] at h2;rw [before_iff ha hc];omega
def qg {a b d:Nat} (ha:a<d) (hb:b<d) (hne:a≠b):before a b=true\/before b a=true:=by
 rw [before_iff ha hb,before_iff hb ha];unfold rank;split <;> split <;> omega
def yh {x:V} {p:Nat} (hp:pv x=p) (b:p<d):∀ {G:List V},(∀ r∈G,pv r<d/\pv r≠p)->G.Pairwise (fun r s=>before (pv r) (pv s)=true)->(insP x p G).Pairwise (fun r s=>before (pv r) (pv s)=true)
 | [],_,_=>by simp [insP]
 | r :: G,a,h=>by
  obtain ⟨h1,h2⟩:=W9.1 h;obtain ⟨e,f⟩:=a r (Vm ..);unfold insP;split
  ·rename_i hb;refine W9.2 ⟨fun y hy=>?_,yh hp b (fun s hs=>a s (Vi _ hs)) h2⟩;rcases mem_insP.1 hy with rfl | hy
   ·rw [hp]; exact hb
   ·exact h1 y hy
  ·rename_i hb;have c:before p (pv r)=true:=(qg e b f).resolve_left hb;refine W9.2 ⟨fun y hy=>?_,h⟩;rw [hp];rcases VF.1 hy with rfl | hy
   ·exact c
   ·exact mo b e (a y (Vi _ hy)).1 c (h1 y hy)
def put_ech (h:Ech d F) {a:V} (ha:a.length=d):Ech d (putF F a)/\∀ x,Spn d (· ∈ putF F a) x ↔ Spn d (fun y=>y∈F\/y=a) x:=by
 obtain ⟨g,S,⟨m,k,hm,X,D⟩,T⟩:=FG h ha;have n:∀ y,(y∈F\/y=a)->y.length=d:=fun y hy=>by rcases hy with hy | rfl <;> first | exact h.len y hy | exact ha
 unfold putF;split
 ·rename_i hn;have I:=pivot_none.1 hn;refine ⟨h,fun x=>⟨fun hx=>hx.mono (fun y hy=>.inl hy) (fun r h=>h),fun hx=>oS n (fun y hy=>h.len y hy) (fun y hy=>?_) hx⟩⟩;rcases hy with hy | rfl
  ·exact eO (h.len y hy) hy
  ·have e:mix m (restF F y) (-k) y=scl (-k) y:=aO (by rw [mix_length g ha,ah ha]) fun i=>by rw [al (g.trans ha.symm),aD,I i]; simp
   rw [e] at D;exact pz (fun x hx=>h.len x hx) ha zO D
 ·rename_i p hp;obtain ⟨z,M,N⟩:=pivot_some.1 hp;rw [g] at z N
  generalize hb:signed (restF F a) p=b at *
  have f:b.length=d:=by rw [<- hb]; exact signed_length g
  have C:0<at_ b p:=by rw [<- hb]; exact HJ M
  have L:∀ q,at_ b q=0 ↔ at_ (restF F a) q=0:=fun q=>by rw [<- hb]; exact KX q
  have U:content b=1:=by
   rw [<- hb];exact Fw (T.resolve_right fun I=>M (I p))
  have H:pivot b=some p:=pivot_some.2 ⟨by rw [f]; exact z,zO,fun q v E=>by rw [f] at v; exact (L q).2 (N q v E)⟩;have w:∀ r∈F,at_ b (pv r)=0:=fun r hr=>(L _).2 (S r hr);have O:∀ r∈F,pv r≠p:=fun r hr e=>by have:=w r hr; rw [e] at this; omega
  have j:∀ r∈F,(wo r b p).length=d/\pivot (wo r b p)=some (pv r)/\0<at_ (wo r b p) (pv r)/\content (wo r b p)=1/\at_ (wo r b p) p=0:=fun r hr=>by
   have l:=h.len r hr;obtain ⟨q1,q2,q3⟩:=h.pos hr;have w1:=RU l f C (w r hr) q2;refine ⟨wo_length l f,pivot_some.2 ⟨by rw [wo_length l f]; exact q3,zO,fun q v E=>?_⟩,w1,Jj l f (h.cont r hr) (q:=pv r) zO,Dx l f C⟩;rw [wo_length l f] at v;have R:at_ r q=0:=(pivot_some.1 q1).2.2 q (by rw [l]; exact v) E;rcases qg q3 z (O r hr) with hbf | hbf
   ·exact ze l f ((pivot_some.1 H).2.2 q (by rw [f]; exact v) (mo v q3 z E hbf)) R
   ·have:at_ r p=0:=(pivot_some.1 q1).2.2 p (by rw [l]; exact z) hbf
    unfold wo;rw [if_pos this];exact R
  have A:∀ r∈F,pv (wo r b p)=pv r:=fun r hr=>NV (j r hr).2.1;have P:pv b=p:=NV H;have u:∀ y,y∈insP b p (F.map fun r=>wo r b p) ↔ y=b\/∃ r∈F,wo r b p=y:=fun y=>by rw [mem_insP,Va]
  refine ⟨⟨?_,?_,?_,?_,?_⟩,?_⟩
  ·intro y hy;rcases (u y).1 hy with rfl | ⟨r,hr,rfl⟩
   ·exact f
   ·exact (j r hr).1
  ·intro y hy;rcases (u y).1 hy with rfl | ⟨r,hr,rfl⟩
   ·exact ⟨p,H,C⟩
   ·exact ⟨_,(j r hr).2.1,(j r hr).2.2.1⟩
  ·intro y hy;rcases (u y).1 hy with rfl | ⟨r,hr,rfl⟩
   ·exact U
   ·exact (j r hr).2.2.2.1
  ·refine tE (Wz.2 (h.clear.imp_of_mem fun {r s} hr hs hc=>?_)) fun y hy=>?_
   ·rw [A r hr,A s hs];exact ⟨ze (h.len r hr) f (w s hs) hc.1,ze (h.len s hs) f (w r hr) hc.2⟩
   ·obtain ⟨r,hr,rfl⟩:=Va.1 hy;rw [A r hr,P];exact ⟨⟨(j r hr).2.2.2.2,w r hr⟩,⟨w r hr,(j r hr).2.2.2.2⟩⟩
  ·refine yh P z (fun y hy=>?_) (Wz.2 (h.sorted.imp_of_mem fun {r s} hr hs hc=>?_))
   ·obtain ⟨r,hr,rfl⟩:=Va.1 hy;rw [A r hr];exact ⟨(h.pos hr).2.2,O r hr⟩
   ·rw [A r hr,A s hs]; exact hc
  ·have o:∀ y,y∈insP b p (F.map fun r=>wo r b p)->y.length=d:=fun y hy=>by
    rcases (u y).1 hy with rfl | ⟨r,hr,rfl⟩
    ·exact f
    ·exact (j r hr).1
   have K:Spn d (fun y=>y∈F\/y=a) b:=by
    rw [<- hb,Ag n g];have t:=Spn.sum2 n (D.mono (fun y hy=>.inl hy) (fun r h=>h)) (eO (B:=fun y=>y∈F\/y=a) ha (.inr rfl)) 1 k;have e:mix 1 (mix m (restF F a) (-k) a) k a=scl m (restF F a):=aO (by rw [mix_length (mix_length g ha) ha,ah g]) fun i=>by rw [al ((mix_length g ha).trans ha.symm),al (g.trans ha.symm),aD]; grind
    rw [e] at t;exact pz n g zO t
   have J:Spn d (· ∈ insP b p (F.map fun r=>wo r b p)) b:=eO f ((u b).2 (.inl rfl));have Q:∀ r∈F,Spn d (· ∈ insP b p (F.map fun r=>wo r b p)) r:=fun r hr=>by
    obtain ⟨k1,W,c,hc,s,G,_⟩:=Pb (h.len r hr) f C;have t:=Spn.sum2 o (eO (d:=d) (B:=(· ∈ insP b p (F.map fun r=>wo r b p))) (j r hr).1 ((u _).2 (.inr ⟨r,hr,rfl⟩))) J k1 (-s);have e:mix k1 (wo r b p) (-s) b=scl c r:=aO (by rw [mix_length (j r hr).1 f,ah (h.len r hr)]) fun i=>by
     have e3:k1*at_ (wo r b p) i=c*at_ r i+s*at_ b i:=by rw [<- aD,G,al ((h.len r hr).trans f.symm)]
     rw [al ((j r hr).1.trans f.symm),aD]; grind
    rw [e] at t;exact pz o (h.len r hr) zO t
   refine fun x=>⟨fun hx=>oS o n (fun y hy=>?_) hx,fun hx=>oS n o (fun y hy=>?_) hx⟩
   ·rcases (u y).1 hy with rfl | ⟨r,hr,rfl⟩
    ·exact K
    ·obtain ⟨k1,W,c,hc,s,G,_⟩:=Pb (h.len r hr) f C;have t:=Spn.sum2 n (eO (d:=d) (B:=fun y=>y∈F\/y=a) (h.len r hr) (.inl hr)) K c s;rw [<- G] at t;exact pz n (j r hr).1 zO t
   ·rcases hy with hy | rfl
    ·exact Q y hy
    ·have t:=Spn.sum2 o (oS (fun y hy=>h.len y hy) o Q D) ((Ag o g).1 (by rw [hb]; exact J)) (-1) m;have e:mix (-1) (mix m (restF F y) (-k) y) m (restF F y)=scl k y:=aO (by rw [mix_length (mix_length g ha) g,ah ha]) fun i=>by rw [al ((mix_length g ha).trans g.symm),al (g.trans ha.symm),aD]; grind
     rw [e] at t;exact pz o ha zO t
def form_go:∀ (l:List V) (G:List V),Ech d G->(∀ a∈l,a.length=d)->Ech d (l.foldl putF G)/\∀ x,Spn d (· ∈ l.foldl putF G) x ↔ Spn d (fun y=>y∈G\/y∈l) x
 | [],G,h,_=>⟨h,fun x=>by simp⟩
 | a :: l,G,h,hl=>by
  obtain ⟨h1,h2⟩:=put_ech h (hl a (Vm ..));obtain ⟨h3,e⟩:=form_go l (putF G a) h1 fun b hb=>hl b (Vi _ hb);refine ⟨h3,fun x=>(e x).trans ?_⟩;have l1:∀ y,(y∈putF G a\/y∈l)->y.length=d:=fun y hy=>by rcases hy with hy | hy <;> first | exact h1.len y hy | exact hl y (Vi _ hy)
  have l2:∀ y,(y∈G\/y∈a :: l)->y.length=d:=fun y hy=>by rcases hy with hy | hy <;> first | exact h.len y hy | exact hl y hy
  constructor
  ·refine fun hx=>oS l1 l2 (fun y hy=>?_) hx;rcases hy with hy | hy
   ·exact ((h2 y).1 (eO (h1.len y hy) hy)).mono (fun z c=>by rcases c with c | rfl <;> first | exact .inl c | exact .inr (Vm ..)) (fun r h=>h)
   ·exact eO (hl y (Vi _ hy)) (.inr (Vi _ hy))
  ·refine fun hx=>oS l2 l1 (fun y hy=>?_) hx;rcases hy with hy | hy
   ·exact ((h2 y).2 (eO (h.len y hy) (.inl hy))).mono (fun z c=>.inl c) (fun r h=>h)
   ·rcases VF.1 hy with rfl | hy
    ·exact ((h2 y).2 (eO (hl y (Vm ..)) (.inr rfl))).mono (fun z c=>.inl c) (fun r h=>h)
    ·exact eO (hl y (Vi _ hy)) (.inr hy)
def form_ech {l:List V} (hl:∀ a∈l,a.length=d):Ech d (formF l)/\∀ x,Spn d (· ∈ formF l) x ↔ Spn d (· ∈ l) x:=by
 obtain ⟨h1,h2⟩:=form_go l [] (Ech.nil d) hl;exact ⟨h1,fun x=>(h2 x).trans (by simp)⟩
def Ech.spn_zero (h:Ech d F) {x:V} (hx:Spn d (· ∈ F) x) (A:∀ r∈F,at_ x (pv r)=0):∀ i,at_ x i=0:=by
 have key:∀ {x:V},Spn d (· ∈ F) x->∃ k:Int,0<k/\∃ c:V->Int,(∀ i,k*at_ x i=(F.map fun r=>c r*at_ r i).sum):=by
  intro x hx
  induction hx with
  | zero =>
   have zs:∀ G:List V,(G.map fun _=>(0:Int)).sum=0:=fun G=>by induction G with
    | nil=>rfl
    | cons g G a=>simp [a]
   exact ⟨1,zO,fun _=>0,fun i=>by rw [iU]; simp only [ZH,ZI]; exact (zs F).symm⟩
  | @line x l n hx hl a =>
   obtain ⟨k,f,c,hc⟩:=a;obtain ⟨j,hj⟩:=VX hl;refine ⟨k,f,fun r=>c r+(if r=l then k*n else 0),fun i=>?_⟩;rw [al ((hx.length (fun x hx=>h.len x hx) (fun r h=>h.elim)).trans (h.len l hl).symm)];have u:F.Nodup:=(h.clear.imp_of_mem fun {r s} hr hs hc e=>by
    subst e
    have:=(h.pos hr).2.1
    omega)
   have e:∀ (G:List V),G.Nodup->(G.map fun r=>(c r+(if r=l then k*n else 0))*at_ r i).sum=(G.map fun r=>c r*at_ r i).sum+(if l∈G then k*n*at_ l i else 0):=by
    intro G
    induction G with
    | nil=>intro _; simp
    | cons g G v =>
     intro hg;obtain ⟨o,p⟩:=XK.1 hg;simp only [Vb,Yg,v p];by_cases q:g=l
     ·subst q;simp only [if_pos rfl,VF,true_or,if_true,o,if_false]
      grind
     ·have:¬ l=g:=fun e=>q e.symm
      simp only [if_neg q,VF,this,false_or]
      grind
   rw [e F u,if_pos hl,<- hc i]
   grind
  | ray c hc hx hr a=>exact hr.elim
  | @div x j hj hl hx a =>
   obtain ⟨k,f,c,hc⟩:=a;exact ⟨k*j,WQ f hj,c,fun i=>by rw [<- hc i,aD]; grind⟩
 obtain ⟨k,f,c,hc⟩:=key hx;have y:∀ r∈F,c r=0:=fun r hr=>by
  have b:=hc (pv r);rw [A r hr] at b;have m:∀ (G:List V),(∀ g∈G,g∈F)->G.Nodup->(G.map fun s=>c s*at_ s (pv r)).sum=if r∈G then c r*at_ r (pv r) else 0:=by
   intro G
   induction G with
   | nil=>intro _ _; simp
   | cons g G v =>
    intro w hg;obtain ⟨o,p⟩:=XK.1 hg;simp only [Vb,Yg,v (fun x hx=>w x (Vi _ hx)) p];by_cases t:g=r
    ·subst t;simp [o]
    ·have z:¬ r=g:=fun e=>t e.symm;rw [h.clear_of (w g (Vm ..)) hr t];simp [z]
  have u:F.Nodup:=(h.clear.imp_of_mem fun {r s} hr hs hc e=>by
   subst e
   have:=(h.pos hr).2.1
   omega)
  rw [m F (fun g hg=>hg) u,if_pos hr] at b;rcases VJ.1 (show c r*at_ r (pv r)=0 by omega) with h1 | h1
  ·exact h1
  ·have:=(h.pos hr).2.1; omega
 intro i;have b:=hc i;have m:(F.map fun r=>c r*at_ r i).sum=0:=by
  have:(F.map fun r=>c r*at_ r i)=F.map fun _=>(0:Int):=W2 fun r hr=>by rw [y r hr]; simp
  rw [this]
  have:∀ G:List V,(G.map fun _=>(0:Int)).sum=0:=fun G=>by induction G with
   | nil=>rfl
   | cons g G a=>simp [a]
  exact this F
 rw [m] at b;rcases VJ.1 b with h1 | h1
 ·omega
 ·exact h1
def Ech.pivot_spn (h:Ech d F) {x:V} (z:x.length=d) (hx:Spn d (· ∈ F) x) {p:Nat} (hp:pivot x=some p):∃ r∈F,pv r=p:=by
 obtain ⟨k,u,v⟩:=pivot_some.1 hp;rw [z] at k v;by_cases hr:∃ r∈F,at_ x (pv r)≠0
 ·
  have ⟨r,m,l,D⟩:∃ r∈F,at_ x (pv r)≠0/\∀ s∈F,at_ x (pv s)≠0->s=r\/before (pv r) (pv s)=true:=by
   have:∀ (G:List V),G.Pairwise (fun r s=>before (pv r) (pv s)=true)->(∃ r∈G,at_ x (pv r)≠0)->∃ r∈G,at_ x (pv r)≠0/\∀ s∈G,at_ x (pv s)≠0->s=r\/before (pv r) (pv s)=true:=by
    intro G
    induction G with
    | nil=>intro _ h; obtain ⟨r,hr,_⟩:=h; cases hr
    | cons g G q =>
     intro hs B;obtain ⟨h1,h2⟩:=W9.1 hs;by_cases hg:at_ x (pv g)=0
     ·obtain ⟨r,hr,l⟩:=B;have I:r∈G:=by
       rcases VF.1 hr with rfl | hr
       ·exact absurd hg l
       ·exact hr
      obtain ⟨K,E,H,hm⟩:=q h2 ⟨r,I,l⟩;refine ⟨K,Vi _ E,H,fun s hs a=>?_⟩;rcases VF.1 hs with rfl | hs
      ·exact absurd hg a
      ·exact hm s hs a
     ·refine ⟨g,Vm ..,hg,fun s hs a=>?_⟩;rcases VF.1 hs with rfl | hs
      ·exact .inl rfl
      ·exact .inr (h1 s hs)
   exact this F h.sorted hr
  refine ⟨r,m,?_⟩;obtain ⟨q1,q2,q3⟩:=h.pos m;by_cases he:pv r=p
  ·exact he
  ·exfalso
   rcases qg q3 k he with hb | hb
   ·exact l (v _ q3 hb)
   ·
    have:∀ r∈F,at_ x (pv r)≠0->at_ r p=0:=fun s hs a=>by
     obtain ⟨t1,L,t3⟩:=h.pos hs;refine (pivot_some.1 t1).2.2 p (by rw [h.len s hs]; exact k) ?_;rcases D s hs a with rfl | hlt
     ·exact hb
     ·exact mo k q3 t3 hb hlt
    have key:∀ (G:List V) (y:V),y.length=d->Spn d (· ∈ F) y->(∀ g∈G,g∈F)->(∀ s∈F,s ∉ G->at_ y (pv s)=0)->(∀ s∈F,at_ y (pv s)≠0->at_ s p=0)->G.Nodup->at_ y p=0:=by
     intro G
     induction G with
     | nil=>intro y hy hs _ o _ _; exact h.spn_zero hs (fun s hs=>o s hs (by simp)) p
     | cons g G q =>
      intro y hy hs t o w n;obtain ⟨M,C⟩:=XK.1 n;have b:=t g (Vm ..);obtain ⟨t1,L,t3⟩:=h.pos b;have f:=h.len g b;have j:at_ (mix (at_ g (pv g)) y (-(at_ y (pv g))) g) p=0:=by
       refine q _ (mix_length hy f) (Spn.sum2 (fun x hx=>h.len x hx) hs (eO f b) _ _) (fun x hx=>t x (Vi _ hx)) (fun s i J=>?_) (fun s i a=>?_) C
       ·rw [al (hy.trans f.symm)];by_cases c:s=g
        ·subst c; grind
        ·rw [h.clear_of b i (fun e=>c e.symm),o s i (fun hm=>by rcases VF.1 hm with e | hm <;> first | exact c e | exact J hm)]; simp
       ·refine w s i fun e=>a ?_;rw [al (hy.trans f.symm),e];by_cases c:s=g
        ·subst c; rw [e]; simp
        ·rw [h.clear_of b i (fun e=>c e.symm)]; simp
      rw [al (hy.trans f.symm)] at j;by_cases A:at_ y (pv g)=0
      ·rw [A] at j;rcases VJ.1 (show at_ g (pv g)*at_ y p=0 by simpa using j) with h1 | h1
       ·omega
       ·exact h1
      ·rw [w g b A] at j;rcases VJ.1 (show at_ g (pv g)*at_ y p=0 by simpa using j) with h1 | h1
       ·omega
       ·exact h1
    have n:F.Nodup:=(h.clear.imp_of_mem fun {r s} hr hs hc e=>by
     subst e
     have:=(h.pos hr).2.1
     omega)
    exact u (key F x z hx (fun g hg=>hg) (fun s hs hn=>absurd hs hn) this n)
 ·exfalso
  exact u (h.spn_zero hx (fun r m=>YG.1 fun e=>hr ⟨r,m,e⟩) p)
def Ech.unique {G:List V} (h:Ech d F) (j:Ech d G) (hs:∀ x,Spn d (· ∈ F) x ↔ Spn d (· ∈ G) x):F=G:=by
 have sub:∀ {A B:List V},Ech d A->Ech d B->(∀ x,Spn d (· ∈ A) x ↔ Spn d (· ∈ B) x)->∀ r∈A,r∈B:=by
  intro A B hA c hs r hr;obtain ⟨p1,p2,p3⟩:=hA.pos hr;have f:=hA.len r hr;obtain ⟨s,g,l⟩:=c.pivot_spn f ((hs r).1 (eO f hr)) p1;obtain ⟨t1,n,t3⟩:=c.pos g;have k:=c.len s g;have t:∀ a∈A,a≠r->at_ s (pv a)=0:=fun a b hne=>by
   obtain ⟨s',q,e'⟩:=c.pivot_spn (hA.len a b) ((hs a).1 (eO (hA.len a b) b)) (hA.pos b).1;rw [<- e'];refine c.clear_of g q fun e=>hne ?_;subst e;exact hA.pv_inj b hr (e'.symm.trans l)
  rw [l] at n;have u:=hA.spn_zero (x:=mix (at_ s (pv r)) r (-(at_ r (pv r))) s) (Spn.sum2 (fun x hx=>hA.len x hx) (eO f hr) ((hs s).2 (eO k g)) _ _) (fun a b=>by
   rw [al (f.trans k.symm)];by_cases hne:a=r
   ·subst hne; grind
   ·rw [t a b hne,hA.clear_of hr b (fun e=>hne e.symm)]; simp)
  have:r=s:=vD (hA.cont r hr) (c.cont s g) n p2 (aO (by rw [ah f,ah k]) fun i=>by
   have:=u i
   rw [al (f.trans k.symm)] at this;rw [aD,aD]; grind)
  rw [this]; exact g
 have o:∀ x,x∈F ↔ x∈G:=fun x=>⟨sub h j hs x,sub j h (fun x=>(hs x).symm) x⟩
 have m:∀ {A:List V},Ech d A->A.Nodup:=fun hA=>hA.clear.imp_of_mem fun {r s} hr hs hc e=>by
  subst e
  have:=(hA.pos hr).2.1
  omega
 have p:F.Perm G:=(Zj (m h) (m j)).2 o;refine ZA (le:=fun r s=>before (pv r) (pv s)=true) (fun r s hr hs h1 h2=>?_) h.sorted j.sorted p
 exfalso
 have q1:=(h.pos hr).2.2;have q2:=(j.pos hs).2.2
 have:=mo q1 q2 q1 h1 h2
 rw [Cg] at this;cases this
def FF (h:Ech d F) {x y:V} (hx:x.length=d) (hy:y.length=d) (b:∀ r∈F,at_ x (pv r)=0) (e:∀ r∈F,at_ y (pv r)=0) (a:content x=1) (c:content y=1) {m n:Int} (hm:0<m) (hn:0<n) (hs:Spn d (· ∈ F) (mix m x (-n) y)):x=y:=by
 have f:=h.spn_zero hs fun r hr=>by rw [al (hx.trans hy.symm),b r hr,e r hr]; simp
 exact vD a c hm hn (aO (by rw [ah hx,ah hy]) fun i=>by
  have:=f i
  rw [al (hx.trans hy.symm)] at this;rw [aD,aD]; grind)
end
end Go.Proofs.YteaefaohjlmjdaaGreat.Lin
