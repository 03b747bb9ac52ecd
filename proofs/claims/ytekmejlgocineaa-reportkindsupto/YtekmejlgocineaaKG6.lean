/- A part. -/
import Derived.Test.YtekmejlgocineaaNat
namespace Go.Proofs.Ytekmejlgocineaa.Ev
open Go Nn
set_option linter.all false
theorem bP {tab:Nat->Option aN} {rd:Bool} {c:ACode} {T:Tm} {H:Heap} {K:Ex->Tm->Heap->Prop} (p:Tm->Heap->Prop) (hp:p T H) (h:∀ T' H',p T' H'->WB tab rd c T' H' K):WB tab rd c T H K:=h T H hp
section
variable {tab:Nat->Option aN} {H:Heap}
set_option maxHeartbeats 2000000 in
theorem xd (C:Code tab) (hw:Wf H) {g:Gx} {d:Cp} (hgd:∀ x∈d.args,km x) (hlow:d.args.length<4611686018427387904) :
  Ans tab (.fn iz [.agg (dW g),.agg (fV d)]) H fun v H'=>v=.bool (oR g.vars g.arrays.length d)/\Kp H H':=by
 have hrs:c_flow_deed.results=[(4,none)]:=rfl
 have ag:=fun H=>dZ (ty:=au) (H:=H) d.nl d.args
 refine oY C.q26 rfl rfl zU fun T hl ga=>?_
 have hl:T.length=75:=hl
 have g0:aa T 0=.agg (dW g):=ga 0 (by simp)
 have g1:aa T 1=.agg (fV d):=ga 1 (by simp)
 clear ga
 have bx:=E4 d
 have la:=gq d.nl d.args
 have ls:=jc g
 unfold oR
 obtain ⟨k,hk⟩:∃ k,k=d.kind:=⟨_,rfl⟩
 obtain ⟨n,hn⟩:∃ n,n=d.n:=⟨_,rfl⟩
 obtain ⟨c,hc⟩:∃ c,c=d.cmp:=⟨_,rfl⟩
 obtain ⟨l,hl'⟩:∃ l,l=d.args:=⟨_,rfl⟩
 obtain ⟨av,hav⟩:∃ av,av=mZ d.nl d.args:=⟨_,rfl⟩
 obtain ⟨ar,har⟩:∃ ar,ar=jN g:=⟨_,rfl⟩
 have bg:=ki g
 rw [<- hav] at la bx ag
 rw [<- hl'] at la ag hlow hgd
 rw [<- har] at ls bg
 rw [<- hk,<- hn,<- hc] at bx
 rw [<- hk,<- hn,<- hc,<- hl']
 have tg:aB [.int .i64 g.vars,ar,.int .i64 g.nodes,.int .i64 g.start,.int .i64 g.last,lg g] 0 (some 6)=some (.agg (dW g)):=by rw [har]; rfl
 clear hk hn hc hl' hav
 obtain ⟨A,hA⟩:∃ A,A=sG k:=⟨_,rfl⟩
 obtain ⟨M,hM⟩:∃ M,M=rL g.vars g.arrays.length k:=⟨_,rfl⟩
 obtain ⟨m9,hm9⟩:∃ m,m=rM g.vars g.arrays.length:=⟨_,rfl⟩
 obtain ⟨a9,ha9⟩:∃ m,m=sH:=⟨_,rfl⟩
 have ta:1<=k->k<=8->aB a9 k none=some (.int .i64 (A:Int)):=fun h1 h2=>by rw [ha9,hA]; exact A7 h1 h2
 have tm:1<=k->k<=8->aB m9 k none=some (.int .i64 M):=fun h1 h2=>by rw [hm9,hM]; exact AZ h1 h2
 have hba:=Ck
 have hbm:=Cj g.vars g.arrays.length
 have hsa:=fun ty=>Bc ty
 have hsm:=fun ty=>Bb ty g.vars g.arrays.length
 rw [<- ha9] at hba
 rw [<- hm9] at hbm
 simp only [<- ha9] at hsa
 simp only [<- hm9] at hsm
 clear hm9 ha9
 rw [<- hA,<- hM]
 have no:∀ (hF:¬ ((1<=k/\k<=8)/\(0<=n/\n<M)/\l.length=A/\ef k c)),(decide ((1<=k/\k<=8)/\(0<=n/\n<M)/\l.length=A/\ef k c) && l.all (fh g.vars g.arrays.length))=false:=fun hF=>by rw [decide_eq_false hF]; rfl
 have yes:∀ (hF:(1<=k/\k<=8)/\(0<=n/\n<M)/\l.length=A/\ef k c),(decide ((1<=k/\k<=8)/\(0<=n/\n<M)/\l.length=A/\ef k c) && l.all (fh g.vars g.arrays.length))=l.all (fh g.vars g.arrays.length):=fun hF=>by rw [decide_eq_true hF]; rfl
 refine aG ?_
 refine zW (gD hl g0 g1 bg bx @az) ?_
 obtain ⟨X,hX⟩:∃ X,X=((H.up 3).put H.next (.cells [.int .i64 g.vars,ar,.int .i64 g.nodes,.int .i64 g.start,.int .i64 g.last,lg g] ah true)).put (H.next+1) (.cells [.int .u8 (k:Int),.int .i64 n,.int .u8 (c:Int),av] bR true):=⟨_,rfl⟩
 rw [<- hX]
 have kX:Kp H X:=by rw [hX]; exact zK
 have dG:X.get H.next=some (.cells [.int .i64 g.vars,ar,.int .i64 g.nodes,.int .i64 g.start,.int .i64 g.last,lg g] ah true):=by rw [hX,bo zO,aq]
 have dX:X.get (H.next+1)=some (.cells [.int .u8 (k:Int),.int .i64 n,.int .u8 (c:Int),av] bR true):=by rw [hX,aq]
 have nX:X.next=H.next+3:=by rw [hX]; rfl
 clear hX
 have wX:=kX.wf
 refine aG ?_
 refine al ?_
 refine zD (pd hl dX dG hba hbm hsa hsm ls @az) ?_
 refine bP (fun T' Y=>T'.length=75/\aa T' 2=.ptr H.next 0/\aa T' 3=.ptr (H.next+1) 0/\aa T' 5=.ptr (X.next+9) 0/\aa T' 6=.ptr (X.next+10) 0/\Y.get (X.next+9)=some (.cells a9 nf true)/\Y.get (X.next+10)=some (.cells m9 nf true)/\Kp X Y) ?_ ?_
 ·have hgn:∀ (G:Heap) (e:Ent),(G.put (X.next+10) e).get (X.next+9)=G.get (X.next+9):=fun G e=>bo zO
  refine zW (bb hl hgn) ?_
  exact zK
 clear hba hbm hsa hsm hl g0 g1
 rintro T Y ⟨hl,t2,t3,t5,t6,d9,d10,kY⟩
 have dGY:=kY.get dG
 have dXY:=kY.get dX
 have wY:=kY.wf
 have kHY:=kX.trans kY
 have l9:=wY _ _ d9
 have l10:=wY _ _ d10
 refine cu (fun T' H'=>((1<=k/\k<=8)/\(0<=n/\n<M)/\l.length=A)/\Kp Y H') rfl ?_ ?_
 ·by_cases c1:k<1
  ·have c1':(k:Int)<1:=by omega
   rw [no zO]
   refine zW hl ?_
   refine al ?_
   refine zX (mU hl t2 t3 t5 t6 dXY dGY d9 d10 c1' la @fF @ad @af hrs) ?_
   exact zK
  have c1':¬ (k:Int)<1:=by omega
  by_cases c2:8<k
  ·have c2':(8:Int)<(k:Int):=by omega
   rw [no zO]
   refine zW hl ?_
   refine al ?_
   refine zX (lX hl t2 t3 t5 t6 dXY dGY d9 d10 c1' c2' la @fF @ad @af hrs) ?_
   exact zK
  have c2':¬ (8:Int)<(k:Int):=by omega
  have ia9:gK 9 1 (.ptr (X.next+9) 0) (.int .u8 (k:Int))=some (.ptr (X.next+9) k):=by rw [lJ zO,Nat.mul_one,Nat.zero_add]
  have ia10:gK 9 1 (.ptr (X.next+10) 0) (.int .u8 (k:Int))=some (.ptr (X.next+10) k):=by rw [lJ zO,Nat.mul_one,Nat.zero_add]
  have ta':=ta zO zO
  have tm':=tm zO zO
  refine zW hl ?_
  refine al ?_
  simp -dsimp (maxSteps:=1000000) (disch:=(first | omega | assumption | exact ay _ | exact aA _ _ | exact aM | exact bh _ _ _ | exact aO _ _ | exact aP _ _ _ _ _ _ | exact bd _ _ | exact aR _)) only [↓iJ,iI,↓Cu,Ct,Nat.reduceLT,Nat.reduceEqDiff,Nat.reduceAdd,↓reduceIte,reduceCtorEq,Nat.reduceBEq,Int.reduceEq,Int.reduceLT,Int.reduceLE,Int.reduceAdd,Int.reduceSub,hl,t2,t3,t5,t6,dXY,dGY,d9,d10,c1',c2',la,fF,ia9,ia10,ta',tm',↓dF,cJ,↓lj]
  refine AnsH.eq (fw C zF) fun H2 hk2=>?_
  obtain ⟨k2,_,_⟩:=zT Y zK hk2
  have w2:=hk2.wf
  have le_hk2:=hk2.le
  have kH2:=kHY.trans k2
  have dX2:=k2.get dXY
  have d92:=k2.get d9
  have d102:=k2.get d10
  by_cases c3:0<=n/\n<M
  ·by_cases c5:l.length=A
   ·have c5':(l.length:Int)=(A:Int):=by omega
    simp -dsimp (maxSteps:=1000000) (disch:=(first | omega | assumption | exact ay _ | exact aA _ _ | exact aM | exact bh _ _ _ | exact aO _ _ | exact aP _ _ _ _ _ _ | exact bd _ _ | exact aR _)) only [↓iJ,iI,↓Cu,Ct,Nat.reduceLT,Nat.reduceEqDiff,Nat.reduceAdd,↓reduceIte,reduceCtorEq,Nat.reduceBEq,Int.reduceEq,Int.reduceLT,Int.reduceLE,Int.reduceAdd,Int.reduceSub,hl,t2,t3,t5,t6,dXY,dGY,d9,d10,dX2,d92,d102,c1',c2',c3,c5',la,fF,ia9,ia10,ta',tm',↓dF,cJ,↓lj,ad,af,hrs]
    exact ⟨⟨by omega,c5⟩,zK⟩
   ·have c5':¬ (l.length:Int)=(A:Int):=by omega
    rw [no zO]
    simp -dsimp (maxSteps:=1000000) (disch:=(first | omega | assumption | exact ay _ | exact aA _ _ | exact aM | exact bh _ _ _ | exact aO _ _ | exact aP _ _ _ _ _ _ | exact bd _ _ | exact aR _)) only [↓iJ,iI,↓Cu,Ct,Nat.reduceLT,Nat.reduceEqDiff,Nat.reduceAdd,↓reduceIte,reduceCtorEq,Nat.reduceBEq,Int.reduceEq,Int.reduceLT,Int.reduceLE,Int.reduceAdd,Int.reduceSub,hl,t2,t3,t5,t6,dXY,dGY,d9,d10,dX2,d92,d102,c1',c2',c3,c5',la,fF,ia9,ia10,ta',tm',↓dF,cJ,↓lj,ad,af,hrs]
    exact zK
  ·rw [no zO]
   simp -dsimp (maxSteps:=1000000) (disch:=(first | omega | assumption | exact ay _ | exact aA _ _ | exact aM | exact bh _ _ _ | exact aO _ _ | exact aP _ _ _ _ _ _ | exact bd _ _ | exact aR _)) only [↓iJ,iI,↓Cu,Ct,Nat.reduceLT,Nat.reduceEqDiff,Nat.reduceAdd,↓reduceIte,reduceCtorEq,Nat.reduceBEq,Int.reduceEq,Int.reduceLT,Int.reduceLE,Int.reduceAdd,Int.reduceSub,hl,t2,t3,t5,t6,dXY,dGY,d9,d10,c1',c2',c3,la,fF,ia9,ia10,ta',tm',↓dF,cJ,↓lj,ad,af,hrs]
   exact zK
 clear ta tm la
 rintro T1 G hs ⟨⟨hk18,hn0,hlA⟩,kG⟩
 have hl1:T1.length=75:=hs.len.trans hl
 have u2:aa T1 2=.ptr H.next 0:=(hs.at_ 2 zU).trans t2
 have u3:aa T1 3=.ptr (H.next+1) 0:=(hs.at_ 3 zU).trans t3
 have dX1:=kG.get dXY
 have dG1:=kG.get dGY
 have kHG:Kp H G:=(kX.trans kY).trans kG
 have wG:=kG.wf
 clear dX dG dXY dGY d9 d10 t2 t3 t5 t6 hl hs
 refine cu (fun T' H'=>ef k c/\Kp G H') rfl ?_ ?_
 ·by_cases c6:k=6
  ·have c6':(k:Int)=6:=by omega
   by_cases c7:c<3
   ·have c7':(c:Int)<3:=by omega
    rw [no (by unfold ef; rw [if_pos c6]; omega)]
    refine zW (pd hl1 u2 u3 dX1 c6' c7' @ad @af hrs) ?_
    exact zK
   have c7':¬ (c:Int)<3:=by omega
   by_cases c8:8<c
   ·have c8':(8:Int)<(c:Int):=by omega
    rw [no (by unfold ef; rw [if_pos c6]; omega)]
    refine zW (fg hl1 u2 u3 dX1 c6' c7' c8' @ad @af hrs) ?_
    exact zK
   have c8':¬ (8:Int)<(c:Int):=by omega
   refine zW (fg hl1 u2 u3 dX1 c6' c7' c8' @ad @af hrs) ?_
   exact ⟨by unfold ef; rw [if_pos c6]; omega,zK⟩
  ·have c6':¬ (k:Int)=6:=by omega
   by_cases c9:c=0
   ·have c9':(c:Int)=0:=by omega
    refine zW (pd hl1 u2 u3 dX1 c6' c9' @ad @af hrs) ?_
    exact ⟨by unfold ef; rw [if_neg c6]; exact c9,zK⟩
   ·have c9':¬ (c:Int)=0:=by omega
    rw [no (by unfold ef; rw [if_neg c6]; omega)]
    refine zW (pd hl1 u2 u3 dX1 c6' c9' @ad @af hrs) ?_
    exact zK
 rintro T2 G2 hs2 ⟨hcmp,kG2⟩
 have hl2:T2.length=75:=hs2.len.trans hl1
 have v2:aa T2 2=.ptr H.next 0:=(hs2.at_ 2 zU).trans u2
 have v3:aa T2 3=.ptr (H.next+1) 0:=(hs2.at_ 3 zU).trans u3
 have dG2:=kG2.get dG1
 have dX2:=kG2.get dX1
 have k2:Kp H G2:=kHG.trans kG2
 have le_k2:=k2.le
 have w2:=kG2.wf
 rw [yes ⟨hk18,hn0,hlA,hcmp⟩]
 clear dX1 dG1 u2 u3 hl1 hs2 no yes kG
 refine WC.wb ?_
 refine zW (gD hl2 v2 v3 dG2 dX2 tg) ?_
 refine AnsH.use (xc C zF) ?_
 rintro v H3 ⟨b1,b2,rfl,e1,e2,hk3⟩
 obtain ⟨k3,_,_⟩:=zT H zK hk3
 obtain ⟨k23,_,_⟩:=zT G2 zK hk3
 have w3:=hk3.wf
 have le_hk3:=hk3.le
 have dX3:=k23.get dX2
 have dG3:=k23.get dG2
 have hfree:H3.get (G2.next+2)=none:=by
  rw [hk3.same _ (by show G2.next+2<G2.next+4; omega),qC]
  cases h:G2.get (G2.next+2) with
  | none=>rfl
  | some e=>have:=w2 _ _ h; omega
 have n1:b1≠G2.next+2:=fun e=>by rw [e,hfree] at e1; cases e1
 have n2:b2≠G2.next+2:=fun e=>by rw [e,hfree] at e2; cases e2
 have hlt:G2.next+4<=H3.next:=hk3.le
 refine zW (gD hl2 v2 v3 dX3 dG3 @fF) ?_
 obtain ⟨Z,hZ⟩:∃ Z,Z=((H3.up 6).put (G2.next+2) (Ent.cells [AV.nilFn] bI true)).put (G2.next+2) (Ent.cells [AV.fn (Fn.func bT) [] [AV.ptr b1 0,AV.ptr b2 0]] bI true):=⟨_,rfl⟩
 rw [<- hZ]
 have kZ:Kp G2 Z:=by rw [hZ]; exact (zK)
 have y1:Z.get b1=H3.get b1:=by rw [hZ,bo n1,bo n1,qC]
 have y2:Z.get b2=H3.get b2:=by rw [hZ,bo n2,bo n2,qC]
 have z1:=y1.trans e1
 have z2:=y2.trans e2
 have zzf:Z.get (G2.next+2)=some (Ent.cells [AV.fn (Fn.func bT) [] [AV.ptr b1 0,AV.ptr b2 0]] bI true):=by rw [hZ,aq]
 have wZ:=kZ.wf
 clear hZ
 refine AnsH.eq (jm C wZ rfl (ag _) hlow (fun y=>!fh g.vars g.arrays.length y) fun y hy H' cs hk hr=>?_) fun H4 hk4=>?_
 ·cases hr
  exact qG C hk.wf (hk.get zzf) fun H'' hk''=>zA C _ y (Nat.le_refl _) (hgd y hy) hk''.wf ((hk.trans hk'').get z1) ((hk.trans hk'').get z2)
 have k4:Kp H H4:=k2.trans (kZ.trans hk4)
 have le_k4:=k4.le
 have w4:=k4.wf
 refine zW (bb hl2 hrs) ?_
 refine ⟨?_,zK⟩
 congr 1
 rw [Bool.eq_iff_iff]
 simp
end
def qP {α:Type} (p:α->α->Bool):List α->List α->Bool
 | [],[]=>true
 | x :: a,y :: b=>p x y && qP p a b
 | _,_=>false
theorem qN {α:Type} {p:α->α->Bool}:∀ {a b:List α},a.length≠b.length->qP p a b=false
 | [],[],h=>absurd rfl h
 | [],y :: b,_=>rfl
 | x :: a,[],_=>rfl
 | x :: a,y :: b,h=>by
  show (p x y && qP p a b)=false
  rw [qN (a:=a) (b:=b) (fun e=>h (by simp [e]))]; simp
theorem qO {α:Type} {p:α->α->Bool}:∀ {a b:List α} (he:a.length=b.length),(∀ i (h:i<a.length),p a[i] (b[i]'zO)=true)->qP p a b=true
 | [],[],_,_=>rfl
 | [],y :: b,he,_=>by simp at he
 | x :: a,[],he,_=>by simp at he
 | x :: a,y :: b,he,h=>by
  show (p x y && qP p a b)=true
  rw [show p x y=true from h 0 (by simp),qO (a:=a) (b:=b) (by simpa using he) (fun i hi=>h (i+1) (by simp; omega))]; rfl
theorem ol {α:Type} {p:α->α->Bool}:∀ {a b:List α} {i:Nat} (ha:i<a.length) (hb:i<b.length),p a[i] b[i]=false->qP p a b=false
 | x :: a,y :: b,0,_,_,h=>by
  show (p x y && qP p a b)=false
  rw [show p x y=false from h]; rfl
 | x :: a,y :: b,i+1,ha,hb,h=>by
  show (p x y && qP p a b)=false
  rw [ol (a:=a) (b:=b) (i:=i) (by simpa using ha) (by simpa using hb) h]; simp
mutual
def gn:Tx->Tx->Bool
 | .mk k _ n _ l _,y=>decide (k=y.kind) && (decide (n=y.n) && jP l y.args)
def jP:List Tx->List Tx->Bool
 | [],[]=>true
 | x :: a,y :: b=>gn x y && jP a b
 | [],_ :: _=>false
 | _ :: _,[]=>false
end
theorem pL (x y:Tx):gn x y=(decide (x.kind=y.kind) && (decide (x.n=y.n) && jP x.args y.args)):=by
 cases x; cases y; simp only [gn,Tx.kind,Tx.n,Tx.args]; congr
theorem mA:∀ a b:List Tx,jP a b=qP gn a b
 | [],[]=>by simp [jP,qP]
 | [],y :: b=>by simp [jP,qP]
 | x :: a,[]=>by simp [jP,qP]
 | x :: a,y :: b=>by simp [jP,qP,mA a b]
def md (c:Nat):Nat:=if c<=6 then 9-c else 15-c
theorem mN {ty:Nat} {v:AV} {l:List Tx} (hs:∀ H,SlV ES ty H v l) {i:Nat} (hi:i<l.length) :
  a7 5 v (.int .i64 (i:Int))=some (br v (i*5))/\(∀ o off,Al off (br v o)=some (br v (o+off))) /\
  (∀ H,bC H none (br v (i*5))=some (.int .u8 (l[i].kind:Int)))/\(∀ H,bC H none (br v (i*5+1))=some (.str l[i].name))/\(∀ H,bC H none (br v (i*5+2))=some (.int .i64 l[i].n)) /\
  (∀ H,bC H none (br v (i*5+3))=some (mZ l[i].nl l[i].args))/\(∀ H,bC H (some 5) (br v (i*5))=some (.agg (dJ l[i]))):=by
 have h:=fun H=>(hs H).at (List.getElem?_eq_getElem hi)
 refine ⟨SlV.idx (hs default) .i64 i hi,fun o off=>SlV.fa (hs default) zO off o,fun H=>?_,fun H=>?_,fun H=>?_,fun H=>?_,fun H=>?_⟩ <;> obtain ⟨cs,rfl,-,h1,h2⟩:=h H
 ·exact h1 0 _ (by rw [gS]; rfl)
 ·exact h1 1 _ (by rw [gS]; rfl)
 ·exact h1 2 _ (by rw [gS]; rfl)
 ·exact h1 3 _ (by rw [gS]; rfl)
 ·exact h2
theorem eT {ty:Nat} {H:Heap} {v:AV} {l:List Edx} (hs:SlV CB ty H v l) {i:Nat} (hi:i<l.length) :
  a7 7 v (.int .i64 (i:Int))=some (br v (i*7))/\(∀ o off,Al off (br v o)=some (br v (o+off))) /\
  bC H none (br v (i*7))=some (.int .i64 l[i].src)/\bC H none (br v (i*7+1))=some (.int .i64 l[i].dst)/\bC H none (br v (i*7+2))=some (.int .u8 (l[i].act.kind:Int)) /\
  bC H none (br v (i*7+3))=some (.int .i64 l[i].act.n)/\bC H none (br v (i*7+4))=some (.int .u8 (l[i].act.cmp:Int))/\bC H none (br v (i*7+5))=some (mZ l[i].act.nl l[i].act.args) /\
  bC H (some 7) (br v (i*7))=some (.agg (eY l[i]))/\bC H (some 4) (br v (i*7+2))=some (.agg (fV l[i].act)):=by
 obtain ⟨cells,h1,h2,h3,h4⟩:=hs
 have hs:SlV CB ty H v l:=⟨cells,h1,h2,h3,h4⟩
 have hR:(cells.drop (i*7)).take 7=eY l[i]:=h4 i _ (List.getElem?_eq_getElem hi)
 have h3:cells.length=l.length*7:=h3
 obtain ⟨cs,rfl,-,g1,g2⟩:=hs.at (List.getElem?_eq_getElem hi)
 refine ⟨SlV.idx hs .i64 i hi,fun o off=>SlV.fa hs zO off o,g1 0 _ rfl,g1 1 _ rfl,g1 2 _ rfl,g1 3 _ rfl,g1 4 _ rfl,g1 5 _ rfl,g2,Rd.load h1 zU ?_⟩
 have e:((eY l[i]).drop 2).take 4=fV l[i].act:=rfl
 simp only [aB]
 rw [if_pos zO,<- e,<- hR,List.drop_take,List.take_take,List.drop_drop]
 rfl
theorem ko {cs ds:List AV} {ty n:Nat} (h:ds.length=n) (h':cs.length=n) (h1:ds.all AV.one=true):sM (some (.cells cs ty true)) n 0 (.agg ds)=some (.cells ds ty true):=by
 show (if (AV.agg ds).cells.length=n/\0+n<=cs.length/\(AV.agg ds).cells.all AV.one=true then some (Ent.cells (cs.take 0++(AV.agg ds).cells++cs.drop (0+n)) ty true) else none)=_
 have e:(AV.agg ds).cells=ds:=rfl
 rw [e,if_pos ⟨h,by omega,h1⟩,List.drop_eq_nil_of_le zO]
 simp
theorem rm {ds:List AV} {n:Nat} (h:ds.length=n):aB ds 0 (some n)=some (.agg ds):=by
 simp only [aB]
 rw [if_pos zO,List.drop_zero,List.take_of_length_le zO]
abbrev FF:List AV:=[.int .u8 0,.str ⟨#[]⟩,.int .i64 0,.nilSl,.int .i64 0]
section
variable {tab:Nat->Option aN} {H:Heap}
theorem lU (C:Code tab) (hw:Wf H) {fi:Nat} {s t:AV} {ty ty':Nat} {a b:List Tx} (ha:∀ H,SlV ES ty H s a) (hb:∀ H,SlV ES ty' H t b) (hlow:a.length<4611686018427387904) (hlow':b.length<4611686018427387904) (p:Tx->Tx->Bool)
  (hf:∀ x∈a,∀ y∈b,∀ H',Kp H H'->Ans tab (.fn fi [.agg (dJ x),.agg (dJ y)]) H' fun v H2=>v=.bool (p x y)/\Kp H' H2) :
  Ans tab (.fn ai [s,t,.fn (.func fi) [] []]) H fun v H'=>v=.bool (qP p a b)/\Kp H H':=by
 refine qE C.q29 zU fun T hl g0 g1 g2=>?_
 by_cases he:a.length=b.length
 ·have he':(a.length:Int)=(b.length:Int):=by omega
  refine zW (lf hl g0 g1 g2 ((ha H).lenV) ((hb H).lenV) he') ?_
  refine fI H [] (fun j _ _=>∀ k (h:k<a.length),k<j->p a[k] (b[k]'zO)=true) (a:=0) (N:=a.length) rfl (by refine zW (dz hl g0 g1 g2) ?_; rfl) (zV (eU hl g0 g1 g2 he')) (Nat.zero_le _) zO (by simp only [List.length_set,hl]; rfl) rfl (fun _ _ _ _ h=>h) zK (fun k _ h=>by omega) ?_ ?_
  ·intro j T1 H1 _ hj hl1 hi1 hs1 hk1 hP
   have w1:=hk1.wf
   have le_hk1:=hk1.le
   have t0:aa T1 0=s:=(hs1.at_ 0 zU).trans (zV (bb hl g0))
   have t1:aa T1 1=t:=(hs1.at_ 1 zU).trans (zV (eU hl g0 g1 g2 g1))
   have t2:aa T1 2=.fn (.func fi) [] []:=(hs1.at_ 2 zU).trans (zV (eU hl g0 g1 g2 g2))
   have t15:aa T1 15=s:=(hs1.at_ 15 zU).trans (zV (dz hl g0 g1 g2))
   obtain ⟨ix,-,-,-,-,-,ld⟩:=mN ha hj
   obtain ⟨iy,-,-,-,-,-,le⟩:=mN hb (i:=j) zO
   simp only [List.length_set,hl] at hl1
   have sx:=fun x=>ko (ty:=au) (cs:=FF) (fU x) rfl (jE x)
   have tx:=fun x=>rm (fU x)
   refine zW (dC hl1 t0 t1 t2 t15 hi1 ix ld iy le sx tx) ?_
   refine AnsH.eq (hf _ (List.getElem_mem hj) _ (List.getElem_mem _) _ zK) fun H2 hk2=>?_
   obtain ⟨k2,_,_⟩:=zT H zK hk2
   cases hp:p a[j] (b[j]'zO) with
   | true =>
    refine zW hl1 ?_
    refine ⟨zK,fun k h hk=>?_⟩
    by_cases e:k=j
    ·subst e; exact hp
    ·exact hP k h zO
   | false =>
    refine zW hl1 ?_
    exact ⟨by rw [ol hj zO hp],zK⟩
  ·intro T1 H1 hl1 hs1 hk1 hP
   simp only [List.length_set,hl] at hl1
   refine zW hl1 ?_
   exact ⟨by rw [qO he fun k h=>hP k h h],zK⟩
 ·have he':¬ (a.length:Int)=(b.length:Int):=by omega
  rw [qN he]
  refine zW (lf hl g0 g1 g2 ((ha H).lenV) ((hb H).lenV) he') ?_
  exact zK
theorem tQ (C:Code tab):∀ (m:Nat) (x:Tx),SizeOf.sizeOf x<=m->km x->∀ (y:Tx),km y->∀ {H:Heap},Wf H->Ans tab (.fn fS [.agg (dJ x),.agg (dJ y)]) H fun v H'=>v=.bool (gn x y)/\Kp H H':=by
 intro m
 induction m with
 | zero=>intro x hx; cases x; simp at hx
 | succ m ih =>
  intro x hx hlx y hly H hw
  obtain ⟨hlow,hll⟩:=(ni x).1 hlx
  obtain ⟨hlow',hll'⟩:=(ni y).1 hly
  rw [pL,mA]
  refine i9 C.q30 zU fun T hl g0 g1=>?_
  have bx:=t9 x
  have by_:=t9 y
  by_cases h1:x.kind=y.kind
  ·have h1':(x.kind:Int)=(y.kind:Int):=by omega
   by_cases h2:x.n=y.n
   ·rw [decide_eq_true h1,decide_eq_true h2]
    refine zW (jS hl g0 g1 bx by_ h1' h2 @fF) ?_
    refine AnsH.eq (lU C zF (fun _=>dZ au _ _ _) (fun _=>dZ au _ _ _) hlow hlow' gn fun z hz w hw' H' hk=>ih z (by have:=pX hz; omega) ((iR _).1 hll z hz) w ((iR _).1 hll' w hw') hk.wf) fun H2 hk2=>?_
    refine zW (fe hl g0 g1) ?_
    exact Kp.trans zK hk2
   ·rw [decide_eq_true h1,decide_eq_false h2]
    refine zW (jS hl g0 g1 bx by_ h1' h2 @fF) ?_
    exact zK
  ·have h1':¬ (x.kind:Int)=(y.kind:Int):=by omega
   rw [decide_eq_false h1]
   refine zW (lf hl g0 g1 bx by_ h1' @fF) ?_
   exact zK
end
theorem lm (x:Tx):SizeOf.sizeOf x.args<SizeOf.sizeOf x:=by
 cases x with
 | mk k s n nl l p =>
  simp only [Tx.args,Tx.mk.sizeOf_spec]
  omega
abbrev Fx:List AV:=[.int .u8 0,.int .u8 0,.int .u8 0,.int .u8 0,.int .u8 0,.int .u8 0,.int .u8 0,.int .u8 0,.int .u8 0]
def ED:List AV:=[.int .u8 0,.int .u8 0,.int .u8 0,.int .u8 6,.int .u8 5,.int .u8 4,.int .u8 3,.int .u8 8,.int .u8 7]
theorem D7:gm Fx [((3,1),.int .u8 6),((6,1),.int .u8 3),((4,1),.int .u8 5),((5,1),.int .u8 4),((7,1),.int .u8 8),((8,1),.int .u8 7)]=some (.agg ED):=by
 unfold gm Fx
 iterate 6 rw [gi (aA _ _) (by simp)]
 rfl
theorem DL {c:Nat} (h1:3<=c) (h2:c<=8):Ei 9 1 none (.agg ED) (.int .u8 (c:Int))=some (.int .u8 (md c:Int)):=by
 have:c=3\/c=4\/c=5\/c=6\/c=7\/c=8:=by omega
 rcases this with rfl | rfl | rfl | rfl | rfl | rfl <;> rfl
theorem DO:cD [.int .u8 0,.int .u8 0,.int .u8 0,.int .u8 0,.int .u8 0,.int .u8 0] [((0,1),.int .u8 6),((1,1),.int .u8 5),((2,1),.int .u8 4),((3,1),.int .u8 3),((4,1),.int .u8 8),((5,1),.int .u8 7)]=some [.int .u8 6,.int .u8 5,.int .u8 4,.int .u8 3,.int .u8 8,.int .u8 7]:=by
 iterate 6 rw [gi (aA _ _) (by simp)]
 rfl
section
variable {tab:Nat->Option aN} {H:Heap}
set_option maxHeartbeats 2000000 in
theorem rA (C:Code tab):∀ (m:Nat) (a:List Tx),SizeOf.sizeOf a<=m->(∀ x∈a,km x)->a.length<4611686018427387904->∀ (b:List Tx) (nl nl':Bool) {H:Heap},Wf H ->
  Ans tab (.fn bY [mZ nl a,mZ nl' b]) H fun v H'=>v=.bool (qP gn a b)/\Kp H H':=by
 intro m
 induction m with
 | zero=>intro a ha; cases a <;> simp at ha
 | succ m ih =>
  intro a hm hla hlow b nl nl' H hw
  have hrs:c_facetroomref13_alike.results=[(4,none)]:=rfl
  have sa:=fun H=>dZ au H nl a
  have sb:=fun H=>dZ au H nl' b
  have la:=gq nl a
  have lb:=gq nl' b
  obtain ⟨s,hs⟩:∃ s,s=mZ nl a:=⟨_,rfl⟩
  obtain ⟨t,ht⟩:∃ s,s=mZ nl' b:=⟨_,rfl⟩
  rw [<- hs] at sa la ⊢
  rw [<- ht] at sb lb ⊢
  clear hs ht
  refine i9 C.q44 zU fun T hl g0 g1=>?_
  by_cases he:a.length=b.length
  ·have he':(a.length:Int)=(b.length:Int):=by omega
   refine zW (gD hl g0 g1 la lb he') ?_
   refine aQ H [5] (fun r vs H'=>∃ i:Nat,vs=[.int .i64 (i:Int)]/\i+r=a.length/\∀ q (h:q<a.length),q<i->gn a[q] (b[q]'zO)=true) a.length (by simp only [List.length_set]; exact hl) rfl zK ⟨0,by refine zW (fe hl g0 g1) ?_; rfl,by omega,fun q _ h=>by omega⟩ ?_
   rintro r T3 H3 hl3 hs3 hk3 ⟨i,hv,hik,hP⟩
   have w3:=hk3.wf
   have le_hk3:=hk3.le
   simp only [List.map_cons,List.map_nil,List.cons.injEq,and_true] at hv
   have y0:aa T3 0=s:=(hs3.at_ 0 zU).trans (zV (bb hl g0))
   have y1:aa T3 1=t:=(hs3.at_ 1 zU).trans (zV (dz hl g0 g1 g1))
   by_cases hi:i<a.length
   ·have hii:(i:Int)<(b.length:Int):=by omega
    obtain ⟨ix,fx,x0,-,x2,x3,-⟩:=mN sa hi
    obtain ⟨iy,fy,z0,-,z2,z3,-⟩:=mN sb (i:=i) zO
    have e:IntKind.i64.wrap ((i:Int)+1)=((i+1:Nat):Int):=by rw [ae] <;> omega
    refine zW (jS hl3 hv y0 y1 la lb hii he') ?_
    refine al ?_
    have hq:=pL a[i] (b[i]'zO)
    rw [mA] at hq
    by_cases h1:a[i].kind=(b[i]'zO).kind
    ·have h1':(a[i].kind:Int)=((b[i]'zO).kind:Int):=by omega
     by_cases h2:a[i].n=(b[i]'zO).n
     ·refine zX (lX hl3 hv y0 y1 ix fx x0 x2 x3 iy fy z0 z2 z3 h1' h2) ?_
      obtain ⟨h3,h4⟩:=(ni _).1 (hla _ (List.getElem_mem hi))
      refine AnsH.eq (ih a[i].args (by have:=List.sizeOf_lt_of_mem (List.getElem_mem hi); have:=lm a[i]; omega) ((iR _).1 h4) h3 (b[i]'zO).args _ _ zF) fun H4 hk4=>?_
      obtain ⟨k34,_,_⟩:=zT H3 zK hk4
      have k4:Kp H H4:=hk3.trans k34
      have le_k4:=k4.le
      have w4:=hk4.wf
      have le_hk4:=hk4.le
      rw [decide_eq_true h1,decide_eq_true h2,Bool.true_and,Bool.true_and] at hq
      cases hp:qP gn a[i].args (b[i]'zO).args with
      | true =>
       refine zX (lX hl3 hv y0 y1 ix fx x0 x2 x3 iy fy z0 z2 z3 h1' h2) ?_
       refine zW (fe hl3 hv e) ?_
       refine ⟨zK,r-1,by omega,i+1,rfl,by omega,fun q h hqi=>?_⟩
       by_cases eq:q=i
       ·subst eq; rw [hq,hp]
       ·exact hP q h zO
      | false =>
       refine zX (lX hl3 hv y0 y1 ix fx x0 x2 x3 iy fy z0 z2 z3 h1' h2) ?_
       exact ⟨by rw [ol hi zO (hq.trans hp)],zK⟩
     ·rw [decide_eq_true h1,decide_eq_false h2,Bool.true_and,Bool.false_and] at hq
      refine zX (lX hl3 hv y0 y1 ix fx x0 x2 x3 iy fy z0 z2 z3 h1' h2) ?_
      exact ⟨by rw [ol hi zO hq],zK⟩
    ·have h1':¬ (a[i].kind:Int)=((b[i]'zO).kind:Int):=by omega
     rw [decide_eq_false h1,Bool.false_and] at hq
     refine zX (mU hl3 hv y0 y1 ix fx x0 x2 x3 iy fy z0 z2 z3 h1') ?_
     exact ⟨by rw [ol hi zO hq],zK⟩
   ·have hii:¬ (i:Int)<(b.length:Int):=by omega
    refine zW (pd hl3 hv y0 y1 la lb hii he' hrs) ?_
    exact ⟨by rw [qO he fun k h=>hP k h zO],zK⟩
  ·have he':¬ (a.length:Int)=(b.length:Int):=by omega
   rw [qN he]
   refine zW (gD hl g0 g1 la lb he') ?_
   exact zK
theorem oU (C:Code tab) (hw:Wf H) {c:Nat} (h1:3<=c) (h2:c<=8):Ans tab (.fn fk [.int .u8 (c:Int)]) H fun v H'=>v=.int .u8 (md c:Int)/\Kp H H':=by
 refine jp C.q28 zU fun T hl g0=>?_
 refine zW (dz hl g0 @D7 (DL h1 h2)) ?_
 exact zK
theorem nO (C:Code tab) (hw:Wf H) {c:Nat} (h1:3<=c) (h2:c<=8):Ans tab (.fn cn [.int .u8 (c:Int)]) H fun v H'=>v=.int .u8 (md c:Int)/\Kp H H':=by
 refine jp C.q43 zU fun T hl g0=>?_
 have:c=3\/c=4\/c=5\/c=6\/c=7\/c=8:=by omega
 have hf:=DO
 have ws:cw .sub .int (.int .u8 (c:Int)) (.int .u8 3)=some (.int .u8 ((c-3:Nat):Int)):=by
  rcases this with rfl | rfl | rfl | rfl | rfl | rfl <;> rfl
 have hix:∀ b,a7 1 (.own b 0 6 6 1 true) (.int .u8 ((c-3:Nat):Int))=some (.ptr b (c-3)):=fun b=>by
  rcases this with rfl | rfl | rfl | rfl | rfl | rfl <;> simp [a7,aF,iU]
 have hld:aB [.int .u8 6,.int .u8 5,.int .u8 4,.int .u8 3,.int .u8 8,.int .u8 7] (c-3) none=some (.int .u8 (md c:Int)):=by
  rcases this with rfl | rfl | rfl | rfl | rfl | rfl <;> rfl
 refine zW (gD hl g0 hf ws hix hld) ?_
 exact zK
end
def cU (l:List Edx) (node:Int):List Edx:=l.filter fun e=>decide (e.src=node)
theorem jw (l m:List Edx) (node:Int):cU (l++m) node=cU l node++cU m node:=List.filter_append ..
theorem nS (e:Edx) (node:Int):cU [e] node=if e.src=node then [e] else []:=by
 unfold cU
 by_cases h:e.src=node
 ·rw [if_pos h,List.filter_cons_of_pos (by simpa using h)]; rfl
 ·rw [if_neg h,List.filter_cons_of_neg (by simpa using h)]; rfl
theorem nT (l:List Edx) (node:Int):(cU l node).length<=l.length:=List.length_filter_le _ _
def IdxOf (l:List Edx) (is:List Nat) (es:List Edx):Prop:=is.map (fun i=>l[i]?)=es.map some
theorem IdxOf.len {l:List Edx} {is:List Nat} {es:List Edx} (h:IdxOf l is es):is.length=es.length:=by
 have:=congrArg List.length h; simpa using this
theorem IdxOf.at {l:List Edx} {is:List Nat} {es:List Edx} (h:IdxOf l is es) {j:Nat} (hj:j<is.length):∃ hl:is[j]<l.length,l[is[j]]=es[j]'(by rw [<- h.len]; exact hj):=by
 have hj':j<es.length:=by rw [<- h.len]; exact hj
 have e:=congrArg (fun m:List (Option Edx)=>m[j]?) h
 simp only [List.getElem?_map,List.getElem?_eq_getElem hj,List.getElem?_eq_getElem hj',Option.map_some] at e
 have e:=Option.some.inj e
 obtain ⟨hl,h2⟩:=List.getElem?_eq_some_iff.1 e
 exact ⟨hl,h2⟩
section
variable {tab:Nat->Option aN} {H:Heap}
theorem pn (C:Code tab) (hw:Wf H) {g:Gx} {node:Int} (hE:g.edges.length<=2048) :
  Ans tab (.fn cC [.agg (dW g),.int .i64 node]) H fun v H'=>∃ is:List Nat,Bl (mY (qA .i64)) fM H H' v (is.map fun i:Nat=>(i:Int))/\IdxOf g.edges is (cU g.edges node)/\Kp H H':=by
 refine i9 C.q22 zU fun T hl g0 g1=>?_
 have bg:=ki g
 have sl:=fun H=>gp bc H g
 have ll:=iC g
 obtain ⟨s,hs⟩:∃ s,s=lg g:=⟨_,rfl⟩
 obtain ⟨l,hl'⟩:∃ l,l=g.edges:=⟨_,rfl⟩
 rw [<- hs] at bg sl ll
 rw [<- hl'] at sl ll hE ⊢
 refine zW (dz hl g0 g1 bg) ?_
 obtain ⟨X,hX⟩:∃ X,X=(H.up 4).put H.next (.cells [.int .i64 g.vars,jN g,.int .i64 g.nodes,.int .i64 g.start,.int .i64 g.last,s] ah true):=⟨_,rfl⟩
 rw [<- hX]
 have kX:Kp H X:=by rw [hX]; exact zK
 have dX:X.get H.next=some (.cells [.int .i64 g.vars,jN g,.int .i64 g.nodes,.int .i64 g.start,.int .i64 g.last,s] ah true):=by rw [hX,aq]
 have wX:=kX.wf
 clear hX hs hl'
 refine aQ X [5,6] (fun r vs H'=>∃ (i:Nat) (o:AV) (is:List Nat),vs=[o,.int .i64 (i:Int)]/\i+r=l.length/\Bl (mY (qA .i64)) fM X H' o (is.map fun i:Nat=>(i:Int))/\IdxOf l is (cU (l.take i) node)) l.length (by simp only [List.length_set]; exact hl) rfl zK ⟨0,.nilSl,[],by refine zW (fe hl g0 g1) ?_; rfl,by omega,Bl.nil,rfl⟩ ?_
 rintro r T3 H3 hl3 hs3 hk3 ⟨i,o,is,hv,hik,hb,hI⟩
 have w3:=hk3.wf
 have le_hk3:=hk3.le
 simp only [List.map_cons,List.map_nil,List.cons.injEq,and_true] at hv
 obtain ⟨hv5,hv6⟩:=hv
 have y2:aa T3 2=.ptr H.next 0:=(hs3.at_ 2 zU).trans (zV (fe hl g0 g1))
 have y1:aa T3 1=.int .i64 node:=(hs3.at_ 1 zU).trans (zV (dz hl g0 g1 g1))
 have dX3:=hk3.get dX
 have kH3:=kX.trans hk3
 have hil:is.length<=2048:=by
  rw [hI.len]
  exact Nat.le_trans (nT _ _) (Nat.le_trans (by rw [List.length_take]; omega) hE)
 by_cases hi:i<l.length
 ·have hii:(i:Int)<(l.length:Int):=by omega
  obtain ⟨ix,fx,x0,-,-,-,-,-,-⟩:=eT (sl (H3.up 13)) hi
  have e:IntKind.i64.wrap ((i:Int)+1)=((i+1:Nat):Int):=by rw [ae] <;> omega
  by_cases hq:l[i].src=node
  ·refine zW (gt hl3 hv5 hv6 y1 y2 dX3 @gV ll hii ix fx x0 hq) ?_
   obtain ⟨n,H6,e1,h2,k6,n6,-⟩:=Bl.push (ty2:=fM) (bytes:=8) (id:=H3.next+16) (id2:=H3.next+15) (k:=18) (cs:=[.int .i64 (i:Int)]) (a:=(i:Int)) hb (fun h=>by cases h) hk3 ⟨_,rfl,rfl⟩ zO zO zO zO zO (by simp; omega) (by simp; omega)
   have e1':iV ((H3.up 18).put (H3.next+15) (.cells [.int .i64 (i:Int)] fM true)) (H3.next+16) 1 8 fM o (.own (H3.next+15) 0 1 1 1 true)=some (.own (H3.next+16) 0 n n 1 false,H6):=e1
   refine zW (eU hl3 hv5 hv6 e1' e) ?_
   refine ⟨zK,r-1,by omega,i+1,_,is++[i],rfl,by omega,?_,?_⟩
   ·rw [List.map_append]; exact h2.mono (Sub.bump H6 _)
   ·rw [List.take_succ_eq_append_getElem hi,jw,nS,if_pos hq]
    unfold IdxOf at hI ⊢
    rw [List.map_append,List.map_append,hI]
    simp [hi]
  ·refine zW (lh hl3 hv5 hv6 y1 y2 dX3 @gV ll hii ix fx x0 hq e) ?_
   refine ⟨zK,r-1,by omega,i+1,o,is,rfl,by omega,hb.mono (Sub.bump H3 _),?_⟩
   rw [List.take_succ_eq_append_getElem hi,jw,nS,if_neg hq,List.append_nil]
   exact hI
 ·have hii:¬ (i:Int)<(l.length:Int):=by omega
  refine zW (jS hl3 hv5 hv6 y2 dX3 @gV ll hii) ?_
  refine ⟨is,(hb.base kX.le).mono (Sub.bump H3 _),?_,zK⟩
  rw [List.take_of_length_le zO] at hI; exact hI
end
def i3:List Edx->Bool
 | []=>true
 | [a]=>decide (a.act.kind≠6)
 | [a,b]=>decide (a.act.kind=6) && (decide (b.act.kind=6) && (decide (b.act.cmp=md a.act.cmp) && qP gn a.act.args b.act.args))
 | _=>false
structure xL (e:Edx):Prop where
 cmp:e.act.kind=6->3<=e.act.cmp/\e.act.cmp<=8
 low:∀ x∈e.act.args,km x
 len:e.act.args.length<4611686018427387904
theorem lO (d:Cp):(fV d).all AV.one=true:=by
 have h:=(jU d.nl (mr d.args) d.args.length).2
 simp only [fV,List.all_cons,List.all_nil,h]
 rfl
abbrev Fa:List AV:=[.int .u8 0,.int .i64 0,.int .u8 0,.nilSl]
theorem Eu (d:Cp):aB (fV d) 0 none=some (.int .u8 (d.kind:Int))/\aB (fV d) 2 none=some (.int .u8 (d.cmp:Int))/\aB (fV d) 3 none=some (mZ d.nl d.args):=⟨rfl,rfl,rfl⟩
section
variable {tab:Nat->Option aN} {H:Heap}
set_option maxHeartbeats 2000000 in
theorem qm (C:Code tab) (hw:Wf H) {g:Gx} {t:AV} {is:List Nat} {es:List Edx} {H0:Heap} (ht:Bl (mY (qA .i64)) fM H0 H t (is.map fun i:Nat=>(i:Int))) (hI:IdxOf g.edges is es) (hok:∀ e∈es,xL e) (hlen:es.length<4611686018427387904) :
  Ans tab (.fn cF [.agg (dW g),t]) H fun v H'=>v=.bool (i3 es)/\Kp H H':=by
 have hrs:c_facetroomref13_mayOut.results=[(4,none)]:=rfl
 refine oY C.q23 rfl rfl zU fun T hl ga=>?_
 have hl:T.length=60:=hl
 have g0:aa T 0=.agg (dW g):=ga 0 (by simp)
 have g1:aa T 1=t:=ga 1 (by simp)
 clear ga
 have bg:=ki g
 have sl:=fun H=>gp bc H g
 obtain ⟨s,hs⟩:∃ s,s=lg g:=⟨_,rfl⟩
 rw [<- hs] at bg sl
 have lt:lenV t=some (.int .i64 (es.length:Int)):=by rw [ht.sl.lenV,List.length_map,hI.len]
 clear hs
 refine aG ?_
 refine zW (dz hl g0 bg @az) ?_
 refine bP (fun T' Y=>T'.length=60/\aa T' 1=t/\aa T' 2=.ptr H.next 0/\Y.get H.next=some (.cells [.int .i64 g.vars,jN g,.int .i64 g.nodes,.int .i64 g.start,.int .i64 g.last,s] ah true)/\Kp H Y) ?_ ?_
 ·refine zW (bb hl g1) ?_
  exact zK
 clear hl g0 g1 bg
 rintro T Y ⟨hl,t1,t2,dG,kY⟩
 have wY:=kY.wf
 by_cases e0:es.length=0
 ·have e0':(es.length:Int)=0:=by omega
  refine aG ?_
  have em:i3 es=true:=by rw [List.eq_nil_of_length_eq_zero e0]; rfl
  rw [em]
  refine zW (gD hl t1 lt e0' hrs @ed) ?_
  exact zK
 have e0':¬ (es.length:Int)=0:=by omega
 have h0:0<is.length:=by rw [hI.len]; omega
 obtain ⟨i0,a0⟩:=hI.at h0
 obtain ⟨ld0,ix0⟩:=qz (ht.mono kY.sub) h0
 have ix0:a7 1 t (.int .i64 0)=some (br t 0):=ix0
 obtain ⟨A,hA⟩:∃ A,A=es[0]'zO:=⟨_,rfl⟩
 have hAm:A∈es:=by rw [hA]; exact List.getElem_mem _
 obtain ⟨jx,fx,-,-,-,-,-,-,-,ldA⟩:=eT (sl Y) i0
 rw [a0,<- hA] at ldA
 have sA:=ko (ty:=bR) (cs:=Fa) (n:=4) (ds:=fV A.act) rfl rfl (lO _)
 obtain ⟨A0,A2,A3⟩:=Eu A.act
 refine aG ?_
 refine zW (eU hl t1 lt e0' @az) ?_
 refine aG ?_
 refine al ?_
 refine zD (dC hl t1 t2 dG @gV ix0 ld0 jx fx ldA sA @az) ?_
 refine bP (fun T' Z=>T'.length=60/\aa T' 1=t/\aa T' 2=.ptr H.next 0/\aa T' 5=.ptr (Y.next+11) 0/\Z.get (Y.next+11)=some (.cells (fV A.act) bR true)/\Kp Y Z) ?_ ?_
 ·refine zW (fe hl t1 t2) ?_
  exact zK
 clear hl t1 t2 ld0 jx fx ldA sA a0
 rintro T Z ⟨hl,t1,t2,t5,dA,kZ⟩
 have wZ:=kZ.wf
 have dGZ:=kZ.get dG
 have kHZ:=kY.trans kZ
 by_cases e1:es.length=1
 ·have e1':(es.length:Int)=1:=by omega
  have em:i3 es=decide (A.act.kind≠6):=by
   cases es with
   | nil=>simp at e1
   | cons x r =>
    cases r with
    | nil=>rw [hA]; rfl
    | cons y r=>simp at e1
  refine aG ?_
  by_cases h6:A.act.kind=6
  ·have h6':(A.act.kind:Int)=6:=by omega
   have em':i3 es=false:=by rw [em]; simp [h6]
   rw [em']
   refine zW (fg hl t1 t5 dA A0 lt e1' h6' hrs @ed) ?_
   exact zK
  ·have h6':¬ (A.act.kind:Int)=6:=by omega
   have em':i3 es=true:=by rw [em]; simp [h6]
   rw [em']
   refine zW (fg hl t1 t5 dA A0 lt e1' h6' hrs @ed) ?_
   exact zK
 have e1':¬ (es.length:Int)=1:=by omega
 have h1:1<is.length:=by rw [hI.len]; omega
 obtain ⟨i1,a1⟩:=hI.at h1
 obtain ⟨ld1,ix1⟩:=qz (ht.mono kHZ.sub) h1
 have ix1:a7 1 t (.int .i64 1)=some (br t 1):=ix1
 obtain ⟨B,hB⟩:∃ B,B=es[1]'zO:=⟨_,rfl⟩
 have hBm:B∈es:=by rw [hB]; exact List.getElem_mem _
 obtain ⟨jx,fx,-,-,-,-,-,-,-,ldB⟩:=eT (sl Z) i1
 rw [a1,<- hB] at ldB
 have sB:=ko (ty:=bR) (cs:=Fa) (n:=4) (ds:=fV B.act) rfl rfl (lO _)
 obtain ⟨B0,B2,B3⟩:=Eu B.act
 refine aG ?_
 refine zW (eU hl t1 lt e1' @az) ?_
 refine aG ?_
 refine al ?_
 refine zD (dC hl t1 t2 dGZ @gV ix1 ld1 jx fx ldB sB @az) ?_
 refine bP (fun T' W=>T'.length=60/\aa T' 1=t/\aa T' 5=.ptr (Y.next+11) 0/\aa T' 6=.ptr (Z.next+11) 0/\W.get (Z.next+11)=some (.cells (fV B.act) bR true)/\Kp Z W) ?_ ?_
 ·refine zW (fe hl t1 t5) ?_
  exact zK
 clear hl t1 t2 t5 ld1 jx fx ldB sB a1 wY wZ dG dGZ
 rintro T W ⟨hl,t1,t5,t6,dB,kW⟩
 have wW:=kW.wf
 have dAW:=kW.get dA
 have kHW:=kHZ.trans kW
 clear dA
 refine WC.wb ?_
 refine zW hl ?_
 refine al ?_
 have FIN:=Eu A.act
 by_cases e2:es.length=2
 ·have e2':(es.length:Int)=2:=by omega
  have em:i3 es=(decide (A.act.kind=6) && (decide (B.act.kind=6) && (decide (B.act.cmp=md A.act.cmp) && qP gn A.act.args B.act.args))):=by
   cases es with
   | nil=>simp at e2
   | cons x r =>
    cases r with
    | nil=>simp at e2
    | cons y r =>
     cases r with
     | nil=>rw [hA,hB]; rfl
     | cons z r=>simp at e2
  rw [em]
  by_cases h6:A.act.kind=6
  ·have h6':(A.act.kind:Int)=6:=by omega
   by_cases h7:B.act.kind=6
   ·have h7':(B.act.kind:Int)=6:=by omega
    obtain ⟨c1,c2⟩:=(hok A hAm).cmp h6
    rw [decide_eq_true h6,decide_eq_true h7]
    refine zX (sQ hl t1 t5 t6 dAW dB A0 A2 A3 B0 B2 B3 lt e2' h6' h7' hrs) ?_
    refine AnsH.eq (nO C zF c1 c2) fun H2 hk2=>?_
    have k2:Kp H H2:=kHW.trans (Kp.trans zK hk2)
    have le_k2:=k2.le
    have kW2:Kp W H2:=Kp.trans zK hk2
    have w2:=k2.wf
    have dA2:=kW2.get dAW
    have dB2:=kW2.get dB
    by_cases h8:B.act.cmp=md A.act.cmp
    ·have h8':(B.act.cmp:Int)=(md A.act.cmp:Int):=by omega
     rw [decide_eq_true h8]
     refine zX (vG hl t1 t5 t6 dAW dB dA2 dB2 A0 A2 A3 B0 B2 B3 lt e2' h6' h7' h8' hrs) ?_
     refine AnsH.eq (rA C _ A.act.args (Nat.le_refl _) (hok A hAm).low (hok A hAm).len B.act.args _ _ zF) fun H3 hk3=>?_
     have k3:Kp H H3:=k2.trans (Kp.trans zK hk3)
     have le_k3:=k3.le
     have k23:Kp H2 H3:=Kp.trans zK hk3
     have le_k23:=k23.le
     have w3:=k3.wf
     refine zX (vG hl t1 t5 t6 dAW dB dA2 dB2 A0 A2 A3 B0 B2 B3 lt e2' h6' h7' h8' hrs) ?_
     exact zK
    ·have h8':¬ (B.act.cmp:Int)=(md A.act.cmp:Int):=by omega
     rw [decide_eq_false h8]
     refine zX (vG hl t1 t5 t6 dAW dB dA2 dB2 A0 A2 A3 B0 B2 B3 lt e2' h6' h7' h8' hrs) ?_
     exact zK
   ·have h7':¬ (B.act.kind:Int)=6:=by omega
    rw [decide_eq_true h6,decide_eq_false h7]
    refine zX (sQ hl t1 t5 t6 dAW dB A0 A2 A3 B0 B2 B3 lt e2' h6' h7' hrs) ?_
    exact zK
  ·have h6':¬ (A.act.kind:Int)=6:=by omega
   rw [decide_eq_false h6]
   refine zX (lX hl t1 t5 t6 dAW dB A0 A2 A3 B0 B2 B3 lt e2' h6' hrs) ?_
   exact zK
 ·have e2':¬ (es.length:Int)=2:=by omega
  have em:i3 es=false:=by
   cases es with
   | nil=>simp at e0
   | cons x r =>
    cases r with
    | nil=>simp at e1
    | cons y r =>
     cases r with
     | nil=>simp at e2
     | cons z r=>rfl
  rw [em]
  refine zX (mU hl t1 t5 t6 dAW dB A0 A2 A3 B0 B2 B3 lt e2' hrs) ?_
  exact zK
end
def mi (l:List Edx) (a:Int):Option Int:=match cU l a with
 | [e]=>if e.act.kind=1 then some e.dst else none
 | _=>none
def cG (l:List Edx) (node:Int):Nat->Int->Bool
 | 0,_=>false
 | n+1,a=>match mi l a with
  | none=>false
  | some b=>decide (b=node) || cG l node n b
theorem iO {l:List Edx} {node a:Int} {n:Nat} (h:mi l a=none):cG l node n a=false:=by
 cases n with
 | zero=>rfl
 | succ n=>simp only [cG,h]
theorem jv {l:List Edx} {node a b:Int} {n:Nat} (h:mi l a=some b):cG l node (n+1) a=(decide (b=node) || cG l node n b):=by simp only [cG,h]
theorem rJ {l:List Edx} {a:Int} (h:(cU l a).length≠1):mi l a=none:=by
 unfold mi
 split
 ·rename_i e he; rw [he] at h; exact absurd rfl h
 ·rfl
theorem rI {l:List Edx} {a:Int} {e:Edx} (h:cU l a=[e]):mi l a=if e.act.kind=1 then some e.dst else none:=by
 unfold mi; rw [h]
section
variable {tab:Nat->Option aN} {H:Heap}
set_option maxHeartbeats 2000000 in
theorem ry (C:Code tab) (hw:Wf H) {g:Gx} {node:Int} (hE:g.edges.length<=2048) :
  Ans tab (.fn cO [.agg (dW g),.int .i64 node]) H fun v H'=>v=.bool (cG g.edges node (g.edges.length+1) node)/\Kp H H':=by
 refine i9 C.q24 zU fun T hl g0 g1=>?_
 have bg:=ki g
 have sl:=fun H=>gp bc H g
 have ll:=iC g
 obtain ⟨s,hs⟩:∃ s,s=lg g:=⟨_,rfl⟩
 rw [<- hs] at bg sl ll
 have tg:aB [.int .i64 g.vars,jN g,.int .i64 g.nodes,.int .i64 g.start,.int .i64 g.last,s] 0 (some 6)=some (.agg (dW g)):=by rw [hs]; rfl
 refine zW (dz hl g0 g1 bg) ?_
 obtain ⟨X,hX⟩:∃ X,X=(H.up 5).put H.next (.cells [.int .i64 g.vars,jN g,.int .i64 g.nodes,.int .i64 g.start,.int .i64 g.last,s] ah true):=⟨_,rfl⟩
 rw [<- hX]
 have kX:Kp H X:=by rw [hX]; exact zK
 have dX:X.get H.next=some (.cells [.int .i64 g.vars,jN g,.int .i64 g.nodes,.int .i64 g.start,.int .i64 g.last,s] ah true):=by rw [hX,aq]
 have wX:=kX.wf
 clear hX hs
 refine aQ X [5,6] (fun r vs H'=>∃ (i:Nat) (a:Int),vs=[.int .i64 a,.int .i64 (i:Int)]/\i+r=g.edges.length+1/\cG g.edges node (g.edges.length+1) node=cG g.edges node r a) (g.edges.length+1) (by simp only [List.length_set]; exact hl) rfl zK ⟨0,node,by refine zW (fe hl g0 g1) ?_; rfl,by omega,rfl⟩ ?_
 rintro r T3 H3 hl3 hs3 hk3 ⟨i,a,hv,hik,hI⟩
 have w3:=hk3.wf
 have le_hk3:=hk3.le
 simp only [List.map_cons,List.map_nil,List.cons.injEq,and_true] at hv
 obtain ⟨hv5,hv6⟩:=hv
 have y2:aa T3 2=.ptr H.next 0:=(hs3.at_ 2 zU).trans (zV (fe hl g0 g1))
 have y1:aa T3 1=.int .i64 node:=(hs3.at_ 1 zU).trans (zV (dz hl g0 g1 g1))
 have dX3:=hk3.get dX
 have kH3:=kX.trans hk3
 rw [hI]
 by_cases hi:i<=g.edges.length
 ·have hii:(i:Int)<=(g.edges.length:Int):=by omega
  have e:IntKind.i64.wrap ((i:Int)+1)=((i+1:Nat):Int):=by rw [ae] <;> omega
  refine zW (fg hl3 hv5 hv6 y1 y2 dX3 @gV ll hii tg) ?_
  refine AnsH.use (pn C zF hE) ?_
  rintro v H4 ⟨is,hb,hJ,hk4⟩
  obtain ⟨k34,_,_⟩:=zT H3 zK hk4
  have kX4:=hk3.trans k34
  have kH4:=kH3.trans k34
  have w4:=k34.wf
  have dX4:=k34.get dX3
  have lv:lenV v=some (.int .i64 ((cU g.edges a).length:Int)):=by rw [hb.sl.lenV,List.length_map,hJ.len]
  obtain ⟨r,rfl⟩:∃ r',r=r'+1:=⟨r-1,by omega⟩
  by_cases h1:(cU g.edges a).length=1
  ·have h1':((cU g.edges a).length:Int)=1:=by omega
   obtain ⟨E,hE1⟩:∃ E,cU g.edges a=[E]:=by
    match hm:cU g.edges a with
    | []=>rw [hm] at h1; simp at h1
    | [E]=>exact ⟨E,rfl⟩
    | x :: y :: z=>rw [hm] at h1; simp at h1
   have h0:0<is.length:=by rw [hJ.len]; omega
   obtain ⟨i0,a0⟩:=hJ.at h0
   have a0:g.edges[is[0]]=E:=by rw [a0]; simp [hE1]
   obtain ⟨ld0,ix0⟩:=qz hb h0
   have ix0:a7 1 v (.int .i64 0)=some (br v 0):=ix0
   obtain ⟨jx,fx,-,l1,l2,-,-,-,-,-⟩:=eT (sl H4) i0
   rw [a0] at l1 l2
   have hn:=rI hE1
   by_cases h2:E.act.kind=1
   ·have h2':(E.act.kind:Int)=1:=by omega
    rw [if_pos h2] at hn
    rw [jv hn]
    refine zW hl3 ?_
    refine al ?_
    refine zD (mU hl3 hv5 hv6 y1 y2 dX4 @gV lv h1' ix0 ld0 jx fx l2 h2') ?_
    refine al ?_
    refine zD (dC hl3 hv5 hv6 y1 y2 dX4 @gV ix0 ld0 jx fx l1) ?_
    by_cases h3:E.dst=node
    ·refine zD (fe hl3 y1 h3) ?_
     exact ⟨by simp,zK⟩
    ·refine zD (eU hl3 hv6 y1 h3 e) ?_
     refine ⟨zK,r,by omega,i+1,E.dst,rfl,by omega,?_⟩
     simp [h3]
   ·have h2':¬ (E.act.kind:Int)=1:=by omega
    rw [if_neg h2] at hn
    rw [iO hn]
    refine zW hl3 ?_
    refine al ?_
    refine zD (mU hl3 hv5 hv6 y1 y2 dX4 @gV lv h1' ix0 ld0 jx fx l2 h2') ?_
    exact zK
  ·have h1':¬ ((cU g.edges a).length:Int)=1:=by omega
   rw [iO (rJ h1)]
   refine zW hl3 ?_
   refine al ?_
   refine zD (pd hl3 hv5 hv6 y1 y2 dX4 @gV lv h1') ?_
   exact zK
 ·have hii:¬ (i:Int)<=(g.edges.length:Int):=by omega
  have hr:r=0:=by omega
  subst hr
  refine zW (fg hl3 hv5 hv6 y1 y2 dX3 @gV ll hii tg) ?_
  exact ⟨rfl,zK⟩
end
def m6 (g:Gx):Prop:=(0<=g.vars/\g.vars<=32)/\g.arrays.length<=4/\(2<=g.nodes/\g.nodes<=4096)/\((0<=g.start/\g.start<g.nodes)/\(0<=g.last/\g.last<g.nodes))/\g.start≠g.last/\g.edges.length<=2048
instance (g:Gx):Decidable (m6 g):=by unfold m6; infer_instance
def mg (n:Int):Bool:=decide (1<=n/\n<=16)
def mh (g:Gx) (e:Edx):Bool:=decide (0<=e.src/\e.src<g.nodes) && (decide (0<=e.dst/\e.dst<g.nodes) && oR g.vars g.arrays.length e.act)
def tC (g:Gx) (e:Edx):Bool:=decide (¬ e.src=g.last) && (i3 (cU g.edges e.src) && !cG g.edges e.src (g.edges.length+1) e.src)
def i4 (g:Gx):Bool:=decide (m6 g) && (g.arrays.all mg && (g.edges.all (mh g) && g.edges.all (tC g)))
theorem oo {α:Type} {l:List α} {f:α->Bool} {i:Nat} (h:i<l.length):(l.drop i).all f=(f l[i] && (l.drop (i+1)).all f):=by
 rw [List.drop_eq_getElem_cons h,List.all_cons]
theorem om {α:Type} {l:List α} {f:α->Bool} {i:Nat} (h:¬ i<l.length):(l.drop i).all f=true:=by
 rw [List.drop_eq_nil_of_le zO]; rfl
theorem uN {g:Gx} {e:Edx} (h:mh g e=true):e.act.kind=6->3<=e.act.cmp/\e.act.cmp<=8:=by
 intro h6
 unfold mh oR at h
 simp only [Bool.and_eq_true,decide_eq_true_eq] at h
 have h1:=h.2.2.1.2.2.2
 unfold ef at h1
 rwa [if_pos h6] at h1
section
variable {tab:Nat->Option aN} {H:Heap}
set_option maxHeartbeats 4000000 in
theorem wn (C:Code tab) (hw:Wf H) {g:Gx} (hg:mT g) (hlow:∀ e∈g.edges,(∀ x∈e.act.args,km x)/\e.act.args.length<4611686018427387904) :
  Ans tab (.fn de [.agg (dW g)]) H fun v H'=>v=.bool (i4 g)/\Kp H H':=by
 have hrs:c_facetroomref13_May.results=[(2,none)]:=rfl
 refine oY C.q9 rfl rfl zU fun T hl ga=>?_
 have hl:T.length=147:=hl
 have g0:aa T 0=.agg (dW g):=ga 0 (by simp)
 clear ga
 have bg:=ki g
 have sl:=fun H=>gp bc H g
 have sr:=fun H=>qV fM H g
 have ll:=iC g
 have lr:=jc g
 have hgE:=hg.2.2.2.2.2.2.1
 obtain ⟨s,hs⟩:∃ s,s=lg g:=⟨_,rfl⟩
 obtain ⟨ar,har⟩:∃ ar,ar=jN g:=⟨_,rfl⟩
 rw [<- hs,<- har] at bg
 rw [<- hs] at sl ll
 rw [<- har] at sr lr
 have tg:aB [.int .i64 g.vars,ar,.int .i64 g.nodes,.int .i64 g.start,.int .i64 g.last,s] 0 (some 6)=some (.agg (dW g)):=by rw [hs,har]; rfl
 refine aG ?_
 refine zW (dz hl g0 bg @az) ?_
 refine bP (fun T' Y=>T'.length=147/\aa T' 1=.ptr H.next 0/\Y.get H.next=some (.cells [.int .i64 g.vars,ar,.int .i64 g.nodes,.int .i64 g.start,.int .i64 g.last,s] ah true)/\Kp H Y) ?_ ?_
 ·refine zW hl ?_
  exact zK
 clear hl g0 bg hs har
 rintro T Y ⟨hl,t1,dG,kY⟩
 have wY:=kY.wf
 have no:∀ (hF:¬ m6 g),i4 g=false:=fun hF=>by unfold i4; rw [decide_eq_false hF]; rfl
 unfold m6 at no
 refine cu (fun T' H'=>m6 g/\Kp Y H') rfl ?_ ?_
 ·by_cases c1:g.vars<0
  ·rw [no zO]
   refine zW (lf hl t1 dG @c1 @ad @af hrs) ?_
   exact zK
  by_cases c2:32<g.vars
  ·rw [no zO]
   refine zW (jS hl t1 dG @c1 @c2 @ad @af hrs) ?_
   exact zK
  by_cases c3:(4:Int)<(g.arrays.length:Int)
  ·rw [no zO]
   refine zW (fg hl t1 dG @c1 @c2 c3 lr @ad @af hrs) ?_
   exact zK
  by_cases c4:g.nodes<2
  ·rw [no zO]
   refine zW (dC hl t1 dG @c1 @c2 c3 c4 lr @fF @ad @af hrs) ?_
   exact zK
  by_cases c5:4096<g.nodes
  ·rw [no zO]
   refine zW (gt hl t1 dG @c1 @c2 c3 c4 c5 lr @fF @ad @af hrs) ?_
   exact zK
  refine zW (lh hl t1 dG @c1 @c2 c3 c4 c5 lr @fF tg @ad @af hrs) ?_
  refine AnsH.eq (gM C zF) fun H2 hk2=>?_
  obtain ⟨k2,_,_⟩:=zT Y zK hk2
  have w2:=hk2.wf
  have le_hk2:=hk2.le
  have dG2:=k2.get dG
  have kH2:=kY.trans k2
  by_cases c6:0<=g.start/\g.start<g.nodes
  ·rw [decide_eq_true c6]
   refine zW (lX hl t1 dG dG2 @c1 @c2 c3 c4 c5 lr @fF @pj tg @ad @af hrs) ?_
   refine AnsH.eq (gM C zF) fun H3 hk3=>?_
   have k3:Kp Y H3:=k2.trans (Kp.trans zK hk3)
   have le_k3:=k3.le
   have w3:=hk3.wf
   have le_hk3:=hk3.le
   have dG3:=k3.get dG
   have kH3:=kY.trans k3
   by_cases c7:0<=g.last/\g.last<g.nodes
   ·rw [decide_eq_true c7]
    by_cases c8:g.start=g.last
    ·rw [no zO]
     refine zW (d8 hl t1 dG3 c8 lr @fF @pj tg @ad @af hrs) ?_
     exact zK
    by_cases c9:(2048:Int)<(g.edges.length:Int)
    ·rw [no zO]
     refine zW (lh hl t1 dG3 c8 c9 ll lr @fF @pj @gV tg @ad @af hrs) ?_
     exact zK
    refine zW (lh hl t1 dG3 c8 c9 ll lr @fF @pj @gV tg @ad @af hrs) ?_
    exact ⟨by unfold m6; omega,zK⟩
   ·rw [decide_eq_false c7,no zO]
    refine zW (fg hl t1 dG3 lr @fF @pj tg @ad @af hrs) ?_
    exact zK
  ·rw [decide_eq_false c6,no zO]
   refine zW (fg hl t1 dG2 lr @fF @pj tg @ad @af hrs) ?_
   exact zK
 clear no
 rintro T1 Y1 hs1 ⟨hR,kY1⟩
 have hl1:T1.length=147:=hs1.len.trans hl
 have u1:aa T1 1=.ptr H.next 0:=(hs1.at_ 1 zU).trans t1
 have d1:=kY1.get dG
 have w1:=kY1.wf
 have kH1:=kY.trans kY1
 have eq1:i4 g=(g.arrays.all mg && (g.edges.all (mh g) && g.edges.all (tC g))):=by unfold i4; rw [decide_eq_true hR]; rfl
 rw [eq1]
 clear eq1 hl t1 dG hs1
 obtain ⟨-,hR1,hR2,hR3,hR4,hR5⟩:=hR
 refine cu (fun T' H'=>g.arrays.all mg=true/\Kp Y1 H') rfl ?_ ?_
 ·refine zW hl1 ?_
  refine aQ Y1 [3] (fun r vs H'=>∃ i:Nat,vs=[.int .i64 (i:Int)]/\i+r=g.arrays.length/\g.arrays.all mg=(g.arrays.drop i).all mg) g.arrays.length (by simp only [List.length_set]; exact hl1) rfl zK ⟨0,by refine zW hl1 ?_; rfl,by omega,rfl⟩ ?_
  rintro r T3 H3 hl3 hs3 hk3 ⟨i,hv,hik,hI⟩
  have w3:=hk3.wf
  have le_hk3:=hk3.le
  simp only [List.map_cons,List.map_nil,List.cons.injEq,and_true] at hv
  have y1:aa T3 1=.ptr H.next 0:=(hs3.at_ 1 zU).trans (zV (bb hl1 u1))
  have dX3:=hk3.get d1
  have kH3:=kH1.trans hk3
  rw [hI]
  by_cases hi:i<g.arrays.length
  ·have hii:(i:Int)<(g.arrays.length:Int):=by omega
   have e:IntKind.i64.wrap ((i:Int)+1)=((i+1:Nat):Int):=by rw [ae] <;> omega
   rw [oo hi]
   have ix:a7 1 ar (.int .i64 (i:Int))=some (br ar i):=SlV.idx1 (sr default) .i64 i hi
   have ld:∀ H,bC H none (br ar i)=some (.int .i64 g.arrays[i]):=fun H=>by
    obtain ⟨c,hc,hld⟩:=SlV.at1 (sr H) (i:=i) (a:=g.arrays[i]) (List.getElem?_eq_getElem hi)
    have hc:c=.int .i64 g.arrays[i]:=hc
    rw [hld,hc]
   by_cases a1:g.arrays[i]<1
   ·have ea:mg g.arrays[i]=false:=by unfold mg; rw [decide_eq_false zO]
    rw [ea,Bool.false_and]
    refine zW (dC hl3 hv y1 dX3 lr hii ix ld @a1 @ad @af hrs) ?_
    exact zK
   by_cases a2:16<g.arrays[i]
   ·have ea:mg g.arrays[i]=false:=by unfold mg; rw [decide_eq_false zO]
    rw [ea,Bool.false_and]
    refine zW (gt hl3 hv y1 dX3 lr hii ix ld @a1 @a2 @ad @af hrs) ?_
    exact zK
   have ea:mg g.arrays[i]=true:=by unfold mg; rw [decide_eq_true zO]
   refine zW (lh hl3 hv y1 dX3 lr hii ix ld @a1 @a2 e @ad @af hrs) ?_
   refine ⟨zK,r-1,by omega,i+1,rfl,by omega,?_⟩
   rw [ea,Bool.true_and]
  ·have hii:¬ (i:Int)<(g.arrays.length:Int):=by omega
   rw [om hi] at hI ⊢
   refine zW (pd hl3 hv y1 dX3 lr hii @ad @af hrs) ?_
   exact zK
 rintro T2 Y2 hs2 ⟨hA,kY2⟩
 have hl2:T2.length=147:=hs2.len.trans hl1
 have v1:aa T2 1=.ptr H.next 0:=(hs2.at_ 1 zU).trans u1
 have d2:=kY2.get d1
 have w2:=kY2.wf
 have kH2:=kH1.trans kY2
 rw [hA,Bool.true_and]
 clear hs2 hl1 u1 d1
 refine cu (fun T' H'=>g.edges.all (mh g)=true/\Kp Y2 H') rfl ?_ ?_
 ·refine zW hl2 ?_
  refine aQ Y2 [4] (fun r vs H'=>∃ i:Nat,vs=[.int .i64 (i:Int)]/\i+r=g.edges.length/\g.edges.all (mh g)=(g.edges.drop i).all (mh g)) g.edges.length (by simp only [List.length_set]; exact hl2) rfl zK ⟨0,by refine zW hl2 ?_; rfl,by omega,rfl⟩ ?_
  rintro r T3 H3 hl3 hs3 hk3 ⟨i,hv,hik,hI⟩
  have w3:=hk3.wf
  have le_hk3:=hk3.le
  simp only [List.map_cons,List.map_nil,List.cons.injEq,and_true] at hv
  have y1:aa T3 1=.ptr H.next 0:=(hs3.at_ 1 zU).trans (zV (bb hl2 v1))
  have dX3:=hk3.get d2
  have kH3:=kH2.trans hk3
  rw [hI]
  by_cases hi:i<g.edges.length
  ·have hii:(i:Int)<(g.edges.length:Int):=by omega
   have e:IntKind.i64.wrap ((i:Int)+1)=((i+1:Nat):Int):=by rw [ae] <;> omega
   rw [oo hi]
   have hm:g.edges[i]∈g.edges:=List.getElem_mem _
   obtain ⟨E,hEe⟩:∃ E,E=g.edges[i]:=⟨_,rfl⟩
   rw [<- hEe] at hm ⊢
   obtain ⟨ix,fx,-⟩:=eT (sl default) hi
   have x0:=fun H=>(eT (sl H) hi).2.2.1
   have x1:=fun H=>(eT (sl H) hi).2.2.2.1
   have x2:=fun H=>(eT (sl H) hi).2.2.2.2.2.2.2.2.2
   rw [<- hEe] at x0 x1 x2
   have hgD:=(hgE E hm).2.2.1
   refine zW (lf hl3 hv y1 dX3 @gV ll hii) ?_
   refine al ?_
   refine zD (pd hl3 hv y1 dX3 @gV tg ix fx x0) ?_
   refine AnsH.eq (gM C zF) fun H4 hk4=>?_
   obtain ⟨k4,_,_⟩:=zT H3 zK hk4
   have w4:=hk4.wf
   have le_hk4:=hk4.le
   have dX4:=k4.get dX3
   have kH4:=kH3.trans k4
   have kY4:=hk3.trans k4
   by_cases c1:0<=E.src/\E.src<g.nodes
   ·rw [decide_eq_true c1]
    refine zX (d8 hl3 hv y1 dX3 dX4 @gV tg ix fx x0 x1) ?_
    refine AnsH.eq (gM C zF) fun H5 hk5=>?_
    obtain ⟨k5,_,_⟩:=zT H4 zK hk5
    have w5:=hk5.wf
    have le_hk5:=hk5.le
    have dX5:=k5.get dX4
    have kH5:=kH4.trans k5
    have kY5:=kY4.trans k5
    by_cases c2:0<=E.dst/\E.dst<g.nodes
    ·rw [decide_eq_true c2]
     refine zX (gt hl3 hv y1 dX3 dX4 dX5 @gV tg ix fx x0 x1 x2) ?_
     refine AnsH.eq (rz C zF hgD) fun H6 hk6=>?_
     obtain ⟨k6,_,_⟩:=zT H5 zK hk6
     have w6:=hk6.wf
     have le_hk6:=hk6.le
     have kH6:=kH5.trans k6
     have kY6:=kY5.trans k6
     by_cases c3:oR g.vars g.arrays.length E.act=true
     ·have ea:mh g E=true:=by unfold mh; rw [decide_eq_true c1,decide_eq_true c2,c3]; rfl
      rw [c3]
      refine zX (sQ hl3 hv y1 e dX3 dX4 dX5 @gV tg ix fx x0 x1 x2 @ad @af hrs) ?_
      refine ⟨zK,r-1,by omega,i+1,rfl,by omega,?_⟩
      rw [ea,Bool.true_and]
     ·have c3:oR g.vars g.arrays.length E.act=false:=by simpa using c3
      have ea:mh g E=false:=by unfold mh; rw [decide_eq_true c1,decide_eq_true c2,c3]; rfl
      rw [c3,ea,Bool.false_and]
      refine zX (sQ hl3 hv y1 e dX3 dX4 dX5 @gV tg ix fx x0 x1 x2 @ad @af hrs) ?_
      exact zK
    ·have ea:mh g E=false:=by unfold mh; rw [decide_eq_true c1,decide_eq_false c2]; rfl
     rw [decide_eq_false c2,ea,Bool.false_and]
     refine zX (sQ hl3 hv y1 e dX3 dX4 dX5 @gV tg ix fx x0 x1 x2 @ad @af hrs) ?_
     exact zK
   ·have ea:mh g E=false:=by unfold mh; rw [decide_eq_false c1]; rfl
    rw [decide_eq_false c1,ea,Bool.false_and]
    refine zX (lX hl3 hv y1 e dX3 dX4 @gV tg ix fx x0 x1 x2 @ad @af hrs) ?_
    exact zK
  ·have hii:¬ (i:Int)<(g.edges.length:Int):=by omega
   rw [om hi] at hI ⊢
   refine zW (fg hl3 hv y1 dX3 ll hii @gV @ad @af hrs) ?_
   exact zK
 rintro T3 Y3 hs3 ⟨hE,kY3⟩
 have hl3:T3.length=147:=hs3.len.trans hl2
 have x1:aa T3 1=.ptr H.next 0:=(hs3.at_ 1 zU).trans v1
 have d3:=kY3.get d2
 have w3:=kY3.wf
 have kH3:=kH2.trans kY3
 rw [hE,Bool.true_and]
 clear hs3 hl2 v1 d2
 have hEE:∀ e∈g.edges,xL e:=fun e he=>⟨uN (List.all_eq_true.1 hE e he),(hlow e he).1,(hlow e he).2⟩
 refine WC.wb ?_
 refine zW hl3 ?_
 refine aQ Y3 [5] (fun r vs H'=>∃ i:Nat,vs=[.int .i64 (i:Int)]/\i+r=g.edges.length/\g.edges.all (tC g)=(g.edges.drop i).all (tC g)) g.edges.length (by simp only [List.length_set]; exact hl3) rfl zK ⟨0,by refine zW hl3 ?_; rfl,by omega,rfl⟩ ?_
 rintro r T4 H3 hl4 hs4 hk3 ⟨i,hv,hik,hI⟩
 have w3:=hk3.wf
 have le_hk3:=hk3.le
 simp only [List.map_cons,List.map_nil,List.cons.injEq,and_true] at hv
 have y1:aa T4 1=.ptr H.next 0:=(hs4.at_ 1 zU).trans (zV (bb hl3 x1))
 have dX3:=hk3.get d3
 have kH3:=kH3.trans hk3
 rw [hI]
 by_cases hi:i<g.edges.length
 ·have hii:(i:Int)<(g.edges.length:Int):=by omega
  have e:IntKind.i64.wrap ((i:Int)+1)=((i+1:Nat):Int):=by rw [ae] <;> omega
  rw [oo hi]
  have hm:g.edges[i]∈g.edges:=List.getElem_mem _
  obtain ⟨E,hEe⟩:∃ E,E=g.edges[i]:=⟨_,rfl⟩
  rw [<- hEe] at hm ⊢
  obtain ⟨ix,fx,-⟩:=eT (sl default) hi
  have x0:=fun H=>(eT (sl H) hi).2.2.1
  rw [<- hEe] at x0
  by_cases c1:E.src=g.last
  ·have ea:tC g E=false:=by unfold tC; rw [decide_eq_false (by simpa using c1)]; rfl
   rw [ea,Bool.false_and]
   refine zW (d8 hl4 hv y1 dX3 @gV ll hii tg ix fx x0) ?_
   refine al ?_
   refine zX (dC hl4 hv y1 dX3 @pj @gV tg ix fx x0 @c1 hrs) ?_
   exact zK
  refine zW (d8 hl4 hv y1 dX3 @gV ll hii tg ix fx x0) ?_
  refine al ?_
  refine zX (d8 hl4 hv y1 dX3 @pj @gV tg ix fx x0 @c1) ?_
  refine AnsH.use (pn C zF hR5) ?_
  rintro v H4 ⟨is,hb,hJ,hk4⟩
  obtain ⟨k4,_,_⟩:=zT H3 zK hk4
  have w4:=hk4.wf
  have le_hk4:=hk4.le
  have dX4:=k4.get dX3
  have kH4:=kH3.trans k4
  have kY4:=hk3.trans k4
  have hsub:∀ e∈cU g.edges E.src,xL e:=fun e he=>hEE e ((List.mem_filter.1 he).1)
  have hle:(cU g.edges E.src).length<4611686018427387904:=by
   have:=nT g.edges E.src
   omega
  refine zX (dC hl4 hv y1 dX3 dX4 @pj @gV tg ix fx x0 @c1) ?_
  refine AnsH.eq (qm C zF hb hJ hsub hle) fun H5 hk5=>?_
  obtain ⟨k5,_,_⟩:=zT H4 zK hk5
  have w5:=hk5.wf
  have le_hk5:=hk5.le
  have dX5:=k5.get dX4
  have kH5:=kH4.trans k5
  have kY5:=kY4.trans k5
  by_cases c2:i3 (cU g.edges E.src)=true
  ·rw [c2]
   refine zX (gt hl4 hv y1 dX3 dX4 dX5 @pj @gV tg ix fx x0 @c1) ?_
   refine AnsH.eq (ry C zF hR5) fun H6 hk6=>?_
   obtain ⟨k6,_,_⟩:=zT H5 zK hk6
   have w6:=hk6.wf
   have le_hk6:=hk6.le
   have kH6:=kH5.trans k6
   have kY6:=kY5.trans k6
   by_cases c3:cG g.edges E.src (g.edges.length+1) E.src=true
   ·have ea:tC g E=false:=by unfold tC; rw [c3]; simp
    rw [c3,ea,Bool.false_and]
    refine zX (mU hl4 hv y1 e dX3 dX4 dX5 @pj @gV tg ix fx x0 @c1 hrs) ?_
    exact zK
   ·have c3:cG g.edges E.src (g.edges.length+1) E.src=false:=by simpa using c3
    have ea:tC g E=true:=by unfold tC; rw [c3,c2,decide_eq_true c1]; rfl
    rw [c3]
    refine zX (mU hl4 hv y1 e dX3 dX4 dX5 @pj @gV tg ix fx x0 @c1 hrs) ?_
    refine ⟨zK,r-1,by omega,i+1,rfl,by omega,?_⟩
    rw [ea,Bool.true_and]
  ·have c2:i3 (cU g.edges E.src)=false:=by simpa using c2
   have ea:tC g E=false:=by unfold tC; rw [c2]; simp
   rw [c2,ea,Bool.false_and]
   refine zX (mU hl4 hv y1 e dX3 dX4 dX5 @pj @gV tg ix fx x0 @c1 hrs) ?_
   exact zK
 ·have hii:¬ (i:Int)<(g.edges.length:Int):=by omega
  rw [om hi] at hI ⊢
  refine zW (jS hl4 hv y1 dX3 ll hii @gV hrs) ?_
  exact zK
end
section
variable {tab:Nat->Option aN} {H:Heap}
set_option maxHeartbeats 2000000 in
theorem tP (C:Code tab) (hw:Wf H) {ty:Nat} {t:AV} {es:List Edx} (ht:SlV CB ty H t es) (hok:∀ e∈es,xL e) (hne:es≠[]) :
  Ans tab (.fn gO [t]) H fun v H'=>v=.bool (i3 es)/\Kp H H':=by
 refine jp C.q17 zU fun T hl g0=>?_
 have lt:=ht.lenV
 have h0:0<es.length:=by cases es with | nil=>exact absurd rfl hne | cons x r=>simp
 obtain ⟨A,hA⟩:∃ A,A=es[0]:=⟨_,rfl⟩
 have hAm:A∈es:=by rw [hA]; exact List.getElem_mem _
 obtain ⟨ix0,fx,-,-,a2,-,a4,a5,-,-⟩:=eT ht h0
 rw [<- hA] at a2 a4 a5
 have ix0:a7 7 t (.int .i64 0)=some (br t 0):=ix0
 simp only [Nat.zero_mul,Nat.zero_add] at a2 a4 a5
 by_cases e1:es.length=1
 ·have e1':(es.length:Int)=1:=by omega
  have em:i3 es=decide (A.act.kind≠6):=by
   cases es with
   | nil=>simp at e1
   | cons x r =>
    cases r with
    | nil=>rw [hA]; rfl
    | cons y r=>simp at e1
  by_cases h6:A.act.kind=6
  ·have h6':(A.act.kind:Int)=6:=by omega
   have em':i3 es=false:=by rw [em]; simp [h6]
   rw [em']
   refine zW (jS hl g0 lt e1' ix0 fx @a2 h6') ?_
   exact zK
  ·have h6':¬ (A.act.kind:Int)=6:=by omega
   have em':i3 es=true:=by rw [em]; simp [h6]
   rw [em']
   refine zW (jS hl g0 lt e1' ix0 fx @a2 h6') ?_
   exact zK
 have e1':¬ (es.length:Int)=1:=by omega
 refine zW (dz hl g0 lt e1') ?_
 refine al ?_
 by_cases e2:es.length=2
 ·have e2':(es.length:Int)=2:=by omega
  have h1:1<es.length:=by omega
  obtain ⟨B,hB⟩:∃ B,B=es[1]:=⟨_,rfl⟩
  have hBm:B∈es:=by rw [hB]; exact List.getElem_mem _
  obtain ⟨ix1,-,-,-,b2,-,b4,b5,-,-⟩:=eT ht h1
  rw [<- hB] at b2 b4 b5
  have ix1:a7 7 t (.int .i64 1)=some (br t 7):=ix1
  simp only [Nat.one_mul] at b2 b4 b5
  have em:i3 es=(decide (A.act.kind=6) && (decide (B.act.kind=6) && (decide (B.act.cmp=md A.act.cmp) && qP gn A.act.args B.act.args))):=by
   cases es with
   | nil=>simp at e2
   | cons x r =>
    cases r with
    | nil=>simp at e2
    | cons y r =>
     cases r with
     | nil=>rw [hA,hB]; rfl
     | cons z r=>simp at e2
  rw [em]
  by_cases h6:A.act.kind=6
  ·have h6':(A.act.kind:Int)=6:=by omega
   by_cases h7:B.act.kind=6
   ·have h7':(B.act.kind:Int)=6:=by omega
    obtain ⟨c1,c2⟩:=(hok A hAm).cmp h6
    rw [decide_eq_true h6,decide_eq_true h7]
    refine zX (gt hl g0 lt e2' ix0 ix1 fx @a2 @a4 b2 @b4 h6' h7') ?_
    refine AnsH.eq (oU C zF c1 c2) fun H2 hk2=>?_
    obtain ⟨k2,_,_⟩:=zT H zK hk2
    have w2:=hk2.wf
    have le_hk2:=hk2.le
    have ht2:=ht.mono k2.sub
    obtain ⟨-,-,-,-,p2,-,p4,p5,-,-⟩:=eT ht2 h0
    obtain ⟨-,-,-,-,q2,-,q4,q5,-,-⟩:=eT ht2 h1
    rw [<- hA] at p2 p4 p5
    rw [<- hB] at q2 q4 q5
    simp only [Nat.zero_mul,Nat.zero_add,Nat.one_mul] at p2 p4 p5 q2 q4 q5
    by_cases h8:B.act.cmp=md A.act.cmp
    ·have h8':(B.act.cmp:Int)=(md A.act.cmp:Int):=by omega
     rw [decide_eq_true h8]
     refine zX (vG hl g0 lt e2' ix0 ix1 fx @a2 @a4 b2 @b4 p2 p4 p5 q2 q4 q5 h6' h7' h8') ?_
     refine AnsH.eq (lU C zF (fun H=>dZ (ty:=au) H _ _) (fun H=>dZ (ty:=au) H _ _) (hok A hAm).len (hok B hBm).len gn (fun x hx y hy H' hk=>tQ C _ x (Nat.le_refl _) ((hok A hAm).low x hx) y ((hok B hBm).low y hy) hk.wf)) fun H3 hk3=>?_
     have k3:Kp H H3:=k2.trans (Kp.trans zK hk3)
     have le_k3:=k3.le
     have w3:=hk3.wf
     have le_hk3:=hk3.le
     refine zX (vG hl g0 lt e2' ix0 ix1 fx @a2 @a4 b2 @b4 p2 p4 p5 q2 q4 q5 h6' h7' h8') ?_
     exact zK
    ·have h8':¬ (B.act.cmp:Int)=(md A.act.cmp:Int):=by omega
     rw [decide_eq_false h8]
     refine zX (vG hl g0 lt e2' ix0 ix1 fx @a2 @a4 b2 @b4 p2 p4 p5 q2 q4 q5 h6' h7' h8') ?_
     exact zK
   ·have h7':¬ (B.act.kind:Int)=6:=by omega
    rw [decide_eq_true h6,decide_eq_false h7]
    refine zX (d8 hl g0 lt e2' ix0 ix1 fx @a2 b2 h6' h7') ?_
    exact zK
  ·have h6':¬ (A.act.kind:Int)=6:=by omega
   rw [decide_eq_false h6]
   refine zX (fg hl g0 lt e2' ix0 ix1 fx @a2 b2 h6') ?_
   exact zK
 ·have e2':¬ (es.length:Int)=2:=by omega
  have em:i3 es=false:=by
   cases es with
   | nil=>simp at h0
   | cons x r =>
    cases r with
    | nil=>simp at e1
    | cons y r =>
     cases r with
     | nil=>simp at e2
     | cons z r=>rfl
  rw [em]
  refine zX (dz hl g0 lt e2') ?_
  exact zK
end
theorem pW:∀ {es:List (AV × AV)},e7 es->∀ z v z',(∃ w,(AV.int .i64 z',w)∈im (.int .i64 z) v es) ↔ (z'=z\/∃ w,(AV.int .i64 z',w)∈es)
 | [],_,z,v,z'=>by
  simp [im]
 | (k,w) :: es,h,z,v,z'=>by
  obtain ⟨y,hy⟩:=h _ (List.mem_cons_self ..)
  simp only at hy
  subst hy
  have ih:=pW (es:=es) (fun p hp=>h p (List.mem_cons_of_mem _ hp)) z v z'
  simp only [im,dV,if_true]
  by_cases hzy:z=y
  ·subst hzy
   simp only [beq_self_eq_true (α:=Int),List.mem_cons,Prod.mk.injEq,AV.int.injEq,true_and]
   constructor
   ·rintro ⟨w',⟨h1,-⟩ | h1⟩
    ·exact .inl h1
    ·exact .inr ⟨w',.inr h1⟩
   ·rintro (h1 | ⟨w',⟨h1,-⟩ | h1⟩)
    ·exact ⟨v,.inl ⟨h1,rfl⟩⟩
    ·exact ⟨v,.inl ⟨h1,rfl⟩⟩
    ·exact ⟨w',.inr h1⟩
  ·have e1:(z == y)=false:=by simpa using hzy
   simp only [e1,List.mem_cons,Prod.mk.injEq,AV.int.injEq,true_and]
   constructor
   ·rintro ⟨w',⟨h1,h2⟩ | h1⟩
    ·exact .inr ⟨w',.inl ⟨h1,h2⟩⟩
    ·rcases ih.1 ⟨w',h1⟩ with h1 | ⟨w',h1⟩
     ·exact .inl h1
     ·exact .inr ⟨w',.inr h1⟩
   ·rintro (h1 | ⟨w',⟨h1,h2⟩ | h1⟩)
    ·obtain ⟨w',h2⟩:=ih.2 (.inl h1)
     exact ⟨w',.inr h2⟩
    ·exact ⟨w',.inl ⟨h1,h2⟩⟩
    ·obtain ⟨w',h2⟩:=ih.2 (.inr ⟨w',h1⟩)
     exact ⟨w',.inr h2⟩
def NK (es:List (AV × AV)):Prop:=es.Pairwise fun p q=>p.1≠q.1
theorem yC:∀ {es:List (AV × AV)},e7 es->NK es->∀ z v,NK (im (.int .i64 z) v es)
 | [],_,_,z,v=>List.pairwise_singleton _ _
 | (k,w) :: es,h,hn,z,v=>by
  obtain ⟨y,hy⟩:=h _ (List.mem_cons_self ..)
  simp only at hy
  subst hy
  have hk:e7 es:=fun p hp=>h p (List.mem_cons_of_mem _ hp)
  obtain ⟨h1,h2⟩:=List.pairwise_cons.1 hn
  simp only [im,dV,if_true]
  by_cases hzy:z=y
  ·subst hzy
   simp only [beq_self_eq_true (α:=Int)]
   exact List.pairwise_cons.2 ⟨h1,h2⟩
  ·have e1:(z == y)=false:=by simpa using hzy
   simp only [e1]
   refine List.pairwise_cons.2 ⟨fun q hq e=>?_,yC hk h2 z v⟩
   obtain ⟨x,hx⟩:=nA hk z v q hq
   have hq':(AV.int .i64 x,q.2)∈im (.int .i64 z) v es:=by rw [<- hx]; exact hq
   rcases (pW hk z v x).1 ⟨_,hq'⟩ with h3 | ⟨w',h3⟩
   ·rw [hx,h3] at e
    injection e with _ e
    exact hzy e.symm
   ·exact h1 _ h3 (by rw [<- hx]; exact e)
theorem uP:∀ {es:List (AV × AV)},e7 es->NK es->∀ {z:Int} {w:AV},(AV.int .i64 z,w)∈es->dH es z=w
 | (k,v) :: es,h,hn,z,w,hm=>by
  obtain ⟨y,hy⟩:=h _ (List.mem_cons_self ..)
  simp only at hy
  subst hy
  obtain ⟨h1,h2⟩:=List.pairwise_cons.1 hn
  have ih:=uP (es:=es) (fun p hp=>h p (List.mem_cons_of_mem _ hp)) h2 (z:=z) (w:=w)
  unfold dH at ih ⊢
  simp only [iB,dV,if_true]
  by_cases hzy:z=y
  ·subst hzy
   simp only [beq_self_eq_true (α:=Int)]
   rcases List.mem_cons.1 hm with h3 | h3
   ·injection h3 with _ h3; exact h3.symm
   ·exact (h1 _ h3 rfl).elim
  ·have e1:(z == y)=false:=by simpa using hzy
   simp only [e1]
   rcases List.mem_cons.1 hm with h3 | h3
   ·injection h3 with h3 _; injection h3 with _ h3; exact absurd h3 hzy
   ·exact ih h3
abbrev zed:List AV:=[.int .i64 0,.int .i64 0,.int .u8 0,.int .i64 0,.int .u8 0,.nilSl,.int .i64 0]
theorem BV (e:Edx):cD zed [((0,7),.agg (eY e))]=some (eY e):=by
 show (if (AV.agg (eY e)).cells.length=7/\0+7<=zed.length/\(AV.agg (eY e)).cells.all AV.one=true then cD (zed.take 0++(AV.agg (eY e)).cells++zed.drop (0+7)) [] else none)=_
 have h:(AV.agg (eY e)).cells=eY e:=rfl
 rw [h,if_pos ⟨rfl,by decide,lN e⟩]
 simp [cD]
theorem pp {l:List Edx} {k:Nat} (h:k<l.length) (z:Int):cU (l.take (k+1)) z=cU (l.take k) z++if l[k].src=z then [l[k]] else []:=by
 rw [List.take_succ_eq_append_getElem h,jw,nS]
structure OutsV (H0 H:Heap) (mb:Nat) (l:List Edx) (es:List (AV × AV)):Prop where
 get:H.get mb=some (.map es)
 keys:e7 es
 nk:NK es
 bl:∀ z,Bl CB bc H0 H (dH es z) (cU l z)
 sep:∀ z z',z≠z'->Sep (dH es z) (dH es z')
 has:∀ z,(∃ w,(AV.int .i64 z,w)∈es) ↔ cU l z≠[]
theorem OutsV.mono {H0 H H':Heap} {mb:Nat} {l:List Edx} {es:List (AV × AV)} (hs:Sub H H') (h:OutsV H0 H mb l es):OutsV H0 H' mb l es :=
 ⟨hs.get _ _ h.get,h.keys,h.nk,fun z=>(h.bl z).mono hs,h.sep,h.has⟩
theorem kf {tab:Nat->Option aN} {rd:Bool} {c:ACode} {T:Tm} {H:Heap} {K:Ex->Tm->Heap->Prop} (p:Tm->Heap->Prop) (hp:p T H) (h:∀ T' H',p T' H'->WC tab rd c T' H' K):WC tab rd c T H K:=h T H hp
section
variable {tab:Nat->Option aN} {H:Heap}
set_option maxHeartbeats 2000000 in
theorem xb (C:Code tab) (hw:Wf H) {g:Gx} (hE:g.edges.length<=2048) :
  Ans tab (.fn iv [.agg (dW g)]) H fun v H'=>∃ mb es,v=.map mb/\H.next<=mb/\OutsV H H' mb g.edges es/\Kp H H':=by
 refine jp C.q16 zU fun T hl g0=>?_
 have bg:=ki g
 have sl:=fun H=>gp bc H g
 have ll:=iC g
 obtain ⟨s,hs⟩:∃ s,s=lg g:=⟨_,rfl⟩
 obtain ⟨l,hl'⟩:∃ l,l=g.edges:=⟨_,rfl⟩
 rw [<- hs] at bg sl ll
 rw [<- hl'] at sl ll hE ⊢
 simp -dsimp (maxSteps:=1000000) (disch:=(first | omega | assumption | exact ay _ | exact aA _ _ | exact aM | exact bh _ _ _ | exact aO _ _ | exact aP _ _ _ _ _ _ | exact bd _ _ | exact aR _)) only [↓iJ,iI,Nat.reduceLT,Nat.reduceEqDiff,Nat.reduceAdd,↓reduceIte,reduceCtorEq,Nat.reduceBEq,Int.reduceEq,Int.reduceLT,Int.reduceLE,Int.reduceAdd,Int.reduceSub,hl,g0,bg,↓x9,gV,ll]
 refine fI H [] (fun j _ H'=>∃ es,OutsV H H' (H.next+2) (l.take j) es) (a:=0) (N:=l.length) rfl (by refine zW (bb hl g0) ?_; rfl) (zV (bb hl g0)) (Nat.zero_le _) zO (by simp only [List.length_set,hl]; rfl) rfl (fun j vs H' m ⟨es,h⟩=>⟨es,h.mono (Sub.bump H' m)⟩) zK ⟨[],⟨(oH),(fun p hp=>nomatch hp),List.Pairwise.nil,(fun z=>Bl.nil),(fun z z' _ x hx=>by cases hx),(fun z=>by simp [cU])⟩⟩ ?_ ?_
 ·rintro j T1 H1-hj hl1 hi1 hs1 hk1 ⟨es,hO⟩
  have w1:=hk1.wf
  have le_hk1:=hk1.le
  have le1:=hk1.le
  have t3:aa T1 3=.map (H.next+2):=(hs1.at_ 3 zU).trans (zV (bb hl g0))
  have t8:aa T1 8=s:=(hs1.at_ 8 zU).trans (zV (bb hl g0))
  simp only [List.length_set,hl] at hl1
  obtain ⟨e,he⟩:∃ e,e=l[j]:=⟨_,rfl⟩
  obtain ⟨ix,fx,-⟩:=eT (sl default) hj
  have x7:=fun H=>(eT (sl H) hj).2.2.2.2.2.2.2.2.1
  rw [<- he] at x7
  have se:=ko (ty:=bc) (cs:=zed) (n:=7) (ds:=eY e) rfl rfl (lN _)
  refine zW (lf hl1 t3 t8 hi1 ix x7 se) ?_
  refine kf (fun T' Y=>T'.length=26/\aa T' 3=.map (H.next+2)/\aa T' 5=.ptr (H1.next+2) 0/\Y.get (H1.next+2)=some (.cells (eY e) bc true)/\Kp H1 Y) ?_ ?_
  ·refine zW (bb hl1 t3) ?_
   exact zK
  clear hl1 t3 t8 hi1 ix fx x7 se hs1
  rintro T Y ⟨hl,t3,t5,dE,kY⟩
  have wY:=kY.wf
  have kHY:=hk1.trans kY
  have hOY:=hO.mono kY.sub
  have tE:aB (eY e) 0 none=some (.int .i64 e.src):=rfl
  have tE7:aB (eY e) 0 (some 7)=some (.agg (eY e)):=rm rfl
  have lk:=fun n=>BM (H:=Y.up n) (show (Y.up n).get (H.next+2)=_ from hOY.get) hOY.keys e.src
  have hlen:(cU (l.take j) e.src).length<=2048:=Nat.le_trans (nT _ _) (Nat.le_trans (by rw [List.length_take]; omega) hE)
  have fle:=BV e
  have leY:=kY.le
  obtain ⟨n,H6,e1,h2,k6,n6,f6,u6⟩:=Bl.push1 (ty2:=bc) (bytes:=72) (id:=Y.next+9) (id2:=Y.next+8) (k:=11) (cs:=eY e) (a:=e) (hOY.bl e.src) (fun h=>by cases h) kHY rfl zO zO zO zO zO zO zO
  have e1':iV ((Y.up 11).put (Y.next+8) (.cells (eY e) bc true)) (Y.next+9) 7 72 bc (dH es e.src) (.own (Y.next+8) 0 1 1 7 true)=some (.own (Y.next+9) 0 n n 7 false,H6):=e1
  have hm6:H6.get (H.next+2)=some (.map es):=f6.other (hOY.bl e.src) hOY.get (fun cs h=>by cases h)
  have up6:=Er hm6 hOY.keys e.src (.own (Y.next+9) 0 n n 7 false)
  have hb1:∀ x,pH (dH es e.src)=some x->x<H1.next:=fun x hx=>by
   obtain ⟨cells,h⟩:=(hO.bl e.src).blk hx
   exact w1 _ _ h
  have dE6:H6.get (H1.next+2)=some (.cells (eY e) bc true):=f6 _ _ dE fun e=>by have:=hb1 _ e; omega
  refine al ?_
  simp -dsimp (maxSteps:=1000000) (disch:=(first | omega | assumption | exact ay _ | exact aA _ _ | exact aM | exact bh _ _ _ | exact aO _ _ | exact aP _ _ _ _ _ _ | exact bd _ _ | exact aR _)) only [↓iJ,iI,↓Cu,Ct,Nat.reduceLT,Nat.reduceEqDiff,Nat.reduceAdd,↓reduceIte,reduceCtorEq,Nat.reduceBEq,Int.reduceEq,Int.reduceLT,Int.reduceLE,Int.reduceAdd,Int.reduceSub,hl,g0,t3,t5,dE,dE6,tE,tE7,↓iN,↓vK,sP,lk,fle,e1',up6]
  have w6:=k6.wf
  have l6:=w6 _ _ hm6
  have nm:∀ tys e,SubT tys H6 (H6.put (H.next+2) e):=fun tys e=>SubT.puts (SubT.refl _ _) (NoTy.map hm6)
  refine ⟨zK,_,aq _ _ _,nA hOY.keys _ _,yC hOY.keys hOY.nk _ _,fun z=>?_,fun z z' hne=>?_,fun z=>?_⟩
  ·rw [j6 hOY.keys,pp hj,<- he]
   by_cases hz:z=e.src
   ·subst hz
    rw [if_pos rfl,if_pos rfl]
    exact h2.monoT (nm _ _)
   ·rw [if_neg hz,if_neg (fun e=>hz e.symm),List.append_nil]
    exact (f6.bl (hOY.bl e.src) (hOY.bl z) (hOY.sep _ _ (fun e=>hz e.symm)) (fun h=>by cases h)).monoT (nm _ _)
  ·have hnew:∀ z,Sep (.own (Y.next+9) 0 n n 7 false) (dH es z):=fun z x hx hy=>by
    cases hx
    obtain ⟨cells,hcl⟩:=(hOY.bl z).blk hy
    rw [wY.fresh (b:=Y.next+9) zO] at hcl; cases hcl
   rw [j6 hOY.keys,j6 hOY.keys]
   by_cases h1:z=e.src
   ·by_cases h2:z'=e.src
    ·exact absurd (h1.trans h2.symm) hne
    ·rw [if_pos h1,if_neg h2]; exact hnew z'
   ·by_cases h2:z'=e.src
    ·rw [if_neg h1,if_pos h2]; exact (hnew z).symm
    ·rw [if_neg h1,if_neg h2]; exact hOY.sep z z' hne
  ·rw [pW hOY.keys,pp hj,<- he,hOY.has z]
   by_cases hz:z=e.src
   ·simp [hz]
   ·simp [hz,Ne.symm hz]
 ·rintro T1 H1 hl1 hs1 hk1 ⟨es,hO⟩
  have t3:aa T1 3=.map (H.next+2):=(hs1.at_ 3 zU).trans (zV (bb hl g0))
  simp only [List.length_set,hl] at hl1
  rw [List.take_length] at hO
  refine zW (bb hl1 t3) ?_
  exact ⟨H.next+2,es,rfl,by omega,hO.mono (Sub.bump H1 _),zK⟩
end
theorem Df {T T':Tm} (hl:T.length=T'.length) (h:∀ i,aa T i=aa T' i):T=T':=by
 refine List.ext_getElem hl fun i h1 h2=>?_
 have e:=h i
 unfold aa at e
 rw [List.getD_eq_getElem?_getD,List.getD_eq_getElem?_getD,List.getElem?_eq_getElem h1,List.getElem?_eq_getElem h2] at e
 exact e
theorem pg (W:List Nat) (T:Tm):(fE W T).length=T.length:=by simp [fE]
theorem li (W:List Nat) (T:Tm) (i:Nat):aa (fE W T) i=if W.contains i=true then .undef else aa T i:=by
 unfold aa fE
 rw [List.getD_eq_getElem?_getD,List.getD_eq_getElem?_getD]
 by_cases h:i<T.length
 ·rw [List.getElem?_eq_getElem (by simpa using h),List.getElem?_eq_getElem h]
  simp
 ·rw [List.getElem?_eq_none (by simpa using h),List.getElem?_eq_none zO]
  split <;> rfl
theorem Bj {T2:Tm} {t:Tm} {ts:List Tm} {r:Nat} {k:IntKind} {n:Int} (hr:r<T2.length) (hu:aa T2 r=.undef) (h:∀ u∈t :: ts,aa u r=.int k n):aa (nN T2 (t :: ts)) r=.int k n:=by
 have e:T2[r]=.undef:=by
  unfold aa at hu
  rw [List.getD_eq_getElem?_getD,List.getElem?_eq_getElem hr] at hu
  exact hu
 have ht:=h t (List.mem_cons_self ..)
 have hts:ts.all (fun u=>AV.beq (aa u r) (.int k n))=true:=List.all_eq_true.2 fun u hu=>by rw [h u (List.mem_cons_of_mem _ hu)]; exact AV.beq_refl' _
 unfold nN
 rw [show ∀ l:Tm,aa l r=(l[r]?).getD .undef from fun l=>by unfold aa; rw [List.getD_eq_getElem?_getD]]
 rw [List.getElem?_map,List.getElem?_zipIdx,List.getElem?_eq_getElem hr]
 simp only [Option.map_some,Nat.zero_add,Option.getD_some,e,ht,hts,if_true]
theorem pK:∀ l:List AV,AV.beqs l l=true
 | []=>rfl
 | a :: l=>by simp only [AV.beqs,AV.beq_refl',pK l,Bool.and_self]
theorem pw {α β:Type} {F:Nat->Nat->α->Option β} {y:α->β}:∀ {l:List α},(∀ p∈l,∃ N,∀ m n,N<=m->N<=n->F m n p=some (y p))->∃ N,∀ m n,N<=m->N<=n->l.mapM (F m n)=some (l.map y)
 | [],_=>⟨0,fun _ _ _ _=>rfl⟩
 | p :: l,h=>by
  obtain ⟨N1,h1⟩:=h p (List.mem_cons_self ..)
  obtain ⟨N2,h2⟩:=pw (l:=l) fun q hq=>h q (List.mem_cons_of_mem _ hq)
  refine ⟨N1+N2,fun m n hm hn=>?_⟩
  rw [List.mapM_cons,h1 m n zO zO,h2 m n zO zO]
  rfl
def Heap.rdo (H:Heap):Heap:={ (H.up 2).ro with next:=(H.up 2).next+1 }
def wj (bid2 r:Nat) (k:IntKind) (n:Int) (b:Bool) (x:Ex) (T:Tm) (_:Heap):Prop:=(x=.ret/\b=true/\aa T r=.int k n)\/((x=.nrm\/x=.exit bid2)/\b=false)
theorem nL {bid2 r:Nat} {k:IntKind} {n:Int} {b:Bool} {T:Tm} {H:Heap}:wj bid2 r k n b .ret T H=(b=true/\aa T r=.int k n):=by simp [wj]
theorem nM {bid2 r:Nat} {k:IntKind} {n:Int} {b:Bool} {T:Tm} {H:Heap}:wj bid2 r k n b .nrm T H=(b=false):=by simp [wj]
section
variable {tab:Nat->Option aN}
theorem vQ {a c it nx ex bid bid2 en r b:Nat} {ops:List oF} {rest:ACode} {W:List Nat} {T:Tm} {H:Heap} {Q:Ex->Tm->Heap->Prop} {es:List (AV × AV)} {k:IntKind} {n:Int} (f:AV × AV->Bool)
  (hm:aa T c=.map b) (hb:H.get b=some (.map es)) (hla:a<T.length) (hli:it<T.length) (hlx:nx<T.length/\ex<T.length/\en<T.length/\r<T.length)
  (hc:(nx :: ex :: en :: W).contains it=false) (hr:(nx :: ex :: en :: W).contains r=true) (hp:eN (.seq (.region ops) rest)=true) (hd:(dt (.seq (.region ops) rest)).all (fun d=>(nx :: ex :: en :: W).contains d)=true)
  (hround:∀ p∈es,∀ T2:Tm,T2.length=T.length->(∀ i,i≠a->i≠it->(nx :: ex :: en :: W).contains i=false->aa T2 i=aa T i)->aa T2 en=.tup [p.1,p.2] ->
   WC tab false (.seq (.region ops) rest) T2 (Heap.rdo H) (wj bid2 r k n (f p)))
  (hq1:(∀ p∈es,f p=false)->∀ T2:Tm,T2.length=T.length->(∀ i,i≠a->i≠it->(nx :: ex :: en :: W).contains i=false->aa T2 i=aa T i)->Q .nrm T2 (H.up 2))
  (hq2:(∃ p∈es,f p=true)->∀ T2:Tm,T2.length=T.length->aa T2 r=.int k n->Q .ret T2 (H.up 2)) :
  WC tab false (.rangeM [⟨some a,.mv (.t c),none⟩] (.t a) it nx ex bid bid2 en ops rest W) T H Q:=by
 obtain ⟨W',hW'⟩:∃ W',W'=nx :: ex :: en :: W:=⟨_,rfl⟩
 rw [<- hW'] at hc hr hd hround hq1
 obtain ⟨T1,hT1⟩:∃ T1,T1=T.set a (.map b):=⟨_,rfl⟩
 have hl1:T1.length=T.length:=by rw [hT1,List.length_set]
 obtain ⟨T2,hT2⟩:∃ T2,T2=fE W' (T1.set it (.ptr (H.next+1) 0)):=⟨_,rfl⟩
 have hl2:T2.length=T.length:=by rw [hT2,pg,List.length_set,hl1]
 have h2it:aa T2 it=.ptr (H.next+1) 0:=by
  rw [hT2,li,hc]
  simp only [Bool.false_eq_true,if_false]
  unfold aa
  rw [List.getD_eq_getElem?_getD,List.getElem?_set_self zO]; rfl
 have h2:∀ i,i≠a->i≠it->W'.contains i=false->aa T2 i=aa T i:=fun i h1 h2 h3=>by
  rw [hT2,li,h3]
  simp only [Bool.false_eq_true,if_false]
  rw [er _ _ _ _ (Ne.symm h2),hT1,er _ _ _ _ (Ne.symm h1)]
 have h2W:∀ i,W'.contains i=true->aa T2 i=.undef:=fun i h=>by rw [hT2,li,if_pos h]
 have hen:W'.contains en=true:=by rw [hW']; simp
 have one:∀ p∈es,∃ o:Option Tm,(∀ t,o=some t->f p=true/\aa t r=.int k n)/\(o=none->f p=false)/\∃ N,∀ m n,N<=m->N<=n ->
   ib W' bid2 T2 (match io (gy tab dP m n) ((H.up 2).next+1) ops (T2.set en (.tup [p.1,p.2])) { (H.up 2).ro with next:=(H.up 2).next+(ops.length+1) } with
    | some (T3,H3)=>aw (gy tab dP m n) m false rest T3 H3
    | none=>none)=some o:=by
  intro p hpm
  have hwc:=hround p hpm (T2.set en (.tup [p.1,p.2])) (by rw [List.length_set,hl2]) (fun i h1 h3 h4=>by
   rw [er _ _ _ _ (fun e=>by rw [<- e,hen] at h4; cases h4)]; exact h2 i h1 h3 h4) (by
   unfold aa
   rw [List.getD_eq_getElem?_getD,List.getElem?_set_self zO]; rfl)
  obtain ⟨x,T4,H4,⟨N,g⟩,hs,hq⟩:=hwc.wb.same hp
  have hbe:AV.beqs (fE W' T4) T2=true:=by
   have e:fE W' T4=T2:=Df (by rw [pg,hs.len,List.length_set]) fun i=>by
    rw [li]
    by_cases hi:W'.contains i=true
    ·rw [if_pos hi,h2W i hi]
    ·rw [if_neg hi,hs.at_ i (fun h=>hi (List.all_eq_true.1 hd i h))]
     exact er _ _ _ _ (fun e=>hi (by rw [<- e]; exact hen))
   rw [e]; exact pK _
  have run:∀ m n,N<=m->N<=n->(match io (gy tab dP m n) ((H.up 2).next+1) ops (T2.set en (.tup [p.1,p.2])) { (H.up 2).ro with next:=(H.up 2).next+(ops.length+1) } with
    | some (T3,H3)=>aw (gy tab dP m n) m false rest T3 H3
    | none=>none)=some (x,T4,H4):=fun m n hm hn=>by
   have g1:=g m n hm hn
   simp only [aw,Heap.rdo] at g1
   rw [show (H.up 2).next+1+ops.length=(H.up 2).next+(ops.length+1) by omega] at g1
   rw [<- g1]
   split <;> rename_i h <;> rw [h]
  unfold wj at hq
  rcases hq with ⟨rfl,hf,hv⟩ | ⟨hx,hf⟩
  ·refine ⟨some T4,fun t ht=>by cases ht; exact ⟨hf,hv⟩,fun h=>(nomatch h),N,fun m n hm hn=>?_⟩
   rw [run m n hm hn]
   simp only [ib,hbe,if_true]
  ·refine ⟨none,fun t ht=>(nomatch ht),fun _=>hf,N,fun m n hm hn=>?_⟩
   rw [run m n hm hn]
   rcases hx with rfl | rfl
   ·simp only [ib,hbe,if_true]
   ·simp only [ib,hbe,and_self,if_true]
 obtain ⟨y,hy⟩:∃ y:AV × AV->Option Tm,∀ p∈es,(∀ t,y p=some t->f p=true/\aa t r=.int k n)/\(y p=none->f p=false)/\∃ N,∀ m n,N<=m->N<=n ->
   ib W' bid2 T2 (match io (gy tab dP m n) ((H.up 2).next+1) ops (T2.set en (.tup [p.1,p.2])) { (H.up 2).ro with next:=(H.up 2).next+(ops.length+1) } with
    | some (T3,H3)=>aw (gy tab dP m n) m false rest T3 H3
    | none=>none)=some (y p):=by
  have hh:∀ p:AV × AV,∃ o:Option Tm,p∈es->(∀ t,o=some t->f p=true/\aa t r=.int k n)/\(o=none->f p=false)/\∃ N,∀ m n,N<=m->N<=n ->
   ib W' bid2 T2 (match io (gy tab dP m n) ((H.up 2).next+1) ops (T2.set en (.tup [p.1,p.2])) { (H.up 2).ro with next:=(H.up 2).next+(ops.length+1) } with
    | some (T3,H3)=>aw (gy tab dP m n) m false rest T3 H3
    | none=>none)=some o:=fun p=>by
   by_cases h:p∈es
   ·obtain ⟨o,ho⟩:=one p h; exact ⟨o,fun _=>ho⟩
   ·exact ⟨none,fun h'=>absurd h' h⟩
  exact ⟨fun p=>Classical.choose (hh p),fun p hp=>Classical.choose_spec (hh p) hp⟩
 obtain ⟨N,hN⟩:=pw (F:=fun m n p=>ib W' bid2 T2 (match io (gy tab dP m n) ((H.up 2).next+1) ops (T2.set en (.tup [p.1,p.2])) { (H.up 2).ro with next:=(H.up 2).next+(ops.length+1) } with
    | some (T3,H3)=>aw (gy tab dP m n) m false rest T3 H3
    | none=>none)) (y:=y) fun p hp=>(hy p hp).2.2
 have fin:∀ m n,N<=m->N<=n->aw (gy tab dP m n) m false (.rangeM [⟨some a,.mv (.t c),none⟩] (.t a) it nx ex bid bid2 en ops rest W) T H=match (es.map y).filterMap (fun x=>x) with
   | []=>some (.nrm,T2,H.up 2)
   | l=>some (.ret,nN T2 l,H.up 2):=fun m n hm1 hn1=>by
  have e1:io (gy tab dP m n) H.next [⟨some a,.mv (.t c),none⟩] T { H with next:=H.next+(([⟨some a,.mv (.t c),none⟩]:List oF).length+1) } = some (T1,H.up 2):=by
   simp only [io,bG,nh,aF,gN,Src.ev]; rw [hm,hT1]; rfl
  have e2:aa T1 a=.map b:=by
   rw [hT1]; unfold aa
   rw [List.getD_eq_getElem?_getD,List.getElem?_set_self hla]; rfl
  have e3:(H.up 2).get b=some (.map es):=hb
  have hcond:AV.beq (aa T2 it) (.ptr (H.next+1) 0)=true/\nx<T1.length/\ex<T1.length/\en<T1.length:=⟨by rw [h2it]; exact AV.beq_refl' _,by omega,by omega,by omega⟩
  have hN':=hN m n hm1 hn1
  unfold aw
  rw [e1]
  simp only [Src.ev,e2,e3,List.length_cons,List.length_nil,Nat.zero_add]
  rw [<- hW',<- hT2,if_pos hcond]
  refine (congrArg (fun o:Option (List (Option Tm))=>match o with | none=>none | some l=>match l.filterMap (fun x=>x) with | []=>some (Ex.nrm,T2,H.up 2) | r=>some (Ex.ret,nN T2 r,H.up 2)) hN').trans rfl
 rw [jR]
 cases hl:(es.map y).filterMap (fun x=>x) with
 | nil =>
  refine ⟨.nrm,T2,H.up 2,⟨N,fun m n hm hn=>by rw [fin m n hm hn,hl]⟩,hq1 (fun p hp=>(hy p hp).2.1 ?_) T2 hl2 h2⟩
  cases hyp:y p with
  | none=>rfl
  | some t =>
   have:t∈(es.map y).filterMap (fun x=>x):=List.mem_filterMap.2 ⟨some t,List.mem_map.2 ⟨p,hp,hyp⟩,rfl⟩
   rw [hl] at this; cases this
 | cons t ts =>
  have all:∀ u∈t :: ts,∃ p∈es,y p=some u:=fun u hu=>by
   rw [<- hl] at hu
   obtain ⟨o,ho,e⟩:=List.mem_filterMap.1 hu
   obtain ⟨p,hp,e2⟩:=List.mem_map.1 ho
   exact ⟨p,hp,e2.trans e⟩
  refine ⟨.ret,nN T2 (t :: ts),H.up 2,⟨N,fun m n hm hn=>by rw [fin m n hm hn,hl]⟩,hq2 ?_ _ ?_ ?_⟩
  ·obtain ⟨p,hp,e⟩:=all t (List.mem_cons_self ..)
   exact ⟨p,hp,((hy p hp).1 t e).1⟩
  ·simp only [nN,List.length_map,List.length_zipIdx,hl2]
  ·exact Bj zO (h2W r hr) fun u hu=>by
    obtain ⟨p,hp,e⟩:=all u hu
    exact ((hy p hp).1 u e).2
end
theorem l4 {H:Heap} (hw:Wf H) {b ty:Nat} {cs:List AV} {r:Bool} (h:H.get b=some (.cells cs ty r)):(Heap.rdo H).get b=some (.cells cs ty false):=by
 have hb:=hw _ _ h
 show (H.up 2).ro.get b=_
 rw [Heap.get_ro,if_pos (by have:b<(H.up 2).next:=Nat.lt_of_lt_of_le hb (Nat.le_add_right _ _); omega)]
 show wi (H.get b)=_
 rw [h]; rfl
theorem Bm {H:Heap} (hw:Wf H) {b:Nat} {es:List (AV × AV)} (h:H.get b=some (.map es)):(Heap.rdo H).get b=some (.mapR es):=by
 have hb:=hw _ _ h
 show (H.up 2).ro.get b=_
 rw [Heap.get_ro,if_pos (by have:b<(H.up 2).next:=Nat.lt_of_lt_of_le hb (Nat.le_add_right _ _); omega)]
 show wi (H.get b)=_
 rw [h]; rfl
theorem Dp {H:Heap} (hw:Wf H):Wf (Heap.rdo H):=fun b e h=>by
 have h':(H.up 2).ro.get b=some e:=h
 rw [Heap.get_ro] at h'
 have e1:(Heap.rdo H).next=H.next+3:=rfl
 by_cases hb:b<H.next
 ·omega
 ·have hn:H.get b=none:=hw.fresh zO
  have hn:(H.up 2).get b=none:=hn
  rw [hn] at h'
  split at h' <;> cases h'
theorem Bk {α:Type} {f:α->List AV} {sz ty:Nat} {hp:0<sz} {hl:∀ a,(f a).length=sz} {h1:∀ a,(f a).all AV.one=true} {H:Heap} (hw:Wf H) {v:AV} {l:List α} (h:SlV (uG sz f hp hl h1) ty H v l):SlV (uG sz f hp hl h1) ty (Heap.rdo H) v l:=by
 obtain ⟨cells,⟨h0,h2,n,h3,h4⟩,ht,hc⟩:=h
 refine ⟨cells,⟨h0,h2,n,h3,?_⟩,fun b off n c z x e=>?_,hc.1,fun i a hi=>hc.2 i a hi⟩
 ·unfold bE at h4 ⊢
  split at h4
  ·split at h4
   ·rename_i cs ty' rw' hb
    rw [l4 hw hb]; exact h4
   ·cases h4
  all_goals exact h4
 ·obtain ⟨cs,r,hb⟩:=ht b off n c z x e
  exact ⟨cs,false,l4 hw hb⟩
theorem BN {H:Heap} {mb:Nat} {es:List (AV × AV)} (hm:H.get mb=some (.mapR es)) (hk:e7 es) (z:Int):jg H .int .nilSl (.map mb) (.int .i64 z) false=some (dH es z):=by
 obtain ⟨o,ho⟩:=qI hk z
 simp only [jg,eD,Bool.true_eq_false,if_false,lC,hm,ho,dH]
 cases o <;> rfl
section
variable {tab:Nat->Option aN} {H:Heap} {s:AV}
theorem oG (C:Code tab) (hw:Wf H) {ty fi:Nat} {l:List Int} (hs:∀ H,SlV (mY (qA .i64)) ty H s l) (hbig:l.length<4611686018427387904) (p:Int->Bool)
  (hf:∀ a∈l,∀ H',Kp H H'->Ans tab (.fn fi [.int .i64 a]) H' fun v H2=>v=.bool (p a)/\Kp H' H2) :
  Ans tab (.fn bO [s,.fn (.func fi) [] []]) H fun v H'=>v=.int .i64 (ky p l)/\Kp H H':=by
 refine i9 C.q25 zU fun T hl g0 g1=>?_
 have ll:=(hs H).lenV
 refine zW (dz hl g0 g1 ll) ?_
 refine fI H [] (fun j _ _=>∀ k (h:k<l.length),k<j->p l[k]=false) (a:=0) (N:=l.length) rfl (by refine zW (fe hl g0 g1) ?_; rfl) (zV (fe hl g0 g1)) (Nat.zero_le _) zO (by simp only [List.length_set,hl]; rfl) rfl (fun _ _ _ _ h=>h) zK (fun k _ h=>by omega) ?_ ?_
 ·intro j T1 H1 _ hj hl1 hi1 hs1 hk1 hP
  have w1:=hk1.wf
  have le_hk1:=hk1.le
  have t0:aa T1 0=s:=(hs1.at_ 0 zU).trans (zV (bb hl g0))
  have t1:aa T1 1=.fn (.func fi) [] []:=(hs1.at_ 1 zU).trans (zV (dz hl g0 g1 g1))
  have ix:a7 1 s (.int .i64 (j:Int))=some (br s j):=SlV.idx1 (hs default) .i64 j hj
  have ld:∀ H,bC H none (br s j)=some (.int .i64 l[j]):=fun H=>by
   obtain ⟨c,hc,hld⟩:=SlV.at1 (hs H) (i:=j) (a:=l[j]) (List.getElem?_eq_getElem hj)
   have hc:c=.int .i64 l[j]:=hc
   rw [hld,hc]
  simp only [List.length_set,hl] at hl1
  refine zW (gD hl1 t0 t1 hi1 ix ld) ?_
  refine AnsH.eq (hf _ (List.getElem_mem hj) _ zK) fun H2 hk2=>?_
  obtain ⟨k2,_,_⟩:=zT H zK hk2
  cases hp:p l[j] with
  | true =>
   refine zW hl1 ?_
   exact ⟨by rw [mn hj hP hp],zK⟩
  | false =>
   refine zW hl1 ?_
   refine ⟨zK,fun k h hk=>?_⟩
   by_cases e:k=j
   ·subst e; exact hp
   ·exact hP k h zO
 ·intro T1 H1 hl1 hs1 hk1 hP
  simp only [List.length_set,hl] at hl1
  refine zW hl1 ?_
  exact ⟨by rw [kM fun k h=>hP k h h],zK⟩
theorem lV (C:Code tab) (hw:Wf H) {ty fi:Nat} {l:List Int} (hs:∀ H,SlV (mY (qA .i64)) ty H s l) (hbig:l.length<4611686018427387904) (p:Int->Bool)
  (hf:∀ a∈l,∀ H',Kp H H'->Ans tab (.fn fi [.int .i64 a]) H' fun v H2=>v=.bool (p a)/\Kp H' H2) :
  Ans tab (.fn bB [s,.fn (.func fi) [] []]) H fun v H'=>v=.bool (l.any p)/\Kp H H':=by
 refine i9 C.q12 zU fun T hl g0 g1=>?_
 refine zW (fe hl g0 g1) ?_
 refine AnsH.eq (oG C zF hs hbig p fun a ha H' hk=>hf a ha H' (Kp.trans (H:=H) zK hk)) fun H2 hk2=>?_
 obtain ⟨k2,_,_⟩:=zT H zK hk2
 refine zW (fe hl g0 g1) ?_
 exact ⟨by rw [mo],zK⟩
theorem oW (C:Code tab) (hw:Wf H) {n:Int}:Ans tab (.fn fm [.int .i64 n]) H fun v H'=>v=.bool (!mg n)/\Kp H H':=by
 refine jp C.q13 zU fun T hl g0=>?_
 by_cases h:n<1
 ·have e:mg n=false:=by unfold mg; rw [decide_eq_false zO]
  rw [e]
  refine zW (fe hl g0 h) ?_
  exact zK
 ·by_cases h2:16<n
  ·have e:mg n=false:=by unfold mg; rw [decide_eq_false zO]
   rw [e]
   refine zW (dz hl g0 h h2) ?_
   exact zK
  ·have e:mg n=true:=by unfold mg; rw [decide_eq_true zO]
   rw [e]
   refine zW (dz hl g0 h h2) ?_
   exact zK
theorem Fw (e:Edx):kh (.agg (eY e))=some (eY e):=iT (lN e)
theorem FH (e:Edx):aB (eY e) 0 none=some (.int .i64 e.src)/\aB (eY e) 1 none=some (.int .i64 e.dst)/\aB (eY e) 2 (some 4)=some (.agg (fV e.act)):=⟨rfl,rfl,rfl⟩
theorem oV (C:Code tab) (hw:Wf H) {g:Gx} {e:Edx} {b:Nat} (hb:H.get b=some (.cells [.int .i64 g.vars,jN g,.int .i64 g.nodes,.int .i64 g.start,.int .i64 g.last,lg g] ah true))
  (hlow:(∀ x∈e.act.args,km x)/\e.act.args.length<4611686018427387904) :
  Ans tab (.fn fl [.agg (eY e),.ptr b 0]) H fun v H'=>v=.bool (!mh g e)/\Kp H H':=by
 refine i9 C.q14 zU fun T hl g0 g1=>?_
 have hlt:=hw _ _ hb
 have be:=Fw e
 obtain ⟨e0,e1,e2⟩:=FH e
 have tg:aB [.int .i64 g.vars,jN g,.int .i64 g.nodes,.int .i64 g.start,.int .i64 g.last,lg g] 0 (some 6)=some (.agg (dW g)):=rfl
 refine zW (gD hl g0 g1 be hb e0) ?_
 refine AnsH.eq (fw C zF) fun H2 hk2=>?_
 obtain ⟨k2,_,_⟩:=zT H zK hk2
 have w2:=hk2.wf
 have le_hk2:=hk2.le
 have hb2:=k2.get hb
 have hE2:H2.get H.next=some (.cells (eY e) bc true):=hk2.get (oH)
 unfold mh
 by_cases c1:0<=e.src/\e.src<g.nodes
 ·rw [decide_eq_true c1,Bool.true_and]
  refine zW (lf hl g0 g1 g1 hb2 hE2 e1) ?_
  refine AnsH.eq (fw C zF) fun H3 hk3=>?_
  obtain ⟨k23,_,_⟩:=zT H2 zK hk3
  have k3:Kp H H3:=k2.trans k23
  have le_k3:=k3.le
  have w3:=hk3.wf
  have le_hk3:=hk3.le
  have hb3:=k3.get hb
  have hE3:=k23.get hE2
  by_cases c2:0<=e.dst/\e.dst<g.nodes
  ·rw [decide_eq_true c2,Bool.true_and]
   refine zW (jS hl g0 g1 g1 hb3 hE3 e2 tg) ?_
   refine AnsH.eq (xd C zF hlow.1 hlow.2) fun H4 hk4=>?_
   have k4:Kp H H4:=k3.trans (Kp.trans zK hk4)
   have le_k4:=k4.le
   have w4:=hk4.wf
   have le_hk4:=hk4.le
   refine zW (fe hl g0 g1) ?_
   exact zK
  ·rw [decide_eq_false c2,Bool.false_and]
   refine zW (fe hl g0 g1) ?_
   exact zK
 ·rw [decide_eq_false c1,Bool.false_and]
  refine zW (fe hl g0 g1) ?_
  exact zK
end
def Ed (g:Gx):Prop:=(0<=g.vars/\g.vars<=32)/\g.arrays.length<=4/\(2<=g.nodes/\g.nodes<=4096)/\g.edges.length<=2048
def Ec (g:Gx):Prop:=((0<=g.start/\g.start<g.nodes)/\(0<=g.last/\g.last<g.nodes))/\g.start≠g.last
def kg (g:Gx) (z:Int):Bool:=decide (z=g.last) || (!i3 (cU g.edges z) || cG g.edges z g.edges.length z)
def EW (g:Gx) (p:AV × AV):Bool:=match p.1 with
 | .int _ z=>kg g z
 | _=>false
def jI (g:Gx):Bool:=decide (m6 g) && (g.arrays.all mg && (g.edges.all (mh g) && g.edges.all fun e=>!kg g e.src))
theorem vo {g:Gx} (h:¬ m6 g):jI g=false:=by unfold jI; rw [decide_eq_false h]; rfl
theorem Ca {g:Gx} (h:g.arrays.all mg=false):jI g=false:=by unfold jI; rw [h]; simp
theorem B8 {g:Gx} (h:g.edges.all (mh g)=false):jI g=false:=by unfold jI; rw [h]; simp
theorem B9 {g:Gx} {z:Int} (h:cU g.edges z≠[]) (hz:kg g z=true):jI g=false:=by
 have:(g.edges.all fun e=>!kg g e.src)=false:=by
  cases he:cU g.edges z with
  | nil=>exact absurd he h
  | cons e l =>
   have hm:e∈cU g.edges z:=by rw [he]; exact List.mem_cons_self ..
   obtain ⟨h1,h2⟩:=List.mem_filter.1 hm
   have h2:e.src=z:=by simpa using h2
   rw [List.all_eq_false]
   exact ⟨e,h1,by rw [h2,hz]; simp⟩
 unfold jI; rw [this]; simp
theorem DY {g:Gx} (h1:m6 g) (h2:g.arrays.all mg=true) (h3:g.edges.all (mh g)=true) (h4:∀ z,cU g.edges z≠[]->kg g z=false):jI g=true:=by
 have:(g.edges.all fun e=>!kg g e.src)=true:=List.all_eq_true.2 fun e he=>by
  rw [h4 e.src fun h=>?_]; rfl
  have:e∈cU g.edges e.src:=List.mem_filter.2 ⟨he,by simp⟩
  rw [h] at this; cases this
 unfold jI; rw [decide_eq_true h1,h2,h3,this]; rfl
section
variable {tab:Nat->Option aN} {H:Heap}
set_option maxHeartbeats 4000000 in
theorem rZ (C:Code tab) (hw:Wf H) {g:Gx} (hg:mT g) (hlow:∀ e∈g.edges,(∀ x∈e.act.args,km x)/\e.act.args.length<4611686018427387904) :
  Ans tab (.fn fT [.agg (dW g)]) H fun v H'=>v=.int .i64 (if jI g=true then 0 else 8)/\Kp H H':=by
 have hrs:c_flow_Check.results=[(2,none)]:=rfl
 refine oY C.q5 rfl rfl zU fun T hl ga=>?_
 have hl:T.length=118:=hl
 have g0:aa T 0=.agg (dW g):=ga 0 (by simp)
 clear ga
 have bg:=ki g
 have sl:=fun H=>gp bc H g
 have sr:=fun H=>qV fM H g
 have ll:=iC g
 have lr:=jc g
 have hal:g.arrays.length<=9223372036854775807:=hg.2.2.1
 have tg:aB [.int .i64 g.vars,jN g,.int .i64 g.nodes,.int .i64 g.start,.int .i64 g.last,lg g] 0 (some 6)=some (.agg (dW g)):=rfl
 refine aG ?_
 refine zW (dz hl g0 bg @az) ?_
 refine bP (fun T' Y=>T'.length=118/\aa T' 1=.ptr H.next 0/\Y.get H.next=some (.cells [.int .i64 g.vars,jN g,.int .i64 g.nodes,.int .i64 g.start,.int .i64 g.last,lg g] ah true)/\Kp H Y) ?_ ?_
 ·refine zW hl ?_
  exact zK
 clear hl g0 bg
 rintro T Y ⟨hl,t1,dG,kY⟩
 have wY:=kY.wf
 refine cu (fun T' H'=>((aa T' 3=.bool false/\Ed g)\/(aa T' 3=.bool true/\¬ Ed g))/\Kp Y H') rfl ?_ ?_
 ·unfold Ed
  by_cases c1:g.vars<0
  ·refine zW (lf hl t1 dG @c1 @ad @af hrs) ?_
   exact ⟨.inr zO,zK⟩
  by_cases c2:32<g.vars
  ·refine zW (jS hl t1 dG @c1 @c2 @ad @af hrs) ?_
   exact ⟨.inr zO,zK⟩
  by_cases c3:(4:Int)<(g.arrays.length:Int)
  ·refine zW (fg hl t1 dG @c1 @c2 c3 lr @ad @af hrs) ?_
   exact ⟨.inr zO,zK⟩
  by_cases c4:g.nodes<2
  ·refine zW (dC hl t1 dG @c1 @c2 c3 c4 lr @fF @ad @af hrs) ?_
   exact ⟨.inr zO,zK⟩
  by_cases c5:4096<g.nodes
  ·refine zW (gt hl t1 dG @c1 @c2 c3 c4 c5 lr @fF @ad @af hrs) ?_
   exact ⟨.inr zO,zK⟩
  by_cases c9:(2048:Int)<(g.edges.length:Int)
  ·refine zW (lX hl t1 dG @c1 @c2 c3 c4 c5 c9 ll lr @fF @gV @ad @af hrs) ?_
   exact ⟨.inr zO,zK⟩
  refine zW (lX hl t1 dG @c1 @c2 c3 c4 c5 c9 ll lr @fF @gV @ad @af hrs) ?_
  exact ⟨.inl zO,zK⟩
 rintro T1 Y1 hs1 ⟨hA,kY1⟩
 have hl1:T1.length=118:=hs1.len.trans hl
 have u1:aa T1 1=.ptr H.next 0:=(hs1.at_ 1 zU).trans t1
 have d1:=kY1.get dG
 have w1:=kY1.wf
 have kH1:=kY.trans kY1
 clear hl t1 dG hs1
 refine cu (fun T' H'=>m6 g/\g.arrays.all mg=true/\Kp Y1 H') rfl ?_ ?_
 ·rcases hA with ⟨hA,hRA⟩ | ⟨hA,hRA⟩
  ·have fA:Ec g->m6 g:=fun h=>⟨hRA.1,hRA.2.1,hRA.2.2.1,h.1,h.2,hRA.2.2.2⟩
   have fB:¬ Ec g->jI g=false:=fun h=>vo fun h'=>h ⟨h'.2.2.2.1,h'.2.2.2.2.1⟩
   unfold Ec at fA fB
   refine zW (jS hl1 hA u1 d1 @fF @ad @af hrs) ?_
   refine AnsH.eq (fw C zF) fun H2 hk2=>?_
   obtain ⟨k2,_,_⟩:=zT Y1 zK hk2
   have w2:=hk2.wf
   have le_hk2:=hk2.le
   have d2:=k2.get d1
   have kH2:=kH1.trans k2
   by_cases c6:0<=g.start/\g.start<g.nodes
   ·rw [decide_eq_true c6]
    refine zW (dz hl1 u1 d2 @pj) ?_
    refine AnsH.eq (fw C zF) fun H3 hk3=>?_
    have k3:Kp Y1 H3:=k2.trans (Kp.trans zK hk3)
    have le_k3:=k3.le
    have w3:=hk3.wf
    have le_hk3:=hk3.le
    have d3:=k3.get d1
    have kH3:=kH1.trans k3
    by_cases c7:0<=g.last/\g.last<g.nodes
    ·rw [decide_eq_true c7]
     by_cases c8:g.start=g.last
     ·rw [fB zO]
      refine zW (pd hl1 u1 d3 c8 @fF @pj @ad @af hrs) ?_
      exact zK
     refine zW (gD hl1 u1 d3 c8 @fF @pj) ?_
     refine AnsH.eq (lV C zF sr (by have:=hRA.2.1; omega) (fun n=>!mg n) (fun a _ H' hk=>oW C hk.wf)) fun H4 hk4=>?_
     have k4:Kp Y1 H4:=k3.trans (Kp.trans zK hk4)
     have le_k4:=k4.le
     have w4:=hk4.wf
     have le_hk4:=hk4.le
     have kH4:=kH1.trans k4
     by_cases c9:g.arrays.all mg=true
     ·have e:(g.arrays.any fun n=>!mg n)=false:=by
       rw [List.any_eq_false]; intro a ha; rw [List.all_eq_true.1 c9 a ha]; simp
      rw [e]
      refine zW (dz hl1 @ad @af hrs) ?_
      exact ⟨fA ⟨⟨c6,c7⟩,c8⟩,c9,zK⟩
     ·have c9':g.arrays.all mg=false:=by simpa using c9
      have e:(g.arrays.any fun n=>!mg n)=true:=by
       obtain ⟨a,ha,h⟩:=List.all_eq_false.1 c9'
       exact List.any_eq_true.2 ⟨a,ha,by simpa using h⟩
      rw [e,Ca c9']
      refine zW (dz hl1 @ad @af hrs) ?_
      exact zK
    ·rw [decide_eq_false c7,fB zO]
     refine zW (jS hl1 u1 d3 @fF @pj @ad @af hrs) ?_
     exact zK
   ·rw [decide_eq_false c6,fB zO]
    refine zW (jS hl1 u1 d2 @fF @pj @ad @af hrs) ?_
    exact zK
  ·have e:jI g=false:=vo fun h=>hRA ⟨h.1,h.2.1,h.2.2.1,h.2.2.2.2.2⟩
   rw [e]
   refine zW (eU hl1 hA @ad @af hrs) ?_
   exact zK
 rintro T2 Y2 hs2 ⟨hR,hAr,kY2⟩
 have hl2:T2.length=118:=hs2.len.trans hl1
 have v1:aa T2 1=.ptr H.next 0:=(hs2.at_ 1 zU).trans u1
 have d2:=kY2.get d1
 have w2:=kY2.wf
 have kH2:=kH1.trans kY2
 have hR5:g.edges.length<=2048:=hR.2.2.2.2.2
 clear hs2 hl1 u1 d1 hA
 refine cu (fun T' H'=>g.edges.all (mh g)=true/\Kp Y2 H') rfl ?_ ?_
 ·refine zW (dz hl2 v1 d2 @gV) ?_
  refine AnsH.eq (m7 C zF (E:=CB) rfl (sl _) zO (fun e=>!mh g e) (fun e he H' cs hk hr=>by
   have hr:cs=eY e:=hr
   subst hr
   exact oV C hk.wf ((Kp.trans (H:=Y2) zK hk).get d2) (hlow e he))) fun H3 hk3=>?_
  obtain ⟨k3,_,_⟩:=zT Y2 zK hk3
  have w3:=hk3.wf
  have le_hk3:=hk3.le
  have kH3:=kH2.trans k3
  by_cases c9:g.edges.all (mh g)=true
  ·have e:(g.edges.any fun n=>!mh g n)=false:=by
    rw [List.any_eq_false]; intro a ha; rw [List.all_eq_true.1 c9 a ha]; simp
   rw [e]
   refine zW (dz hl2 @ad @af hrs) ?_
   exact ⟨c9,zK⟩
  ·have c9':g.edges.all (mh g)=false:=by simpa using c9
   have e:(g.edges.any fun n=>!mh g n)=true:=by
    obtain ⟨a,ha,h⟩:=List.all_eq_false.1 c9'
    exact List.any_eq_true.2 ⟨a,ha,by simpa using h⟩
   rw [e,B8 c9']
   refine zW (dz hl2 @ad @af hrs) ?_
   exact zK
 rintro T3 Y3 hs3 ⟨hE,kY3⟩
 have hl3:T3.length=118:=hs3.len.trans hl2
 have x1:aa T3 1=.ptr H.next 0:=(hs3.at_ 1 zU).trans v1
 have d3:=kY3.get d2
 have w3:=kY3.wf
 have kH3:=kH2.trans kY3
 clear hs3 hl2 v1 d2
 refine aG ?_
 refine zW (dz hl3 x1 d3 tg) ?_
 refine AnsH.use (xb C zF hR5) ?_
 rintro v Y4 ⟨mb,es,rfl,hmb,hO,hk4⟩
 obtain ⟨k34,_,_⟩:=zT Y3 zK hk4
 have w4:=hk4.wf
 have le_hk4:=hk4.le
 have d4:=k34.get d3
 have kH4:=kH3.trans k34
 refine zW (bb hl3 @az) ?_
 refine bP (fun T' Y=>T'.length=118/\aa T' 1=.ptr H.next 0/\aa T' 4=.map mb/\Y=Y4) ⟨by exact zV hl3,by exact zV (bb hl3 x1),by exact zV hl3,rfl⟩ ?_
 clear hl3 x1
 rintro T5 Y ⟨hl5,x1,x4,rfl⟩
 refine aG ?_
 have hent:∀ p∈es,∃ z,p=(.int .i64 z,dH es z)/\cU g.edges z≠[]:=fun p hp=>by
  obtain ⟨z,hz⟩:=hO.keys p hp
  have hp':(AV.int .i64 z,p.2)∈es:=by rw [<- hz]; exact hp
  refine ⟨z,?_,(hO.has z).1 ⟨_,hp'⟩⟩
  rw [uP hO.keys hO.nk hp',<- hz]
 have hEE:∀ e∈g.edges,xL e:=fun e he=>⟨uN (List.all_eq_true.1 hE e he),(hlow e he).1,(hlow e he).2⟩
 refine vQ (b:=mb) (es:=es) (r:=2) (k:=.i64) (n:=8) (EW g) x4 hO.get zO zO ⟨by omega,by omega,by omega,by omega⟩ rfl rfl rfl rfl ?_ ?_ ?_
 ·intro p hp T6 hl6 hs6 h78
  obtain ⟨z,rfl,hz⟩:=hent p hp
  have hl6:T6.length=118:=hl6.trans hl5
  have y1:aa T6 1=.ptr H.next 0:=(hs6 1 zU zU zU).trans x1
  have y4:aa T6 4=.map mb:=(hs6 4 zU zU zU).trans x4
  clear hs6 x1 x4 hl5
  obtain ⟨X,hX⟩:∃ X,X=Heap.rdo Y:=⟨_,rfl⟩
  rw [<- hX]
  have wX:Wf X:=by rw [hX]; exact Dp w4
  have dG:X.get H.next=some (.cells [.int .i64 g.vars,jN g,.int .i64 g.nodes,.int .i64 g.start,.int .i64 g.last,lg g] ah false):=by rw [hX]; exact l4 w4 d4
  have dM:X.get mb=some (.mapR es):=by rw [hX]; exact Bm w4 hO.get
  have slo:∀ y,SlV CB bc X (dH es y) (cU g.edges y):=fun y=>by rw [hX]; exact Bk w4 (hO.bl y).sl
  have hsub:∀ y,∀ e∈cU g.edges y,xL e:=fun y e he=>hEE e (List.mem_filter.1 he).1
  have lk:∀ Z,Kp X Z->∀ y,jg Z .int .nilSl (.map mb) (.int .i64 y) false=some (dH es y):=fun Z hk y=>BN (hk.get dM) hO.keys y
  have eP:EW g (.int .i64 z,dH es z)=kg g z:=rfl
  rw [eP]
  clear hX
  by_cases c1:z=g.last
  ·have e:kg g z=true:=by unfold kg; rw [decide_eq_true c1]; rfl
   rw [e]
   exact zV (lf hl6 h78 y1 dG @pj @c1 @nL)
  refine zW (gD hl6 h78 y1 dG @pj @c1) ?_
  refine AnsH.eq (tP C zF ((slo z).mono (zG X)) (hsub z) hz) fun H2 hk2=>?_
  obtain ⟨k2,_,_⟩:=zT X zK hk2
  have w2:=hk2.wf
  have le_hk2:=hk2.le
  have d2:=k2.get dG
  by_cases c2:i3 (cU g.edges z)=true
  ·rw [c2]
   refine zW (gD hl6 y1 y4 d2 @gV ll) ?_
   have eZ:kg g z=cG g.edges z g.edges.length z:=by unfold kg; rw [decide_eq_false c1,c2]; rfl
   rw [eZ]
   refine fI X [7] (fun j vs _=>∃ cur:Int,vs=[.int .i64 cur]/\cG g.edges z g.edges.length z=cG g.edges z (g.edges.length-j) cur) (a:=0) (N:=g.edges.length) rfl (by refine zW hl6 ?_; rfl) (zV hl6) (Nat.zero_le _) zO (by simp only [List.length_set,hl6]; rfl) rfl (fun _ _ _ _ h=>h) zK ⟨z,by exact zV hl6,by rw [Nat.sub_zero]⟩ ?_ ?_
   ·rintro j T7 H7-hj hl7 hi7 hs7 hk7 ⟨cur,hv,hI⟩
    have w7:=hk7.wf
    have le_hk7:=hk7.le
    simp only [List.map_cons,List.map_nil,List.cons.injEq,and_true] at hv
    have z4:aa T7 4=.map mb:=(hs7.at_ 4 zU).trans (zV (bb hl6 y4))
    have z5:aa T7 5=.int .i64 z:=(hs7.at_ 5 zU).trans (zV hl6)
    simp only [List.length_set,hl6] at hl7
    have lc:lenV (dH es cur)=some (.int .i64 ((cU g.edges cur).length:Int)):=(slo cur).lenV
    have lkc:=fun n=>lk (H7.up n) (hk7.up n) cur
    obtain ⟨m,hm⟩:∃ m,g.edges.length-j=m+1:=⟨g.edges.length-j-1,by omega⟩
    have hm':g.edges.length-(j+1)=m:=by omega
    by_cases h1:(cU g.edges cur).length=1
    ·have h1':((cU g.edges cur).length:Int)=1:=by omega
     obtain ⟨E,hE1⟩:∃ E,cU g.edges cur=[E]:=by
      match hm:cU g.edges cur with
      | []=>rw [hm] at h1; simp at h1
      | [E]=>exact ⟨E,rfl⟩
      | x :: y :: z=>rw [hm] at h1; simp at h1
     have h0:0<(cU g.edges cur).length:=by omega
     obtain ⟨ix0,fx,-,e1,e2,-,-,-,-,-⟩:=eT ((slo cur).mono hk7.sub) h0
     have ix0:a7 7 (dH es cur) (.int .i64 0)=some (br (dH es cur) 0):=ix0
     have eE:(cU g.edges cur)[0]=E:=by simp [hE1]
     rw [eE] at e1 e2
     simp only [Nat.zero_mul,Nat.zero_add] at e1 e2
     have hn:=rI hE1
     by_cases h2:E.act.kind=1
     ·have h2':(E.act.kind:Int)=1:=by omega
      rw [if_pos h2] at hn
      rw [hm,jv hn] at hI
      by_cases h3:E.dst=z
      ·rw [decide_eq_true h3,Bool.true_or] at hI
       simp -dsimp (maxSteps:=1000000) (disch:=(first | omega | assumption | exact ay _ | exact aA _ _ | exact aM | exact bh _ _ _ | exact aO _ _ | exact aP _ _ _ _ _ _ | exact bd _ _ | exact aR _)) only [↓iJ,iI,Nat.reduceLT,Nat.reduceEqDiff,Nat.reduceAdd,↓reduceIte,reduceCtorEq,Nat.reduceBEq,Int.reduceEq,Int.reduceLT,Int.reduceLE,Int.reduceAdd,Int.reduceSub,hl7,hv,z4,z5,↓iN,lkc,lc,h1',ix0,fx,e1,e2,h2',h3,hI,nL]
      ·rw [decide_eq_false h3,Bool.false_or] at hI
       simp -dsimp (maxSteps:=1000000) (disch:=(first | omega | assumption | exact ay _ | exact aA _ _ | exact aM | exact bh _ _ _ | exact aO _ _ | exact aP _ _ _ _ _ _ | exact bd _ _ | exact aR _)) only [↓iJ,iI,Nat.reduceLT,Nat.reduceEqDiff,Nat.reduceAdd,↓reduceIte,reduceCtorEq,Nat.reduceBEq,Int.reduceEq,Int.reduceLT,Int.reduceLE,Int.reduceAdd,Int.reduceSub,hl7,hv,z4,z5,↓iN,lkc,lc,h1',ix0,fx,e1,e2,h2',h3]
       exact ⟨zK,E.dst,rfl,by rw [hm']; exact hI⟩
     ·have h2':¬ (E.act.kind:Int)=1:=by omega
      rw [if_neg h2] at hn
      rw [iO hn] at hI
      simp -dsimp (maxSteps:=1000000) (disch:=(first | omega | assumption | exact ay _ | exact aA _ _ | exact aM | exact bh _ _ _ | exact aO _ _ | exact aP _ _ _ _ _ _ | exact bd _ _ | exact aR _)) only [↓iJ,iI,Nat.reduceLT,Nat.reduceEqDiff,Nat.reduceAdd,↓reduceIte,reduceCtorEq,Nat.reduceBEq,Int.reduceEq,Int.reduceLT,Int.reduceLE,Int.reduceAdd,Int.reduceSub,hl7,hv,z4,z5,↓iN,lkc,lc,h1',ix0,fx,e1,e2,h2',hI,nM]
    ·have h1':¬ ((cU g.edges cur).length:Int)=1:=by omega
     rw [iO (rJ h1)] at hI
     simp -dsimp (maxSteps:=1000000) (disch:=(first | omega | assumption | exact ay _ | exact aA _ _ | exact aM | exact bh _ _ _ | exact aO _ _ | exact aP _ _ _ _ _ _ | exact bd _ _ | exact aR _)) only [↓iJ,iI,Nat.reduceLT,Nat.reduceEqDiff,Nat.reduceAdd,↓reduceIte,reduceCtorEq,Nat.reduceBEq,Int.reduceEq,Int.reduceLT,Int.reduceLE,Int.reduceAdd,Int.reduceSub,hl7,hv,z4,z5,↓iN,lkc,lc,h1',hI,nM]
   ·rintro T7 H7 hl7 hs7 hk7 ⟨cur,hv,hI⟩
    rw [Nat.sub_self] at hI
    have hI:cG g.edges z g.edges.length z=false:=hI
    rw [hI,nM]
  ·have c2:i3 (cU g.edges z)=false:=by simpa using c2
   have e:kg g z=true:=by unfold kg; rw [c2]; simp
   rw [c2,e]
   exact zV (bb hl6 @nL)
 ·intro hall T6 hl6 hs6
  have hok:jI g=true:=DY hR hAr hE fun z hz=>by
   obtain ⟨w,hw⟩:=(hO.has z).2 hz
   exact hall _ hw
  rw [hok]
  show WB _ _ _ _ _ _
  refine WC.wb ?_
  have hl6:T6.length=118:=hl6.trans hl5
  refine zW (bb hl6 hrs) ?_
  exact zK
 ·rintro ⟨p,hp,hbad⟩ T6 hl6 h8
  obtain ⟨z,rfl,hz⟩:=hent p hp
  have hno:jI g=false:=B9 hz hbad
  rw [hno]
  refine zW (fe @ed hrs h8) ?_
  exact zK
end
theorem Fm:∀ (l:List Int) (f:Nat->Int) (n:Nat),(∀ k,k<n->f k∈l)->l.length<n->∃ k k',k<k'/\k'<n/\f k=f k'
 | [],f,n,h,hn=>by
  have:=h 0 (by simp at hn; omega)
  cases this
 | x :: l,f,n,h,hn=>by
  simp only [List.length_cons] at hn
  by_cases h0:∃ k0,k0<n/\f k0=x
  ·obtain ⟨k0,hk0,e0⟩:=h0
   by_cases h1:∃ k1,k1<n/\k1≠k0/\f k1=x
   ·obtain ⟨k1,hk1,hne,e1⟩:=h1
    rcases Nat.lt_or_gt_of_ne hne with hlt | hlt
    ·exact ⟨k1,k0,hlt,hk0,e1.trans e0.symm⟩
    ·exact ⟨k0,k1,hlt,hk1,e0.trans e1.symm⟩
   ·have hno:∀ k,k<n->k≠k0->f k∈l:=fun k hk hne=>by
     rcases List.mem_cons.1 (h k hk) with e | e
     ·exact absurd ⟨k,hk,hne,e⟩ h1
     ·exact e
    obtain ⟨k,k',hlt,hk',e⟩:=Fm l (fun k=>if k<k0 then f k else f (k+1)) (n-1) (fun k hk=>by
     by_cases hk1:k<k0
     ·simp only [if_pos hk1]; exact hno k zO zO
     ·simp only [if_neg hk1]; exact hno (k+1) zO zO) zO
    by_cases a1:k<k0
    ·by_cases a2:k'<k0
     ·simp only [if_pos a1,if_pos a2] at e; exact ⟨k,k',hlt,by omega,e⟩
     ·simp only [if_pos a1,if_neg a2] at e; exact ⟨k,k'+1,by omega,by omega,e⟩
    ·have a2:¬ k'<k0:=by omega
     simp only [if_neg a1,if_neg a2] at e; exact ⟨k+1,k'+1,by omega,by omega,e⟩
  ·exact Fm l f n (fun k hk=>by
    rcases List.mem_cons.1 (h k hk) with e | e
    ·exact absurd ⟨k,hk,e⟩ h0
    ·exact e) zO
def iX (l:List Edx):Nat->Int->Option Int
 | 0,a=>some a
 | i+1,a=>match mi l a with
  | none=>none
  | some b=>iX l i b
theorem lq (l:List Edx):∀ (i j:Nat) (a:Int),iX l (i+j) a=(iX l i a).bind (iX l j)
 | 0,j,a=>by rw [Nat.zero_add]; rfl
 | i+1,j,a=>by
  rw [show i+1+j=(i+j)+1 by omega]
  simp only [iX]
  cases h:mi l a with
  | none=>rfl
  | some b=>exact lq l i j b
theorem kD (l:List Edx) (node:Int):∀ (n:Nat) (a:Int),cG l node n a=true ↔ ∃ i,1<=i/\i<=n/\iX l i a=some node
 | 0,a=>by
  simp only [cG,Bool.false_eq_true,false_iff]
  rintro ⟨i,h1,h2,-⟩; omega
 | n+1,a=>by
  cases h:mi l a with
  | none =>
   rw [iO h]
   simp only [Bool.false_eq_true,false_iff]
   rintro ⟨i,h1,-,h3⟩
   obtain ⟨i,rfl⟩:∃ i',i=i'+1:=⟨i-1,by omega⟩
   simp only [iX,h] at h3
   cases h3
  | some b =>
   rw [jv h,Bool.or_eq_true,decide_eq_true_eq,kD l node n b]
   constructor
   ·rintro (h1 | ⟨i,h1,h2,h3⟩)
    ·exact ⟨1,by omega,by omega,by simp only [iX,h,h1]⟩
    ·exact ⟨i+1,by omega,by omega,by simp only [iX,h]; exact h3⟩
   ·rintro ⟨i,h1,h2,h3⟩
    obtain ⟨i,rfl⟩:∃ i',i=i'+1:=⟨i-1,by omega⟩
    simp only [iX,h] at h3
    by_cases hi:i=0
    ·subst hi
     simp only [iX,Option.some.injEq] at h3
     exact .inl h3
    ·exact .inr ⟨i,by omega,by omega,h3⟩
theorem Bv {l:List Edx} {a b:Int} (h:mi l a=some b):a∈l.map Edx.src:=by
 unfold mi at h
 split at h
 ·rename_i e he
  have hm:e∈cU l a:=by rw [he]; exact List.mem_cons_self ..
  obtain ⟨h1,h2⟩:=List.mem_filter.1 hm
  exact List.mem_map.2 ⟨e,h1,by simpa using h2⟩
 ·cases h
theorem vW (l:List Edx) (node a:Int):∀ (i:Nat),1<=i->iX l i a=some node->∃ j,1<=j/\j<=l.length/\iX l j a=some node:=by
 intro i
 induction i using Nat.strongRecOn with
 | _ i ih =>
  intro h1 h
  by_cases hi:i<=l.length
  ·exact ⟨i,h1,hi,h⟩
  ·have hs:∀ k,k<i->∃ x,iX l k a=some x/\x∈l.map Edx.src:=fun k hk=>by
    have e:iX l (k+((i-k-1)+1)) a=some node:=by rw [show k+((i-k-1)+1)=i by omega]; exact h
    rw [lq] at e
    cases hx:iX l k a with
    | none=>rw [hx] at e; cases e
    | some x =>
     rw [hx] at e
     simp only [Option.bind_some,iX] at e
     cases hn:mi l x with
     | none=>rw [hn] at e; cases e
     | some b=>exact ⟨x,rfl,Bv hn⟩
   obtain ⟨k,k',hlt,hk',e⟩:=Fm (l.map Edx.src) (fun k=>(iX l k a).getD 0) i (fun k hk=>by
    obtain ⟨x,hx,hm⟩:=hs k hk
    simp only [hx,Option.getD_some]; exact hm) (by rw [List.length_map]; omega)
   obtain ⟨x,hx,-⟩:=hs k zO
   obtain ⟨x',hx',-⟩:=hs k' hk'
   simp only [hx,hx',Option.getD_some] at e
   subst e
   have e2:iX l (k'+(i-k')) a=some node:=by rw [show k'+(i-k')=i by omega]; exact h
   rw [lq,hx'] at e2
   refine ih (k+(i-k')) zO zO ?_
   rw [lq,hx]; exact e2
theorem tj (l:List Edx) (node:Int):cG l node (l.length+1) node=cG l node l.length node:=by
 have h:cG l node (l.length+1) node=true ↔ cG l node l.length node=true:=by
  rw [kD,kD]
  constructor
  ·rintro ⟨i,h1,-,h3⟩
   exact vW l node node i h1 h3
  ·rintro ⟨i,h1,h2,h3⟩
   exact ⟨i,h1,by omega,h3⟩
 cases h1:cG l node (l.length+1) node <;> cases h2:cG l node l.length node <;> simp_all
theorem Bu (g:Gx) (e:Edx):tC g e = !kg g e.src:=by
 unfold tC kg
 rw [tj]
 by_cases h:e.src=g.last <;> simp [h]
theorem B6 (g:Gx):jI g=i4 g:=by
 unfold jI i4
 have e:(fun e=>!kg g e.src)=tC g:=funext fun e=>(Bu g e).symm
 rw [e]
section
variable {tab:Nat->Option aN} {H:Heap}
theorem tR (C:Code tab) (hw:Wf H) {g:Gx} (hg:mT g) (hlow:∀ e∈g.edges,(∀ x∈e.act.args,km x)/\e.act.args.length<4611686018427387904) :
  Ans tab (.fn fT [.agg (dW g)]) H fun v H'=>v=.int .i64 (if i4 g=true then 0 else 8)/\Kp H H':=by
 rw [<- B6]
 exact rZ C hw hg hlow
end
theorem m8 {l:List Tx} {i:Nat} (h:i<l.length):lW (l.take (i+1))=lW (l.take i)+uy l[i]:=by
 rw [ip,ip,List.take_succ_eq_append_getElem h,List.map_append,List.sum_append]; simp
theorem fp (l:List Tx) (i:Nat):lW (l.take i)<=lW l:=by
 have h:lW l=lW (l.take i)+lW (l.drop i):=by
  rw [ip,ip,ip,<- List.sum_append,<- List.map_append,List.take_append_drop]
 omega
theorem kJ:∀ l:List Tx,l.length<=lW l
 | []=>Nat.le_refl _
 | x :: l=>by
  have h1:=kJ l
  have h2:=pR x
  simp only [List.length_cons,lW]
  omega
theorem uU:∀ l:List Edx,l.length<=(l.map pf).sum
 | []=>Nat.le_refl _
 | e :: l=>by
  have h1:=uU l
  simp only [List.length_cons,List.map_cons,List.sum_cons,pf]
  omega
theorem xW {l:List Edx} {i:Nat} (h:i<l.length):((l.take (i+1)).map pf).sum=((l.take i).map pf).sum+pf l[i]:=by
 rw [List.take_succ_eq_append_getElem h,List.map_append,List.sum_append]; simp
theorem mC (l:List Edx) (i:Nat):((l.take i).map pf).sum<=(l.map pf).sum:=by
 have h:(l.map pf).sum=((l.take i).map pf).sum+((l.drop i).map pf).sum:=by
  rw [<- List.sum_append,<- List.map_append,List.take_append_drop]
 omega
def Fo (v:AV):Option AV:=match v with
 | .str s=>some (.int .i64 s.size)
 | _=>none
theorem BL (s:ByteArray):Fo (.str s)=some (.int .i64 s.size):=rfl
theorem vL {tab:Nat->Option aN} (ev:Src->AV) (H:Heap) (id:Nat) (Q:AV->Heap->Prop) (x:Src):gU tab ev H id (.lenStr x) Q=eG (Fo (ev x)) (fun v=>Q v H) ():=by
 rw [bF,cM tab ev H id Q (o:=.lenStr x) (v:=Fo (ev x)) (fun f a e=>by cases e) rfl rfl]; rfl
section
variable {tab:Nat->Option aN} {H:Heap}
set_option maxHeartbeats 2000000 in
theorem tu (C:Code tab):∀ (m:Nat) (l:List Tx),SizeOf.sizeOf l<=m->lW l<=1048576->∀ (nl:Bool) (room:Int),-1099511627776+(lW l:Int)<=room->room<=5000->∀ {H:Heap},Wf H ->
  Ans tab (.fn cr [mZ nl l,.int .i64 room]) H fun v H'=>(∃ n:Nat,v=.int .i64 (n:Int)/\n<=lW l)/\Kp H H':=by
 intro m
 induction m with
 | zero=>intro l hl; cases l <;> simp at hl
 | succ m ih =>
 intro l hm hwt nl room hr1 hr2 H hw
 refine i9 C.q4 zU fun T hl g0 g1=>?_
 have sl:=fun H=>dZ au H nl l
 have ll:=gq nl l
 have hlw:=kJ l
 obtain ⟨s,hs⟩:∃ s,s=mZ nl l:=⟨_,rfl⟩
 rw [<- hs] at sl ll g0
 refine zW (fe hl g0 g1) ?_
 refine aQ H [5,6] (fun r vs H'=>∃ (i n:Nat),vs=[.int .i64 (n:Int),.int .i64 (i:Int)]/\i+r=l.length/\n<=lW (l.take i)) l.length (by simp only [List.length_set]; exact hl) rfl zK ⟨0,0,by refine zW (fe hl g0 g1) ?_; rfl,by omega,Nat.zero_le _⟩ ?_
 rintro r T3 H3 hl3 hs3 hk3 ⟨i,n,hv,hik,hn⟩
 have w3:=hk3.wf
 have le_hk3:=hk3.le
 simp only [List.map_cons,List.map_nil,List.cons.injEq,and_true] at hv
 obtain ⟨hv5,hv6⟩:=hv
 have y0:aa T3 0=s:=(hs3.at_ 0 zU).trans (zV (bb hl g0))
 have y1:aa T3 1=.int .i64 room:=(hs3.at_ 1 zU).trans (zV (dz hl g0 g1 g1))
 have hnl:=fp l i
 by_cases hi:i<l.length
 ·have hii:(i:Int)<(l.length:Int):=by omega
  by_cases hr:(n:Int)<=room
  ·have e:IntKind.i64.wrap ((i:Int)+1)=((i+1:Nat):Int):=by rw [ae] <;> omega
   obtain ⟨ix,fx,-,x1,-,x3,-⟩:=mN sl hi
   have hti:=m8 hi
   have htl:=fp l (i+1)
   have hx:=pR l[i]
   have hsz:SizeOf.sizeOf l[i].args<=m:=by
    have h1:=lm l[i]
    have h2:=List.sizeOf_lt_of_mem (List.getElem_mem hi)
    omega
   have e1:IntKind.i64.wrap ((n:Int)+1)=((n+1:Nat):Int):=by rw [ae] <;> omega
   have e2:IntKind.i64.wrap (((n+1:Nat):Int)+(l[i].name.size:Int))=((n+(1+l[i].name.size):Nat):Int):=by rw [ae] <;> omega
   have e3:IntKind.i64.wrap (room-((n+(1+l[i].name.size):Nat):Int))=room-((n+(1+l[i].name.size):Nat):Int):=by rw [ae] <;> omega
   simp -dsimp (maxSteps:=1000000) (disch:=(first | omega | assumption | exact ay _ | exact aA _ _ | exact aM | exact bh _ _ _ | exact aO _ _ | exact aP _ _ _ _ _ _ | exact bd _ _ | exact aR _)) only [↓iJ,iI,Nat.reduceLT,Nat.reduceEqDiff,Nat.reduceAdd,↓reduceIte,reduceCtorEq,Nat.reduceBEq,Int.reduceEq,Int.reduceLT,Int.reduceLE,Int.reduceAdd,Int.reduceSub,hl3,hv5,hv6,y0,y1,ll,hii,hr,ix,fx,x1,x3,↓vL,BL,e1,e2,e3]
   refine AnsH.use (ih _ hsz zO _ (room-((n+(1+l[i].name.size):Nat):Int)) zO zO zF) ?_
   rintro v H4 ⟨⟨k,rfl,hk⟩,hk4⟩
   obtain ⟨k4,_,_⟩:=zT H3 zK hk4
   have w4:=hk4.wf
   have le_hk4:=hk4.le
   have kH4:=hk3.trans k4
   have e4:IntKind.i64.wrap (((n+(1+l[i].name.size):Nat):Int)+(k:Int))=((n+(1+(l[i].name.size+k)):Nat):Int):=by rw [ae] <;> omega
   refine zW (eU hl3 hv5 hv6 e e4) ?_
   exact ⟨zK,r-1,by omega,i+1,n+(1+(l[i].name.size+k)),rfl,by omega,by omega⟩
  ·refine zW (jS hl3 hv5 hv6 y0 y1 ll hii hr) ?_
   exact ⟨⟨n,rfl,by omega⟩,zK⟩
 ·have hii:¬ (i:Int)<(l.length:Int):=by omega
  refine zW (lf hl3 hv5 hv6 y0 y1 ll hii) ?_
  exact ⟨⟨n,rfl,by omega⟩,zK⟩
set_option maxHeartbeats 2000000 in
theorem rB (C:Code tab) (hw:Wf H) {g:Gx} (hwt:xV g<=1048576) :
  Ans tab (.fn cQ [.agg (dW g)]) H fun v H'=>(∃ b,v=.bool b)/\Kp H H':=by
 refine jp C.q1 zU fun T hl g0=>?_
 have bg:=ki g
 have sl:=fun H=>gp bc H g
 have ll:=iC g
 have lr:=jc g
 obtain ⟨s,hs⟩:∃ s,s=lg g:=⟨_,rfl⟩
 obtain ⟨l,hl'⟩:∃ l,l=g.edges:=⟨_,rfl⟩
 rw [<- hs] at bg sl ll
 rw [<- hl'] at sl ll
 have hwl:(l.map pf).sum<=1048576:=by unfold xV at hwt; rw [<- hl'] at hwt; omega
 refine zW (fe hl g0 bg) ?_
 obtain ⟨X,hX⟩:∃ X,X=(H.up 4).put H.next (.cells [.int .i64 g.vars,jN g,.int .i64 g.nodes,.int .i64 g.start,.int .i64 g.last,s] ah true):=⟨_,rfl⟩
 rw [<- hX]
 have kX:Kp H X:=by rw [hX]; exact zK
 have dX:X.get H.next=some (.cells [.int .i64 g.vars,jN g,.int .i64 g.nodes,.int .i64 g.start,.int .i64 g.last,s] ah true):=by rw [hX,aq]
 have wX:=kX.wf
 clear hX hs
 refine aQ X [3,4] (fun r vs H'=>∃ (i n:Nat),vs=[.int .i64 (n:Int),.int .i64 (i:Int)]/\i+r=l.length/\n<=((l.take i).map pf).sum) l.length (by simp only [List.length_set]; exact hl) rfl zK ⟨0,0,by refine zW (bb hl g0) ?_; rfl,by omega,Nat.zero_le _⟩ ?_
 rintro r T3 H3 hl3 hs3 hk3 ⟨i,n,hv,hik,hn⟩
 have w3:=hk3.wf
 have le_hk3:=hk3.le
 simp only [List.map_cons,List.map_nil,List.cons.injEq,and_true] at hv
 obtain ⟨hv3,hv4⟩:=hv
 have y1:aa T3 1=.ptr H.next 0:=(hs3.at_ 1 zU).trans (zV (bb hl g0))
 have dX3:=hk3.get dX
 have kH3:=kX.trans hk3
 have hnl:=mC l i
 have fin:∀ Q:Prop,(5000<(n:Int)->Q)->(¬ 5000<(n:Int)->300<(l.length:Int)->Q)->(¬ 5000<(n:Int)->¬ 300<(l.length:Int)->Q)->Q:=fun Q h1 h2 h3=>by
  by_cases c1:5000<(n:Int)
  ·exact h1 c1
  ·by_cases c2:300<(l.length:Int)
   ·exact h2 c1 c2
   ·exact h3 c1 c2
 have hll:=uU l
 by_cases hi:i<l.length
 ·have hii:(i:Int)<(l.length:Int):=by omega
  by_cases hr:(n:Int)<=5000
  ·have e:IntKind.i64.wrap ((i:Int)+1)=((i+1:Nat):Int):=by rw [ae] <;> omega
   obtain ⟨ix,fx,-⟩:=eT (sl default) hi
   have x5:=fun H=>(eT (sl H) hi).2.2.2.2.2.2.2.1
   have hti:=xW hi
   have htl:=mC l (i+1)
   have hx:pf l[i]=lW l[i].act.args+1:=rfl
   have e1:IntKind.i64.wrap ((n:Int)+1)=((n+1:Nat):Int):=by rw [ae] <;> omega
   have e3:IntKind.i64.wrap (5000-(n:Int))=5000-(n:Int):=by rw [ae] <;> omega
   refine zW (lh hl3 hv3 hv4 y1 dX3 @gV ll hii hr ix fx x5 e1 e3) ?_
   refine AnsH.use (tu C _ _ (Nat.le_refl _) zO _ (5000-(n:Int)) zO zO zF) ?_
   rintro v H4 ⟨⟨k,rfl,hk⟩,hk4⟩
   obtain ⟨k4,_,_⟩:=zT H3 zK hk4
   have w4:=hk4.wf
   have le_hk4:=hk4.le
   have kX4:=hk3.trans k4
   have kH4:=kH3.trans k4
   have e4:IntKind.i64.wrap (((n+1:Nat):Int)+(k:Int))=((n+(1+k):Nat):Int):=by rw [ae] <;> omega
   refine zW (eU hl3 hv3 hv4 e e4) ?_
   exact ⟨zK,r-1,by omega,i+1,n+(1+k),rfl,by omega,by omega⟩
  ·have hr':5000<(n:Int):=by omega
   refine zW (fg hl3 hv3 hv4 y1 dX3 @gV ll hii hr hr') ?_
   exact ⟨⟨_,rfl⟩,zK⟩
 ·have hii:¬ (i:Int)<(l.length:Int):=by omega
  refine fin _ (fun c1=>?_) (fun c1 c2=>?_) (fun c1 c2=>?_)
  ·refine zW (pd hl3 hv3 hv4 y1 dX3 @gV ll hii @c1) ?_
   exact ⟨⟨_,rfl⟩,zK⟩
  ·refine zW (fg hl3 hv3 hv4 y1 dX3 @gV ll hii @c1 @c2) ?_
   exact ⟨⟨_,rfl⟩,zK⟩
  ·refine zW (d8 hl3 hv3 hv4 y1 dX3 @gV ll lr hii @c1 @c2) ?_
   exact ⟨⟨_,rfl⟩,zK⟩
end
def gI (l:List Int) (i:Nat):Int:=l.getD i 0
theorem oi {l:List Int} {i:Nat} (h:i<l.length):gI l i=l[i]:=by
 unfold gI; rw [List.getD_eq_getElem?_getD,List.getElem?_eq_getElem h]; rfl
def iW (l:List Int) (i j:Nat):List Int:=(l.set i (gI l j)).set j (gI l i)
theorem ng (l:List Int) (i j:Nat):(iW l i j).length=l.length:=by simp [iW]
theorem qD (l:List Int) (i k:Nat) (z:Int):gI (l.set i z) k=if i=k/\i<l.length then z else gI l k:=by
 unfold gI
 rw [List.getD_eq_getElem?_getD,List.getD_eq_getElem?_getD,List.getElem?_set]
 by_cases h:i=k
 ·subst h
  by_cases h2:i<l.length
  ·simp [h2]
  ·simp [h2]
 ·simp [h]
theorem eu {l:List Int} {i j:Nat} (hi:i<l.length) (hj:j<l.length) (k:Nat):gI (iW l i j) k=if k=j then gI l i else if k=i then gI l j else gI l k:=by
 unfold iW
 rw [qD,List.length_set,qD]
 by_cases h1:k=j
 ·subst h1; simp [hj]
 ·by_cases h2:k=i
  ·subst h2; simp [hi,Ne.symm h1,h1]
  ·simp [h1,h2,Ne.symm h1,Ne.symm h2]
theorem A8 {l:List Int} {i j:Nat} (hi:i<l.length) (hj:j<l.length) (x:Int):(iW l i j).count x=l.count x:=by
 by_cases h:i=j
 ·subst h
  unfold iW
  rw [List.set_set,oi hi,List.set_getElem_self]
 ·unfold iW
  rw [List.count_set (by simpa using hj),List.count_set hi]
  have e1:(l.set i (gI l j))[j]'(by simpa using hj)=l[j]:=by rw [List.getElem_set_ne h]
  rw [e1,oi hi,oi hj]
  have c1:l[i]=x->1<=l.count x:=fun e=>by subst e; exact List.count_pos_iff.2 (List.getElem_mem hi)
  have c2:l[j]=x->1<=l.count x:=fun e=>by subst e; exact List.count_pos_iff.2 (List.getElem_mem hj)
  by_cases h1:l[i]=x <;> by_cases h2:l[j]=x <;> simp [h1,h2] <;> omega
inductive Prm (lo hi:Nat):List Int->List Int->Prop
 | refl (l:List Int):Prm lo hi l l
 | swap {l m:List Int} {i j:Nat} (h:Prm lo hi l m) (hi1:lo<=i) (hi2:i<hi) (hj1:lo<=j) (hj2:j<hi) (hl:hi<=m.length):Prm lo hi l (iW m i j)
theorem Prm.trans {lo hi:Nat} {l m k:List Int} (h:Prm lo hi l m) (h':Prm lo hi m k):Prm lo hi l k:=by
 induction h' with
 | refl=>exact h
 | swap _ a b c d e ih=>exact ih.swap a b c d e
theorem Prm.wide {lo hi lo' hi':Nat} {l m:List Int} (h:Prm lo hi l m) (h1:lo'<=lo) (h2:hi<=hi') (h3:hi'<=l.length):Prm lo' hi' l m/\m.length=l.length:=by
 induction h with
 | refl=>exact ⟨.refl _,rfl⟩
 | swap _ a b c d e ih=>exact ⟨ih.1.swap zO zO zO zO (by rw [ih.2]; omega),by rw [ng,ih.2]⟩
theorem Prm.len {lo hi:Nat} {l m:List Int} (h:Prm lo hi l m):m.length=l.length:=by
 induction h with
 | refl=>rfl
 | swap _ a b c d e ih=>rw [ng,ih]
theorem Prm.out {lo hi:Nat} {l m:List Int} (h:Prm lo hi l m) {k:Nat} (hk:k<lo\/hi<=k):gI m k=gI l k:=by
 induction h with
 | refl=>rfl
 | swap _ a b c d e ih=>rw [eu zO zO,if_neg zO,if_neg zO,ih]
theorem Prm.all {lo hi:Nat} {l m:List Int} (h:Prm lo hi l m) {P:Int->Prop} (hP:∀ k,lo<=k->k<hi->P (gI l k)):∀ k,lo<=k->k<hi->P (gI m k):=by
 induction h with
 | refl=>exact hP
 | swap _ a b c d e ih =>
  intro k h1 h2
  rw [eu zO zO]
  split
  ·exact ih _ a b
  ·split
   ·exact ih _ c d
   ·exact ih k h1 h2
theorem Prm.cnt {lo hi:Nat} {l m:List Int} (h:Prm lo hi l m) (x:Int):m.count x=l.count x:=by
 induction h with
 | refl=>rfl
 | swap _ a b c d e ih=>rw [A8 zO zO,ih]
def iM (l:List Int) (lo hi:Nat):Prop:=∀ p q,lo<=p->p<q->q<hi->gI l p<=gI l q
def ne (l:List Int):List AV:=l.map fun z=>.int .u8 z
abbrev Ar (H:Heap) (b:Nat) (l:List Int):Prop:=H.get b=some (.cells (ne l) ap true)
theorem aL {l:List Int} {H:Heap} {b j:Nat} (h:Ar H b l) (hj:j<l.length):Fd (H.get b) none j=some (.int .u8 (gI l j)):=by
 rw [h,py,oi hj]
 show (ne l)[j]? = _
 simp [ne,hj]
theorem eH {l:List Int} {j:Nat} {z:Int} (hj:j<l.length):sM (some (.cells (ne l) ap true)) 1 j (.int .u8 z)=some (.cells (ne (l.set j z)) ap true):=by
 rw [Ez (aA _ _),if_pos (by simpa [ne] using hj)]
 simp [ne,List.map_set]
theorem cW {l:List Int} {H:Heap} {b j:Nat} {z:Int} (h:Ar H b l) (hj:j<l.length):sM (H.get b) 1 j (.int .u8 z)=some (.cells (ne (l.set j z)) ap true):=by rw [h]; exact eH hj
theorem aT {b n c j:Nat} {xf:Bool} (hj:j<n):a7 1 (.own b 0 n c 1 xf) (.int .i64 (j:Int))=some (.ptr b j):=by
 have:=nn (b:=b) (off:=0) (n:=n) (c:=c) (sz:=1) (x:=xf) (k:=.i64) (j:=j) hj
 simpa using this
section
variable {tab:Nat->Option aN} {H:Heap}
theorem zt (C:Code tab) (hw:Wf H) {x:Int}:Ans tab (.fn dg [.int .u8 x]) H fun r H'=>r=.bool false/\Kp H H':=by
 refine jp C.q53 zU fun T hl g0=>?_
 have e:(x≠x)=False:=by simp
 refine zW (bb hl g0) ?_
 exact zK
theorem dq (C:Code tab) (hw:Wf H) {x y:Int}:Ans tab (.fn aD [.int .u8 x,.int .u8 y]) H fun r H'=>r=.bool (decide (x<y))/\Kp H H':=by
 refine i9 C.q39 zU fun T hl g0 g1=>?_
 refine zW (fe hl g0 g1) ?_
 refine AnsH.eq (zt C zF) fun H2 hk2=>?_
 obtain ⟨k2,_,w2⟩:=zT H zK hk2
 refine zW (fe hl g0 g1) ?_
 exact zK
set_option maxHeartbeats 4000000 in
theorem qB (C:Code tab) {H0:Heap} {b n c lo hi:Nat} {xf:Bool} {l:List Int} (hk:Kp H0 H) (hb:H0.next<=b) (h:Ar H b l) (hn:l.length=n) (hlh:lo<=hi) (hhn:hi<=n) (hlim:n<1099511627776) :
  Ans tab (.fn aW [.own b 0 n c 1 xf,.int .i64 (lo:Int),.int .i64 (hi:Int)]) H fun _ H'=>(∃ m,Ar H' b m/\Prm lo hi l m/\iM m lo hi)/\Kp H0 H':=by
 have hw:=hk.wf
 refine qE C.q33 zU fun T hl g0 g1 g2=>?_
 have e01:IntKind.i64.wrap ((lo:Int)+1)=((lo+1:Nat):Int):=by rw [ae] <;> omega
 refine zW (eU hl g0 g1 g2 e01) ?_
 refine aQ H0 [6] (fun k vs H'=>∃ i m,vs=[.int .i64 ((i:Nat):Int)]/\lo+1<=i/\k=hi+1-i/\Ar H' b m/\Prm lo hi l m/\iM m lo i) (hi-lo) (by simp only [List.length_set]; exact hl) rfl (hk.up _) ⟨lo+1,l,by exact zV (dz hl g0 g1 g2),Nat.le_refl _,by omega,h,.refl _,fun p q h1 h2 h3=>by omega⟩ ?_
 rintro k T1 H1 hl1 hs1 hk1 ⟨i,m,hv,i1,hkk,hb1,hp,hs⟩
 have w1:=hk1.wf
 have le_hk1:=hk1.le
 simp only [List.map_cons,List.map_nil,List.cons.injEq,and_true] at hv
 have t0:aa T1 0=.own b 0 n c 1 xf:=(hs1.at_ 0 zU).trans (zV (bb hl g0))
 have t1:aa T1 1=.int .i64 (lo:Int):=(hs1.at_ 1 zU).trans (zV (eU hl g0 g1 g2 g1))
 have t2:aa T1 2=.int .i64 (hi:Int):=(hs1.at_ 2 zU).trans (zV (eU hl g0 g1 g2 g2))
 by_cases hi0:i<hi
 case neg =>
  have hi':¬ (i:Int)<(hi:Int):=by omega
  refine zW (dz hl1 hv t2 hi') ?_
  exact ⟨⟨m,hb1,hp,fun p q h1 h2 h3=>hs p q h1 h2 zO⟩,zK⟩
 have hi':(i:Int)<(hi:Int):=by omega
 refine zW (dz hl1 hv t2 hi') ?_
 refine aQ H0 [7] (fun k vs H'=>∃ j m,vs=[.int .i64 ((j:Nat):Int)]/\k=j/\lo<=j/\j<=i/\Ar H' b m/\Prm lo hi l m/\(∀ p q,lo<=p->p<q->q<=i->p≠j->q≠j->gI m p<=gI m q)/\(∀ q,j<q->q<=i->gI m j<=gI m q)) i (by simp only [List.length_set]; exact hl1) rfl (hk1.up _) ⟨i,m,by exact zV hl1,rfl,by omega,Nat.le_refl _,hb1,hp,fun p q h1 h2 h3 h4 h5=>hs p q h1 h2 zO,fun q h1 h2=>by omega⟩ ?_
 rintro k2 T2 H2 hl2 hs2 hk2 ⟨j,m2,hv2,hkj,hj1,hj2,hb2,hp2,hA,hB⟩
 have w2:=hk2.wf
 have le_hk2:=hk2.le
 simp only [List.map_cons,List.map_nil,List.cons.injEq,and_true] at hv2
 have u0:aa T2 0=.own b 0 n c 1 xf:=(hs2.at_ 0 zU).trans (zV (bb hl1 t0))
 have u1:aa T2 1=.int .i64 (lo:Int):=(hs2.at_ 1 zU).trans (zV (bb hl1 t1))
 have u2:aa T2 2=.int .i64 (hi:Int):=(hs2.at_ 2 zU).trans (zV (bb hl1 t2))
 have u6:aa T2 6=.int .i64 (i:Int):=(hs2.at_ 6 zU).trans (zV (bb hl1 hv))
 have ei:IntKind.i64.wrap ((i:Int)+1)=((i+1:Nat):Int):=by rw [ae] <;> omega
 have hml:m2.length=n:=by rw [hp2.len,hn]
 have fin:∀ H':Heap,Ar H' b m2->(lo<j->gI m2 (j-1)<=gI m2 j)->∃ i' m,[AV.int .i64 ((i+1:Nat):Int)]=[AV.int .i64 ((i':Nat):Int)]/\lo+1<=i'/\hi+1-(i+1)=hi+1-i'/\Ar H' b m/\Prm lo hi l m/\iM m lo i':=fun H' h1 h2=>by
  refine ⟨i+1,m2,rfl,by omega,rfl,h1,hp2,fun p q a1 a2 a3=>?_⟩
  by_cases e1:p=j
  ·subst e1; exact hB q a2 zO
  ·by_cases e2:q=j
   ·subst e2
    have h3:=h2 zO
    by_cases e3:p=q-1
    ·rw [e3]; exact h3
    ·exact Int.le_trans (hA p (q-1) a1 zO zO e1 zO) h3
   ·exact hA p q a1 a2 zO e1 e2
 refine zW hl2 ?_
 refine al ?_
 by_cases hj:lo<j
 case neg =>
  have hj':¬ (lo:Int)<(j:Int):=by omega
  refine zX (jS hl2 hv2 u0 u1 u6 hj' @aC ei) ?_
  exact ⟨zK,hi+1-(i+1),by omega,fin _ hb2 (fun h=>absurd h hj)⟩
 case pos =>
 have hj':(lo:Int)<(j:Int):=by omega
 have ej:IntKind.i64.wrap ((j:Int)-1)=((j-1:Nat):Int):=by rw [ae] <;> omega
 have hx1:=aL hb2 (show j<m2.length by omega)
 have hx2:=aL hb2 (show j-1<m2.length by omega)
 have ix1:a7 1 (.own b 0 n c 1 xf) (.int .i64 (j:Int))=some (.ptr b j):=aT zO
 have ix2:a7 1 (.own b 0 n c 1 xf) (.int .i64 ((j-1:Nat):Int))=some (.ptr b (j-1)):=aT zO
 refine zX (d8 hl2 hv2 u0 u1 hj' @aC ej hx1 hx2 ix1 ix2) ?_
 refine AnsH.eq (dq C zF) fun H3 hk3=>?_
 obtain ⟨k3,_,w3⟩:=zT H2 zK hk3
 have kH3:=hk2.trans k3
 have hb3:Ar H3 b m2:=k3.get hb2
 by_cases hxy:gI m2 j<gI m2 (j-1)
 case neg =>
  rw [decide_eq_false hxy]
  refine zX (gt hl2 hv2 u0 u1 hj' @aC ej hx1 hx2 ix1 ix2 u6 ei) ?_
  exact ⟨zK,hi+1-(i+1),by omega,fin _ hb3 (fun _=>by omega)⟩
 case pos =>
  rw [decide_eq_true hxy]
  refine zX (gt hl2 hv2 u0 u1 hj' @aC ej hx1 hx2 ix1 ix2 u6 ei) ?_
  have lx1:=aL hb3 (show j<m2.length by omega)
  have lx2:=aL hb3 (show j-1<m2.length by omega)
  have sx1:=cW (z:=gI m2 (j-1)) hb3 (show j<m2.length by omega)
  have sx2:=eH (l:=m2.set j (gI m2 (j-1))) (z:=gI m2 j) (show j-1<(m2.set j (gI m2 (j-1))).length by rw [List.length_set]; omega)
  have lt3:=w3 _ _ hb3
  refine kR (fun T'=>T'.length=49/\aa T' 0=.own b 0 n c 1 xf/\aa T' 7=.int .i64 (j:Int)) (zV (fe hl2 u0 hv2)) ?_
  clear hl2 u0 hv2
  rintro T3 ⟨hl3,v0,v7⟩
  refine al ?_
  refine zD (fg hl3 v0 v7 ej lx1 lx2 sx1 sx2 ix1 ix2) ?_
  have hg:=eu (l:=m2) (i:=j) (j:=j-1) zO zO
  refine ⟨zK,j-1,by omega,j-1,iW m2 j (j-1),rfl,rfl,by omega,by omega,aq _ _ _,hp2.swap zO zO zO zO zO,fun p q h1 h2 h3 h4 h5=>?_,fun q h1 h2=>?_⟩
  ·rw [hg,hg,if_neg h4,if_neg h5]
   by_cases e1:p=j
   ·subst e1
    rw [if_pos rfl,if_neg zO]
    exact hA (p-1) q zO zO h3 zO zO
   ·rw [if_neg e1]
    by_cases e2:q=j
    ·subst e2
     rw [if_pos rfl]
     exact hA p (q-1) h1 zO zO zO zO
    ·rw [if_neg e2]
     exact hA p q h1 h2 h3 e1 e2
  ·rw [hg,hg,if_pos rfl,if_neg zO]
   by_cases e1:q=j
   ·rw [if_pos e1]; omega
   ·rw [if_neg e1]
    exact hB q zO h2
end
section
variable {tab:Nat->Option aN} {H:Heap}
set_option maxHeartbeats 8000000 in
theorem wv (C:Code tab) {H0:Heap} {b n c lo hi pv:Nat} {xf:Bool} {l:List Int} (hk:Kp H0 H) (hb:H0.next<=b) (h:Ar H b l) (hn:l.length=n) (hp1:lo<=pv) (hp2:pv<hi) (hhn:hi<=n) (hlim:n<1099511627776) :
  Ans tab (.fn bk [.own b 0 n c 1 xf,.int .i64 (lo:Int),.int .i64 (hi:Int),.int .i64 (pv:Int)]) H fun v H'=>(∃ m i,v=.int .i64 ((i:Nat):Int)/\Ar H' b m/\Prm lo hi l m/\lo<i/\i<=hi/\(∀ k,lo<=k->k<i->gI m k<=gI l pv)/\(∀ k,i<=k->k<hi->gI l pv<gI m k))/\Kp H0 H':=by
 have hw:=hk.wf
 refine wT C.q40 zU fun T hl g0 g1 g2 g3=>?_
 have e01:IntKind.i64.wrap ((lo:Int)+1)=((lo+1:Nat):Int):=by rw [ae] <;> omega
 have e02:IntKind.i64.wrap ((hi:Int)-1)=((hi-1:Nat):Int):=by rw [ae] <;> omega
 have lt0:=hw _ _ h
 have ix1:a7 1 (.own b 0 n c 1 xf) (.int .i64 (lo:Int))=some (.ptr b lo):=aT zO
 have ix2:a7 1 (.own b 0 n c 1 xf) (.int .i64 (pv:Int))=some (.ptr b pv):=aT zO
 have lx1:=aL h (show lo<l.length by omega)
 have lx2:=aL h (show pv<l.length by omega)
 have sx1:=cW (z:=gI l pv) h (show lo<l.length by omega)
 have sx2:=eH (l:=l.set lo (gI l pv)) (z:=gI l lo) (show pv<(l.set lo (gI l pv)).length by rw [List.length_set]; omega)
 refine zW (eU hl g0 g1 g2 g3) ?_
 refine al ?_
 refine zD (gt hl g0 g1 g2 g3 ix1 ix2 lx1 lx2 sx1 sx2 e01 e02) ?_
 have hsw:Prm lo hi l (iW l lo pv):=Prm.swap (.refl _) zO zO zO zO zO
 have hg0:gI (iW l lo pv) lo=gI l pv:=by
  rw [eu zO zO]
  by_cases e:lo=pv
  ·rw [if_pos e,e]
  ·rw [if_neg e,if_pos rfl]
 refine aQ (L:=84) H0 [9,10] (fun k vs H'=>∃ i j m,vs=[.int .i64 ((i:Nat):Int),.int .i64 ((j:Nat):Int)]/\k=j+2-i/\(lo<i/\i<=j+1/\j<hi)/\Ar H' b m/\Prm lo hi l m/\gI m lo=gI l pv/\(∀ k,lo<k->k<i->gI m k<=gI m lo)/\(∀ k,j<k->k<hi->gI m lo<gI m k)) (hi-1+2-(lo+1)) (zE (eU hl g0 g1 g2 g3)) rfl zK ⟨lo+1,hi-1,iW l lo pv,by exact zE (eU hl g0 g1 g2 g3),rfl,by omega,aq _ _ _,hsw,hg0,fun k h1 h2=>by omega,fun k h1 h2=>by omega⟩ ?_
 rintro k0 T0 H0' hl0 hs0 k0' ⟨i0,j0,m,hv,hq,hij,hb0,hpm,hpv,A0,B0⟩
 have w0:=k0'.wf
 simp only [List.map_cons,List.map_nil,List.cons.injEq,and_true] at hv
 obtain ⟨eI_0,eJ_0⟩:=hv
 have e0_0:aa T0 0=.own b 0 n c 1 xf:=(hs0.at_ 0 zU).trans (zE (bb hl g0))
 have e1_0:aa T0 1=.int .i64 (lo:Int):=(hs0.at_ 1 zU).trans (zE (gD hl g0 g1 g2 g3 g1))
 have hml:m.length=n:=by rw [hpm.len,hn]
 clear hs0 hl g0 g1 g2 g3
 have k0:=k0'
 refine zW hl0 ?_
 refine fD H0 [9] (fun q vs H'=>∃ x:Nat,vs=[.int .i64 (x:Int)]/\q=j0+1-x/\(i0<=x/\x<=j0+1)/\Ar H' b m/\∀ k,lo<k->k<x->gI m k<=gI m lo) (fun vs H'=>∃ x:Nat,vs=[.int .i64 (x:Int)]/\(i0<=x/\x<=j0+1)/\Ar H' b m/\(∀ k,lo<k->k<x->gI m k<=gI m lo)/\(x<=j0->gI m lo<gI m x)) (j0+1-i0) hl0 rfl k0 ⟨i0,by simp only [List.map_cons,List.map_nil,eI_0],rfl,by omega,hb0,A0⟩ ?_ ?_
 ·rintro q T1 H1 hlx hs hk1 ⟨x,hv,hq,hr,hb1,hA⟩
  have w1:=hk1.wf
  have le_hk1:=hk1.le
  simp only [List.map_cons,List.map_nil,List.cons.injEq,and_true] at hv
  have u0:aa T1 0=.own b 0 n c 1 xf:=(hs.at_ 0 zU).trans e0_0
  have u1:aa T1 1=.int .i64 (lo:Int):=(hs.at_ 1 zU).trans e1_0
  have uO:aa T1 10=.int .i64 (j0:Int):=(hs.at_ 10 zU).trans eJ_0
  refine zW hlx ?_
  refine al ?_
  by_cases c1:x<=j0
  ·have ixl:a7 1 (.own b 0 n c 1 xf) (.int .i64 (lo:Int))=some (.ptr b lo):=aT zO
   have ixx:a7 1 (.own b 0 n c 1 xf) (.int .i64 (x:Int))=some (.ptr b x):=aT zO
   have ldl:=aL hb1 (show lo<m.length by omega)
   have ldx:=aL hb1 (show x<m.length by omega)
   have ei:IntKind.i64.wrap ((x:Int)+1)=((x+1:Nat):Int):=by rw [ae] <;> omega
   refine zX (d8 hlx hv u0 u1 uO @c1 ixl ixx ldl ldx @aC) ?_
   refine AnsH.eq (dq C zF) fun H2 hk2=>?_
   obtain ⟨k2,_,_⟩:=zT H1 zK hk2
   have kH2:=hk1.trans k2
   have w2:=hk2.wf
   have le_hk2:=hk2.le
   have hb2:Ar H2 b m:=k2.get hb1
   by_cases c2:gI m lo<gI m x
   ·rw [decide_eq_true c2]
    refine zX (dC hlx hv u0 u1 uO @c1 ixl ixx ldl ldx @aC ei) ?_
    exact ⟨zK,x,rfl,hr,hb2,hA,fun _=>by omega⟩
   ·rw [decide_eq_false c2]
    refine zX (dC hlx hv u0 u1 uO @c1 ixl ixx ldl ldx @aC ei) ?_
    exact ⟨zK,j0+1-(x+1),by omega,x+1,rfl,rfl,by omega,hb2,fun k h1 h2=>by
     by_cases e:k=x
     ·rw [e]; omega
     ·exact hA k h1 zO⟩
  ·refine zX (eU hlx hv uO @c1 @aC) ?_
   exact ⟨zK,x,rfl,hr,hb1,hA,fun h=>absurd h c1⟩
 rintro T1 H1 hl1 hs1 k1 ⟨i1,hv,hr1,hb1,A1,C1⟩
 have w1:=k1.wf
 simp only [List.map_cons,List.map_nil,List.cons.injEq,and_true] at hv
 have eI_1:aa T1 9=.int .i64 (i1:Int):=hv
 have e0_1:aa T1 0=.own b 0 n c 1 xf:=(hs1.at_ 0 zU).trans e0_0
 have e1_1:aa T1 1=.int .i64 (lo:Int):=(hs1.at_ 1 zU).trans e1_0
 have eJ_1:aa T1 10=.int .i64 (j0:Int):=(hs1.at_ 10 zU).trans eJ_0
 clear hl0 hs1 e0_0 e1_0 eI_0 eJ_0 hv
 refine zW hl1 ?_
 refine fD H0 [10] (fun q vs H'=>∃ x:Nat,vs=[.int .i64 (x:Int)]/\q=x+1-i1/\(i1<=x+1/\x<=j0)/\Ar H' b m/\∀ k,x<k->k<hi->gI m lo<gI m k) (fun vs H'=>∃ x:Nat,vs=[.int .i64 (x:Int)]/\(i1<=x+1/\x<=j0)/\Ar H' b m/\(∀ k,x<k->k<hi->gI m lo<gI m k)/\(i1<=x->gI m x<=gI m lo)) (j0+1-i1) hl1 rfl k1 ⟨j0,by simp only [List.map_cons,List.map_nil,eJ_1],rfl,by omega,hb1,B0⟩ ?_ ?_
 ·rintro q T1 H1 hlx hs hk1 ⟨x,hv,hq,hr,hb1,hA⟩
  have w1:=hk1.wf
  have le_hk1:=hk1.le
  simp only [List.map_cons,List.map_nil,List.cons.injEq,and_true] at hv
  have u0:aa T1 0=.own b 0 n c 1 xf:=(hs.at_ 0 zU).trans e0_1
  have u1:aa T1 1=.int .i64 (lo:Int):=(hs.at_ 1 zU).trans e1_1
  have uO:aa T1 9=.int .i64 (i1:Int):=(hs.at_ 9 zU).trans eI_1
  refine zW hlx ?_
  refine al ?_
  by_cases c1:i1<=x
  ·have ixl:a7 1 (.own b 0 n c 1 xf) (.int .i64 (lo:Int))=some (.ptr b lo):=aT zO
   have ixx:a7 1 (.own b 0 n c 1 xf) (.int .i64 (x:Int))=some (.ptr b x):=aT zO
   have ldl:=aL hb1 (show lo<m.length by omega)
   have ldx:=aL hb1 (show x<m.length by omega)
   have ei:IntKind.i64.wrap ((x:Int)-1)=((x-1:Nat):Int):=by rw [ae] <;> omega
   refine zX (d8 hlx hv u0 u1 uO @c1 ixl ixx ldl ldx @aC) ?_
   refine AnsH.eq (dq C zF) fun H2 hk2=>?_
   obtain ⟨k2,_,_⟩:=zT H1 zK hk2
   have kH2:=hk1.trans k2
   have w2:=hk2.wf
   have le_hk2:=hk2.le
   have hb2:Ar H2 b m:=k2.get hb1
   by_cases c2:gI m lo<gI m x
   ·rw [decide_eq_true c2]
    refine zX (dC hlx hv u0 u1 uO @c1 ixl ixx ldl ldx @aC ei) ?_
    exact ⟨zK,(x-1)+1-i1,by omega,x-1,rfl,rfl,by omega,hb2,fun k h1 h2=>by
     by_cases e:k=x
     ·rw [e]; omega
     ·exact hA k zO h2⟩
   ·rw [decide_eq_false c2]
    refine zX (dC hlx hv u0 u1 uO @c1 ixl ixx ldl ldx @aC ei) ?_
    exact ⟨zK,x,rfl,hr,hb2,hA,fun _=>by omega⟩
  ·refine zX (eU hlx hv uO @c1 @aC) ?_
   exact ⟨zK,x,rfl,hr,hb1,hA,fun h=>absurd h c1⟩
 rintro T2 H2 hl2 hs2 k2 ⟨j2,hv,hr2,hb2,B2,C2⟩
 have w2:=k2.wf
 simp only [List.map_cons,List.map_nil,List.cons.injEq,and_true] at hv
 have eJ_2:aa T2 10=.int .i64 (j2:Int):=hv
 have e0_2:aa T2 0=.own b 0 n c 1 xf:=(hs2.at_ 0 zU).trans e0_1
 have e1_2:aa T2 1=.int .i64 (lo:Int):=(hs2.at_ 1 zU).trans e1_1
 have eI_2:aa T2 9=.int .i64 (i1:Int):=(hs2.at_ 9 zU).trans eI_1
 clear hl1 hs2 e0_1 e1_1 eI_1 eJ_1 hv
 by_cases hx:j2<i1
 ·refine zW (dz hl2 eI_2 eJ_2 hx) ?_
  refine ⟨⟨m,i1,rfl,hb2,hpm,by omega,by omega,fun k h1 h2=>?_,fun k h1 h2=>?_⟩,zK⟩
  ·rw [<- hpv]
   by_cases e:k=lo
   ·rw [e]; exact Int.le_refl _
   ·exact A1 k zO h2
  ·rw [<- hpv]; exact B2 k zO h2
 have xM:=C1 zO
 have hd2:=C2 zO
 have hne:i1≠j2:=fun e=>by rw [e] at xM; omega
 have ei:IntKind.i64.wrap ((i1:Int)+1)=((i1+1:Nat):Int):=by rw [ae] <;> omega
 have ej:IntKind.i64.wrap ((j2:Int)-1)=((j2-1:Nat):Int):=by rw [ae] <;> omega
 have lt2:=w2 _ _ hb2
 have ix1:a7 1 (.own b 0 n c 1 xf) (.int .i64 (i1:Int))=some (.ptr b i1):=aT zO
 have ix2:a7 1 (.own b 0 n c 1 xf) (.int .i64 (j2:Int))=some (.ptr b j2):=aT zO
 have lx1:=aL hb2 (show i1<m.length by omega)
 have lx2:=aL hb2 (show j2<m.length by omega)
 have sx1:=cW (z:=gI m j2) hb2 (show i1<m.length by omega)
 have sx2:=eH (l:=m.set i1 (gI m j2)) (z:=gI m i1) (show j2<(m.set i1 (gI m j2)).length by rw [List.length_set]; omega)
 refine zW (dz hl2 eI_2 eJ_2 hx) ?_
 refine al ?_
 refine zD (dC hl2 eI_2 eJ_2 e0_2 ix1 ix2 lx1 lx2 sx1 sx2 ei ej) ?_
 have hg:=eu (l:=m) (i:=i1) (j:=j2) zO zO
 refine ⟨zK,j2-1+2-(i1+1),by omega,i1+1,j2-1,iW m i1 j2,rfl,rfl,by omega,aq _ _ _,hpm.swap zO zO zO zO zO,?_,fun k h1 h2=>?_,fun k h1 h2=>?_⟩
 ·rw [hg,if_neg zO,if_neg zO]; exact hpv
 ·rw [hg,hg,if_neg (by omega:¬ lo=j2),if_neg (by omega:¬ lo=i1),if_neg (by omega:¬ k=j2)]
  by_cases e:k=i1
  ·rw [if_pos e]; exact hd2
  ·rw [if_neg e]; exact A1 k h1 zO
 ·rw [hg,hg,if_neg (by omega:¬ lo=j2),if_neg (by omega:¬ lo=i1)]
  by_cases e:k=j2
  ·rw [if_pos e]; exact xM
  ·rw [if_neg e,if_neg zO]; exact B2 k zO h2
end
end Go.Proofs.Ytekmejlgocineaa.Ev
